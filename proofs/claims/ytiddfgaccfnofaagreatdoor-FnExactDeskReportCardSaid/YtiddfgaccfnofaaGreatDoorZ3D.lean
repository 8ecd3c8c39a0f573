/- Several texts in one: the functions that this law reaches, and their laws. -/
import Derived.Test.YtiddfgaccfnofaaGreatDoorZ3A
import Derived.Test.YtiddfgaccfnofaaGreatDoorZ3B
import Derived.Test.YtiddfgaccfnofaaGreatDoorZ3C
import Derived.Shelf.Strconv.Itoa0
import Derived.Shelf.Strconv.Itoa1
import Derived.Shelf.LaysM
import Derived.Shelf.Strconv.Itoa2
import Derived.Shelf.Strconv.Itoa3
import Derived.Shelf.Strconv.Itoa4
set_option linter.unusedVariables false
set_option linter.unusedSimpArgs false
set_option maxRecDepth 100000
namespace Go.Proofs.YtiddfgaccfnofaaGreatDoor
open Go Go.Am Go.Proofs
noncomputable section
def ext146c127 : Ext := [(127, S127)]
theorem ext146c127Ok : ExtOk Tryz.prog ext146c127 := ⟨⟨ca127, con127⟩, trivial⟩
noncomputable def b146c127 : Code := bodyOf Tryz.f146
theorem hb146c127 : Tryz.f146.body = some b146c127 := by kernel_rfl
def sig146c127 : List AT := [AT.v (Ty.sl YA4), AT.fn 127 []]
def tys146c127 : List Ty := [Ty.int .i64]
def kds146c127 : List RK := []
def oks146c127 : List AT := owns sig146c127
def E146c127_2 (v8 : Int) (x0 : List TyB2) : Env := [(0, PV.a (Atom.sl YA4 x0)), (1, PV.fn 127 []), (7, PV.a (Atom.val (Value.int .i64 (↑(List.length x0) : Int)))), (8, PV.a (Atom.val (Value.int .i64 v8)))]
def L146c127_2 (v8 : Int) (x0 : List TyB2) : Heap := []
mutual
def R146c127 : Nat → List TyB2 → List Dyn → Prop
  | 0, _, _ => False
  | n + 1, x0, ds => (R146c127_2 n (0) (x0) ds)
def R146c127_2 : Nat → Int → List TyB2 → List Dyn → Prop
  | 0, _, _, _ => False
  | n + 1, v8, x0, ds => (if (decide (v8 < (↑(List.length x0) : Int))) = true then ((0 ≤ v8) ∧ (v8 < (↑(List.length x0) : Int)) ∧ (if (g127_0 (List.getD x0 (Int.toNat v8) (0, 0, 0, ()))) = true then (ds = [Dyn.mk (Ty.int .i64) v8]) else ((InR .i64 (v8 + 1)) ∧ (R146c127_2 n (v8 + 1) (x0) ds)))) else (ds = [Dyn.mk (Ty.int .i64) (-1)]))
end
theorem snd146c127 : ∀ n, (∀ (x0 : List TyB2) ds, R146c127 n x0 ds → ∀ K q, AtV Tryz.prog 146 (PostR kds146c127 oks146c127 ds [] [] q K) 19 K q [] [.code b146c127] (entE 0 0 sig146c127 (x0, (), ())) (entL sig146c127 (x0, (), ()))) ∧ (∀ (v8 : Int) (x0 : List TyB2) ds, R146c127_2 n v8 x0 ds → ∀ K q, AtV Tryz.prog 146 (PostR kds146c127 oks146c127 ds [] [] q K) 19 K q [] (cutAt b146c127 2) (E146c127_2 v8 x0) (L146c127_2 v8 x0)) := by
  intro n
  induction n with
  | zero => exact ⟨fun _ _ h => by simp only [R146c127] at h, fun _ _ _ h => by simp only [R146c127_2] at h⟩
  | succ n ih =>
  obtain ⟨ih, ih2⟩ := ih
  refine ⟨?_, ?_⟩
  · intro x0 ds h K q
    rw [R146c127] at h
    exact AtV.go tabOk ext146c127Ok mixed false [] [] [0, 1, 7, 8] [] [] trivial (ih2 _ _ _ h K q) (by kernel_rfl)
  · intro v8 x0 ds h K q
    rw [R146c127_2] at h
    by_cases b0 : (decide (v8 < (↑(List.length x0) : Int))) = true
    · rw [if_pos b0] at h
      obtain ⟨s0, s1, h⟩ := h
      by_cases b1 : (g127_0 (List.getD x0 (Int.toNat v8) (0, 0, 0, ()))) = true
      · rw [if_pos b1] at h
        subst h
        exact AtV.ret Tryz.func146 tabOk ext146c127Ok mixed false [] tys146c127 [true, true] (a1 b0 (a1 s0 (a1 s1 (a1 trivial (a1 b1 trivial))))) (by kernel_rfl)
      · rw [if_neg b1] at h
        replace b1 := Bool.eq_false_iff.2 b1
        obtain ⟨s2, h⟩ := h
        exact AtV.go tabOk ext146c127Ok mixed false [] [] [0, 1, 7, 8] [] [true, false] (a1 b0 (a1 s0 (a1 s1 (a1 trivial (a1 b1 (a1 s2 trivial)))))) (ih2 _ _ _ h K q) (by kernel_rfl)
    · rw [if_neg b0] at h
      replace b0 := Bool.eq_false_iff.2 b0
      subst h
      exact AtV.ret Tryz.func146 tabOk ext146c127Ok mixed false [] tys146c127 [false] (a1 b0 trivial) (by kernel_rfl)
def g146c127_0 (x0 : List TyB2) : Int := idx (x0.findIdx? g127_0)
def P146c127 (x0 : List TyB2) : Prop := True
theorem top146c127 (x0 : List TyB2) (hm : x0.length ≤ maxLen) : R146c127 (x0.length + 1 + 1) x0 [⟨.int .i64, g146c127_0 x0⟩] := by
  rw [R146c127]
  have key := loop_find x0 ((0 : Int), (0 : Int), (0 : Int), ()) g127_0 [(⟨.int .i64, -1⟩ : Dyn)] (fun k => [⟨.int .i64, k⟩]) (fun n i ds => R146c127_2 n i x0 ds) (fun n => ?_) (fun n i hi hok ds hr => ?_) (fun n i hi hok => ?_)
  · unfold g146c127_0
    cases h : x0.findIdx? g127_0 <;> rw [h] at key <;> exact key
  · rw [R146c127_2, if_neg (by simp)]
  · rw [R146c127_2, if_pos (by simp; omega)]
    simp only [Int.toNat_natCast]
    refine ⟨by omega, by omega, ?_⟩
    rw [if_neg (by rw [hok]; simp)]
    exact ⟨inR_up hm hi, hr⟩
  · rw [R146c127_2, if_pos (by simp; omega)]
    simp only [Int.toNat_natCast]
    refine ⟨by omega, by omega, ?_⟩
    rw [if_pos hok] <;> trivial
def S146c127 : Am.Spec := { sig := sig146c127, pre := fun ⟨x0, _⟩ => P146c127 x0, res := fun ⟨x0, _⟩ => [⟨Ty.int .i64, g146c127_0 x0⟩] }
theorem con146c127 : Contract Tryz.prog 146 S146c127 := contract_of Tryz.func146 hb146c127 (Nat.le_of_ble_eq_true (by kernel_rfl)) (fun ⟨x0, _⟩ h hwf K q =>
  (snd146c127 _).1 x0 _ (top146c127 x0 hwf.1.1) K q)
theorem any146c127 (x0 : List TyB2) : decide (g146c127_0 x0 ≥ 0) = x0.any g127_0 := by
  have := findIdx_any g127_0 x0
  unfold g146c127_0
  cases h : x0.any g127_0 with
  | true => rw [h] at this; simpa using this
  | false => rw [h] at this; simpa using this
end
noncomputable section
def ext126c127 : Ext := [(146, S146c127), (127, S127)]
theorem ext126c127Ok : ExtOk Tryz.prog ext126c127 := ⟨⟨ca146, con146c127⟩, ⟨ca127, con127⟩, trivial⟩
noncomputable def b126c127 : Code := bodyOf Tryz.f126
theorem hb126c127 : Tryz.f126.body = some b126c127 := by kernel_rfl
def sig126c127 : List AT := [AT.v (Ty.sl YA4), AT.fn 127 []]
def tys126c127 : List Ty := [Ty.bool]
def kds126c127 : List RK := []
def oks126c127 : List AT := owns sig126c127
def P126c127 (x0 : List TyB2) : Prop := True
def g126c127_0 (x0 : List TyB2) : Bool := decide (g146c127_0 x0 ≥ 0)
theorem at126c127 (x0 : List TyB2) (h : P126c127 x0) (K : Ctx) (q : Nat → Value) : AtV Tryz.prog 126 (PostR kds126c127 oks126c127 [⟨Ty.bool, g126c127_0 x0⟩] [] [] q K) 9 K q [] [.code b126c127] (entE 0 0 sig126c127 (x0, (), ())) (entL sig126c127 (x0, (), ())) := by
  unfold P126c127 at h
  unfold g126c127_0
  exact AtV.ret Tryz.func126 tabOk ext126c127Ok mixed false [] tys126c127 [] (a1 trivial trivial) (by kernel_rfl)
def S126c127 : Am.Spec := { sig := sig126c127, pre := fun ⟨x0, _⟩ => P126c127 x0, res := fun ⟨x0, _⟩ => [⟨Ty.bool, g126c127_0 x0⟩], kds := kds126c127 }
theorem con126c127 : Contract Tryz.prog 126 S126c127 := contract_of Tryz.func126 hb126c127 (Nat.le_of_ble_eq_true (by kernel_rfl)) (fun ⟨x0, _⟩ h _ K q => at126c127 x0 h K q)
end
noncomputable section
def ext94 : Ext := [(126, S126c127)]
theorem ext94Ok : ExtOk Tryz.prog ext94 := ⟨⟨ca126, con126c127⟩, trivial⟩
noncomputable def b94 : Code := bodyOf Tryz.f94
theorem hb94 : Tryz.f94.body = some b94 := by kernel_rfl
def sig94 : List AT := [AT.v (Ty.sl YA4)]
def tys94 : List Ty := [Ty.bool]
def kds94 : List RK := []
def oks94 : List AT := owns sig94
def P94 (x0 : List TyB2) : Prop := True
def g94_0 (x0 : List TyB2) : Bool := (if (decide ((↑(List.length x0) : Int) ≤ 8)) = true then !g126c127_0 x0 else false)
theorem at94 (x0 : List TyB2) (h : P94 x0) (K : Ctx) (q : Nat → Value) : AtV Tryz.prog 94 (PostR kds94 oks94 [⟨Ty.bool, g94_0 x0⟩] [] [] q K) 11 K q [] [.code b94] (entE 0 0 sig94 (x0, ())) (entL sig94 (x0, ())) := by
  unfold P94 at h
  unfold g94_0
  by_cases b0 : (decide ((↑(List.length x0) : Int) ≤ 8)) = true
  · try simp only [if_pos b0] at h ⊢
    exact AtV.ret Tryz.func94 tabOk ext94Ok mixed false [] tys94 [true] (a1 b0 (a1 trivial trivial)) (by kernel_rfl)
  · try simp only [if_neg b0] at h ⊢
    replace b0 := Bool.eq_false_iff.2 b0
    exact AtV.ret Tryz.func94 tabOk ext94Ok mixed false [] tys94 [false] (a1 b0 trivial) (by kernel_rfl)
def S94 : Am.Spec := { sig := sig94, pre := fun ⟨x0, _⟩ => P94 x0, res := fun ⟨x0, _⟩ => [⟨Ty.bool, g94_0 x0⟩], kds := kds94 }
theorem con94 : Contract Tryz.prog 94 S94 := contract_of Tryz.func94 hb94 (Nat.le_of_ble_eq_true (by kernel_rfl)) (fun ⟨x0, _⟩ h _ K q => at94 x0 h K q)
end
noncomputable section
def ext95 : Ext := [(122, S122)]
theorem ext95Ok : ExtOk Tryz.prog ext95 := ⟨⟨ca122, con122⟩, trivial⟩
noncomputable def b95 : Code := bodyOf Tryz.f95
theorem hb95 : Tryz.f95.body = some b95 := by kernel_rfl
def sig95 : List AT := [AT.v YA4]
def tys95 : List Ty := [Ty.bool]
def kds95 : List RK := []
def oks95 : List AT := owns sig95
def P95 (x0 : Int × Int × Int × Unit) : Prop := True
def g95_0 (x0 : Int × Int × Int × Unit) : Bool := (if (g122_0 x0.1 1000 10000000) = true then (if (g122_0 x0.2.1 100 1000000) = true then g122_0 x0.2.2.1 0 500 else false) else false)
theorem at95 (x0 : Int × Int × Int × Unit) (h : P95 x0) (K : Ctx) (q : Nat → Value) : AtV Tryz.prog 95 (PostR kds95 oks95 [⟨Ty.bool, g95_0 x0⟩] [] [] q K) 16 K q [] [.code b95] (entE 0 0 sig95 (x0, ())) (entL sig95 (x0, ())) := by
  unfold P95 at h
  unfold g95_0
  by_cases b0 : (g122_0 x0.1 1000 10000000) = true
  · try simp only [if_pos b0] at h ⊢
    by_cases b1 : (g122_0 x0.2.1 100 1000000) = true
    · try simp only [if_pos b1] at h ⊢
      exact AtV.ret Tryz.func95 tabOk ext95Ok mixed false [] tys95 [true, true] (a1 trivial (a1 b0 (a1 trivial (a1 b1 (a1 trivial trivial))))) (by kernel_rfl)
    · try simp only [if_neg b1] at h ⊢
      replace b1 := Bool.eq_false_iff.2 b1
      exact AtV.ret Tryz.func95 tabOk ext95Ok mixed false [] tys95 [true, false] (a1 trivial (a1 b0 (a1 trivial (a1 b1 trivial)))) (by kernel_rfl)
  · try simp only [if_neg b0] at h ⊢
    replace b0 := Bool.eq_false_iff.2 b0
    exact AtV.ret Tryz.func95 tabOk ext95Ok mixed false [] tys95 [false, false] (a1 trivial (a1 b0 (a1 (rfl : false = false) trivial))) (by kernel_rfl)
def S95 : Am.Spec := { sig := sig95, pre := fun ⟨x0, _⟩ => P95 x0, res := fun ⟨x0, _⟩ => [⟨Ty.bool, g95_0 x0⟩], kds := kds95 }
theorem con95 : Contract Tryz.prog 95 S95 := contract_of Tryz.func95 hb95 (Nat.le_of_ble_eq_true (by kernel_rfl)) (fun ⟨x0, _⟩ h _ K q => at95 x0 h K q)
end
noncomputable section
def ext129 : Ext := []
theorem ext129Ok : ExtOk Tryz.prog ext129 := trivial
noncomputable def b129 : Code := bodyOf Tryz.f129
theorem hb129 : Tryz.f129.body = some b129 := by kernel_rfl
def sig129 : List AT := [AT.v YA4]
def tys129 : List Ty := [Ty.bool]
def kds129 : List RK := []
def oks129 : List AT := owns sig129
def P129 (x0 : Int × Int × Int × Unit) : Prop := True
def g129_0 (x0 : Int × Int × Int × Unit) : Bool := (if (x0.1 == 1) = true then true else x0.1 == 3)
theorem at129 (x0 : Int × Int × Int × Unit) (h : P129 x0) (K : Ctx) (q : Nat → Value) : AtV Tryz.prog 129 (PostR kds129 oks129 [⟨Ty.bool, g129_0 x0⟩] [] [] q K) 11 K q [] [.code b129] (entE 0 0 sig129 (x0, ())) (entL sig129 (x0, ())) := by
  unfold P129 at h
  unfold g129_0
  by_cases b0 : (x0.1 == 1) = true
  · try simp only [if_pos b0] at h ⊢
    exact AtV.ret Tryz.func129 tabOk ext129Ok mixed false [] tys129 [true] (a1 b0 trivial) (by kernel_rfl)
  · try simp only [if_neg b0] at h ⊢
    replace b0 := Bool.eq_false_iff.2 b0
    exact AtV.ret Tryz.func129 tabOk ext129Ok mixed false [] tys129 [false] (a1 b0 trivial) (by kernel_rfl)
def S129 : Am.Spec := { sig := sig129, pre := fun ⟨x0, _⟩ => P129 x0, res := fun ⟨x0, _⟩ => [⟨Ty.bool, g129_0 x0⟩], kds := kds129 }
theorem con129 : Contract Tryz.prog 129 S129 := contract_of Tryz.func129 hb129 (Nat.le_of_ble_eq_true (by kernel_rfl)) (fun ⟨x0, _⟩ h _ K q => at129 x0 h K q)
end
noncomputable section
def ext96 : Ext := [(122, S122), (129, S129)]
theorem ext96Ok : ExtOk Tryz.prog ext96 := ⟨⟨ca122, con122⟩, ⟨ca129, con129⟩, trivial⟩
noncomputable def b96 : Code := bodyOf Tryz.f96
theorem hb96 : Tryz.f96.body = some b96 := by kernel_rfl
def sig96 : List AT := [AT.v YA4]
def tys96 : List Ty := [Ty.bool]
def kds96 : List RK := []
def oks96 : List AT := owns sig96
def P96 (x0 : Int × Int × Int × Unit) : Prop := True
def g96_0 (x0 : Int × Int × Int × Unit) : Bool := (if (!g122_0 x0.1 0 3) = true then false else (if (!g129_0 x0) = true then (if (x0.2.1 == 0) = true then x0.2.2.1 == 0 else false) else (if (g122_0 x0.2.1 0 2) = true then g122_0 x0.2.2.1 0 3 else false)))
theorem at96 (x0 : Int × Int × Int × Unit) (h : P96 x0) (K : Ctx) (q : Nat → Value) : AtV Tryz.prog 96 (PostR kds96 oks96 [⟨Ty.bool, g96_0 x0⟩] [] [] q K) 26 K q [] [.code b96] (entE 0 0 sig96 (x0, ())) (entL sig96 (x0, ())) := by
  unfold P96 at h
  unfold g96_0
  by_cases b0 : (!g122_0 x0.1 0 3) = true
  · try simp only [if_pos b0] at h ⊢
    exact AtV.ret Tryz.func96 tabOk ext96Ok mixed false [] tys96 [true] (a1 trivial (a1 b0 trivial)) (by kernel_rfl)
  · try simp only [if_neg b0] at h ⊢
    replace b0 := Bool.eq_false_iff.2 b0
    by_cases b1 : (!g129_0 x0) = true
    · try simp only [if_pos b1] at h ⊢
      by_cases b2 : (x0.2.1 == 0) = true
      · try simp only [if_pos b2] at h ⊢
        exact AtV.ret Tryz.func96 tabOk ext96Ok mixed false [] tys96 [false, true, true] (a1 trivial (a1 b0 (a1 trivial (a1 b1 (a1 b2 trivial))))) (by kernel_rfl)
      · try simp only [if_neg b2] at h ⊢
        replace b2 := Bool.eq_false_iff.2 b2
        exact AtV.ret Tryz.func96 tabOk ext96Ok mixed false [] tys96 [false, true, false] (a1 trivial (a1 b0 (a1 trivial (a1 b1 (a1 b2 trivial))))) (by kernel_rfl)
    · try simp only [if_neg b1] at h ⊢
      replace b1 := Bool.eq_false_iff.2 b1
      by_cases b2 : (g122_0 x0.2.1 0 2) = true
      · try simp only [if_pos b2] at h ⊢
        exact AtV.ret Tryz.func96 tabOk ext96Ok mixed false [] tys96 [false, false, true] (a1 trivial (a1 b0 (a1 trivial (a1 b1 (a1 trivial (a1 b2 (a1 trivial trivial))))))) (by kernel_rfl)
      · try simp only [if_neg b2] at h ⊢
        replace b2 := Bool.eq_false_iff.2 b2
        exact AtV.ret Tryz.func96 tabOk ext96Ok mixed false [] tys96 [false, false, false] (a1 trivial (a1 b0 (a1 trivial (a1 b1 (a1 trivial (a1 b2 trivial)))))) (by kernel_rfl)
def S96 : Am.Spec := { sig := sig96, pre := fun ⟨x0, _⟩ => P96 x0, res := fun ⟨x0, _⟩ => [⟨Ty.bool, g96_0 x0⟩], kds := kds96 }
theorem con96 : Contract Tryz.prog 96 S96 := contract_of Tryz.func96 hb96 (Nat.le_of_ble_eq_true (by kernel_rfl)) (fun ⟨x0, _⟩ h _ K q => at96 x0 h K q)
end
noncomputable section
def ext149 : Ext := [(122, S122)]
theorem ext149Ok : ExtOk Tryz.prog ext149 := ⟨⟨ca122, con122⟩, trivial⟩
noncomputable def b149 : Code := bodyOf Tryz.f149
theorem hb149 : Tryz.f149.body = some b149 := by kernel_rfl
def sig149 : List AT := [AT.v (Ty.int .i64)]
def tys149 : List Ty := [Ty.bool]
def kds149 : List RK := []
def oks149 : List AT := owns sig149
def P149 (x0 : Int) : Prop := True
def g149_0 (x0 : Int) : Bool := g122_0 x0 0 1440
theorem at149 (x0 : Int) (h : P149 x0) (K : Ctx) (q : Nat → Value) : AtV Tryz.prog 149 (PostR kds149 oks149 [⟨Ty.bool, g149_0 x0⟩] [] [] q K) 5 K q [] [.code b149] (entE 0 0 sig149 (x0, ())) (entL sig149 (x0, ())) := by
  unfold P149 at h
  unfold g149_0
  exact AtV.ret Tryz.func149 tabOk ext149Ok mixed false [] tys149 [] (a1 trivial trivial) (by kernel_rfl)
def S149 : Am.Spec := { sig := sig149, pre := fun ⟨x0, _⟩ => P149 x0, res := fun ⟨x0, _⟩ => [⟨Ty.bool, g149_0 x0⟩], kds := kds149 }
theorem con149 : Contract Tryz.prog 149 S149 := contract_of Tryz.func149 hb149 (Nat.le_of_ble_eq_true (by kernel_rfl)) (fun ⟨x0, _⟩ h _ K q => at149 x0 h K q)
end
noncomputable section
def ext130 : Ext := [(143, S143), (149, S149)]
theorem ext130Ok : ExtOk Tryz.prog ext130 := ⟨⟨ca143, con143⟩, ⟨ca149, con149⟩, trivial⟩
noncomputable def b130 : Code := bodyOf Tryz.f130
theorem hb130 : Tryz.f130.body = some b130 := by kernel_rfl
def sig130 : List AT := [AT.v YA5]
def tys130 : List Ty := [Ty.bool]
def kds130 : List RK := []
def oks130 : List AT := owns sig130
def P130 (x0 : ByteArray × Int × Int × Unit) : Prop := True
def g130_0 (x0 : ByteArray × Int × Int × Unit) : Bool := (if (g143_0 x0.1) = true then (if (g149_0 x0.2.1) = true then (if (g149_0 x0.2.2.1) = true then decide (x0.2.1 < x0.2.2.1) else false) else false) else false)
theorem at130 (x0 : ByteArray × Int × Int × Unit) (h : P130 x0) (K : Ctx) (q : Nat → Value) : AtV Tryz.prog 130 (PostR kds130 oks130 [⟨Ty.bool, g130_0 x0⟩] [] [] q K) 23 K q [] [.code b130] (entE 0 0 sig130 (x0, ())) (entL sig130 (x0, ())) := by
  unfold P130 at h
  unfold g130_0
  by_cases b0 : (g143_0 x0.1) = true
  · try simp only [if_pos b0] at h ⊢
    by_cases b1 : (g149_0 x0.2.1) = true
    · try simp only [if_pos b1] at h ⊢
      by_cases b2 : (g149_0 x0.2.2.1) = true
      · try simp only [if_pos b2] at h ⊢
        exact AtV.ret Tryz.func130 tabOk ext130Ok mixed false [] tys130 [true, true, true] (a1 trivial (a1 b0 (a1 trivial (a1 b1 (a1 trivial (a1 b2 trivial)))))) (by kernel_rfl)
      · try simp only [if_neg b2] at h ⊢
        replace b2 := Bool.eq_false_iff.2 b2
        exact AtV.ret Tryz.func130 tabOk ext130Ok mixed false [] tys130 [true, true, false] (a1 trivial (a1 b0 (a1 trivial (a1 b1 (a1 trivial (a1 b2 trivial)))))) (by kernel_rfl)
    · try simp only [if_neg b1] at h ⊢
      replace b1 := Bool.eq_false_iff.2 b1
      exact AtV.ret Tryz.func130 tabOk ext130Ok mixed false [] tys130 [true, false, false] (a1 trivial (a1 b0 (a1 trivial (a1 b1 (a1 (rfl : false = false) trivial))))) (by kernel_rfl)
  · try simp only [if_neg b0] at h ⊢
    replace b0 := Bool.eq_false_iff.2 b0
    exact AtV.ret Tryz.func130 tabOk ext130Ok mixed false [] tys130 [false, false, false] (a1 trivial (a1 b0 (a1 (rfl : false = false) (a1 (rfl : false = false) trivial)))) (by kernel_rfl)
def S130 : Am.Spec := { sig := sig130, pre := fun ⟨x0, _⟩ => P130 x0, res := fun ⟨x0, _⟩ => [⟨Ty.bool, g130_0 x0⟩], kds := kds130 }
theorem con130 : Contract Tryz.prog 130 S130 := contract_of Tryz.func130 hb130 (Nat.le_of_ble_eq_true (by kernel_rfl)) (fun ⟨x0, _⟩ h _ K q => at130 x0 h K q)
end
noncomputable section
def ext97 : Ext := [(130, S130)]
theorem ext97Ok : ExtOk Tryz.prog ext97 := ⟨⟨ca130, con130⟩, trivial⟩
noncomputable def b97 : Code := bodyOf Tryz.f97
theorem hb97 : Tryz.f97.body = some b97 := by kernel_rfl
def sig97 : List AT := [AT.v (Ty.sl YA5)]
def tys97 : List Ty := [Ty.bool]
def kds97 : List RK := []
def oks97 : List AT := owns sig97
def E97_2 (v7 : Int) (x0 : List TyB1) : Env := [(0, PV.a (Atom.sl YA5 x0)), (5, PV.a (Atom.sl YA5 x0)), (6, PV.a (Atom.val (Value.int .i64 (↑(List.length x0) : Int)))), (7, PV.a (Atom.val (Value.int .i64 v7)))]
def L97_2 (v7 : Int) (x0 : List TyB1) : Heap := []
mutual
def R97 : Nat → List TyB1 → List Dyn → Prop
  | 0, _, _ => False
  | n + 1, x0, ds => (R97_2 n (0) (x0) ds)
def R97_2 : Nat → Int → List TyB1 → List Dyn → Prop
  | 0, _, _, _ => False
  | n + 1, v7, x0, ds => (if (decide (v7 < (↑(List.length x0) : Int))) = true then ((0 ≤ v7) ∧ (v7 < (↑(List.length x0) : Int)) ∧ (if (!g130_0 (List.getD x0 (Int.toNat v7) (ByteArray.empty, 0, 0, ()))) = true then (ds = [Dyn.mk Ty.bool false]) else (if (decide (v7 > 0)) = true then ((InR .i64 (v7 - 1)) ∧ ((0 ≤ v7 - 1) ∧ (v7 - 1 < (↑(List.length x0) : Int)) ∧ (if (Op.bytesLess (ByteArray.toList (List.getD x0 (Int.toNat v7) (ByteArray.empty, 0, 0, ())).1) (ByteArray.toList (List.getD x0 (Int.toNat (v7 - 1)) (ByteArray.empty, 0, 0, ())).1) || ByteArray.toList (List.getD x0 (Int.toNat v7) (ByteArray.empty, 0, 0, ())).1 == ByteArray.toList (List.getD x0 (Int.toNat (v7 - 1)) (ByteArray.empty, 0, 0, ())).1) = true then (ds = [Dyn.mk Ty.bool false]) else ((InR .i64 (v7 + 1)) ∧ (R97_2 n (v7 + 1) (x0) ds))))) else ((InR .i64 (v7 + 1)) ∧ (R97_2 n (v7 + 1) (x0) ds))))) else (ds = [Dyn.mk Ty.bool (decide ((↑(List.length x0) : Int) ≤ 12))]))
end
theorem snd97 : ∀ n, (∀ (x0 : List TyB1) ds, R97 n x0 ds → ∀ K q, AtV Tryz.prog 97 (PostR kds97 oks97 ds [] [] q K) 34 K q [] [.code b97] (entE 0 0 sig97 (x0, ())) (entL sig97 (x0, ()))) ∧ (∀ (v7 : Int) (x0 : List TyB1) ds, R97_2 n v7 x0 ds → ∀ K q, AtV Tryz.prog 97 (PostR kds97 oks97 ds [] [] q K) 34 K q [] (cutAt b97 2) (E97_2 v7 x0) (L97_2 v7 x0)) := by
  intro n
  induction n with
  | zero => exact ⟨fun _ _ h => by simp only [R97] at h, fun _ _ _ h => by simp only [R97_2] at h⟩
  | succ n ih =>
  obtain ⟨ih, ih2⟩ := ih
  refine ⟨?_, ?_⟩
  · intro x0 ds h K q
    rw [R97] at h
    exact AtV.go tabOk ext97Ok mixed false [] [] [0, 5, 6, 7] [] [] trivial (ih2 _ _ _ h K q) (by kernel_rfl)
  · intro v7 x0 ds h K q
    rw [R97_2] at h
    by_cases b0 : (decide (v7 < (↑(List.length x0) : Int))) = true
    · rw [if_pos b0] at h
      obtain ⟨s0, s1, h⟩ := h
      by_cases b1 : (!g130_0 (List.getD x0 (Int.toNat v7) (ByteArray.empty, 0, 0, ()))) = true
      · rw [if_pos b1] at h
        subst h
        exact AtV.ret Tryz.func97 tabOk ext97Ok mixed false [] tys97 [true, true, true] (a1 b0 (a1 s0 (a1 s1 (a1 trivial (a1 b1 (a1 (rfl : true = true) trivial)))))) (by kernel_rfl)
      · rw [if_neg b1] at h
        replace b1 := Bool.eq_false_iff.2 b1
        by_cases b2 : (decide (v7 > 0)) = true
        · rw [if_pos b2] at h
          obtain ⟨s2, h⟩ := h
          obtain ⟨s3, s4, h⟩ := h
          by_cases b3 : (Op.bytesLess (ByteArray.toList (List.getD x0 (Int.toNat v7) (ByteArray.empty, 0, 0, ())).1) (ByteArray.toList (List.getD x0 (Int.toNat (v7 - 1)) (ByteArray.empty, 0, 0, ())).1) || ByteArray.toList (List.getD x0 (Int.toNat v7) (ByteArray.empty, 0, 0, ())).1 == ByteArray.toList (List.getD x0 (Int.toNat (v7 - 1)) (ByteArray.empty, 0, 0, ())).1) = true
          · rw [if_pos b3] at h
            subst h
            exact AtV.ret Tryz.func97 tabOk ext97Ok mixed false [] tys97 [true, false, true, true] (a1 b0 (a1 s0 (a1 s1 (a1 trivial (a1 b1 (a1 b2 (a1 s2 (a1 s3 (a1 s4 (a1 b3 trivial)))))))))) (by kernel_rfl)
          · rw [if_neg b3] at h
            replace b3 := Bool.eq_false_iff.2 b3
            obtain ⟨s5, h⟩ := h
            exact AtV.go tabOk ext97Ok mixed false [] [] [0, 5, 6, 7] [] [true, false, true, false] (a1 b0 (a1 s0 (a1 s1 (a1 trivial (a1 b1 (a1 b2 (a1 s2 (a1 s3 (a1 s4 (a1 b3 (a1 s5 trivial))))))))))) (ih2 _ _ _ h K q) (by kernel_rfl)
        · rw [if_neg b2] at h
          replace b2 := Bool.eq_false_iff.2 b2
          obtain ⟨s2, h⟩ := h
          exact AtV.go tabOk ext97Ok mixed false [] [] [0, 5, 6, 7] [] [true, false, false, false] (a1 b0 (a1 s0 (a1 s1 (a1 trivial (a1 b1 (a1 b2 (a1 (rfl : false = false) (a1 s2 trivial)))))))) (ih2 _ _ _ h K q) (by kernel_rfl)
    · rw [if_neg b0] at h
      replace b0 := Bool.eq_false_iff.2 b0
      subst h
      exact AtV.ret Tryz.func97 tabOk ext97Ok mixed false [] tys97 [false] (a1 b0 trivial) (by kernel_rfl)
def ok97 (x0 : List TyB1) (i : Nat) (x : TyB1) : Bool :=
  g130_0 x && (i == 0 || !(Op.bytesLess (ByteArray.toList x.1) (ByteArray.toList (x0.getD (i - 1) (ByteArray.empty, (0 : Int), (0 : Int), ())).1) || ByteArray.toList x.1 == ByteArray.toList (x0.getD (i - 1) (ByteArray.empty, (0 : Int), (0 : Int), ())).1))
def g97_0 (x0 : List TyB1) : Bool := allI (ok97 x0) 0 x0 && decide (x0.length ≤ 12)
def P97 (x0 : List TyB1) : Prop := True
theorem step97 (n i : Nat) (x0 : List TyB1) (hm : x0.length ≤ maxLen) (hi : i < x0.length) (ds : List Dyn) :
    (if ok97 x0 i (x0.getD i (ByteArray.empty, (0 : Int), (0 : Int), ())) = true then R97_2 n ((i : Int) + 1) x0 ds else ds = [⟨.bool, false⟩]) → R97_2 (n + 1) (i : Int) x0 ds := by
  intro h
  have hu := inR_up hm hi
  rw [R97_2, if_pos (by simp; omega)]
  refine ⟨by omega, by omega, ?_⟩
  simp only [Int.toNat_natCast]
  unfold ok97 at h
  by_cases h1 : g130_0 (x0.getD i (ByteArray.empty, (0 : Int), (0 : Int), ())) = true
  case neg =>
    have h1 := Bool.eq_false_iff.2 h1
    rw [h1] at h
    rw [if_pos (by rw [h1]; rfl)]
    simpa using h
  case pos =>
    rw [h1] at h
    rw [if_neg (by rw [h1]; simp)]
    by_cases h0 : (i : Int) > 0
    · rw [if_pos (by simpa using h0)]
      have hi0 : (i == 0) = false := by simp; omega
      have e : ((i : Int) - 1).toNat = i - 1 := by omega
      refine ⟨by rw [i64_iff]; have : maxLen ≤ 9223372036854775807 := by decide
                 omega, by omega, by omega, ?_⟩
      rw [e]
      by_cases h2 : (Op.bytesLess (ByteArray.toList (x0.getD i (ByteArray.empty, (0 : Int), (0 : Int), ())).1) (ByteArray.toList (x0.getD (i - 1) (ByteArray.empty, (0 : Int), (0 : Int), ())).1) || ByteArray.toList (x0.getD i (ByteArray.empty, (0 : Int), (0 : Int), ())).1 == ByteArray.toList (x0.getD (i - 1) (ByteArray.empty, (0 : Int), (0 : Int), ())).1) = true
      · rw [if_pos h2]
        rw [hi0, h2] at h
        simpa using h
      · rw [if_neg h2]
        rw [hi0, Bool.eq_false_iff.2 h2] at h
        exact ⟨hu, by simpa using h⟩
    · rw [if_neg (by simpa using h0)]
      have hi0 : (i == 0) = true := by simp; omega
      rw [hi0] at h
      exact ⟨hu, by simpa using h⟩
theorem top97 (x0 : List TyB1) (hw : x0.length ≤ maxLen) : R97 (x0.length + 1 + 1) x0 [⟨.bool, g97_0 x0⟩] := by
  rw [R97]
  have key := loop_testI x0 (ByteArray.empty, (0 : Int), (0 : Int), ()) (ok97 x0) [(⟨.bool, false⟩ : Dyn)] [⟨.bool, decide (x0.length ≤ 12)⟩] (fun n i ds => R97_2 n i x0 ds) (fun n => ?_) (fun n i hi hok ds hr => ?_) (fun n i hi hok => ?_)
  · unfold g97_0
    cases h : allI (ok97 x0) 0 x0 with
    | true => rw [if_pos h] at key; simpa using key
    | false => rw [if_neg (by rw [h]; simp)] at key; simpa using key
  · rw [R97_2, if_neg (by simp)]
    have hc : decide ((x0.length : Int) ≤ 12) = decide (x0.length ≤ 12) := by
      congr 1; exact propext ⟨fun h => by omega, fun h => by omega⟩
    rw [hc]
  · exact step97 n i x0 hw hi ds (by rw [if_pos hok]; exact hr)
  · exact step97 n i x0 hw hi _ (by rw [if_neg (by rw [hok]; simp)])
def S97 : Am.Spec := { sig := sig97, pre := fun ⟨x0, _⟩ => P97 x0, res := fun ⟨x0, _⟩ => [⟨Ty.bool, g97_0 x0⟩] }
theorem con97 : Contract Tryz.prog 97 S97 := contract_of Tryz.func97 hb97 (Nat.le_of_ble_eq_true (by kernel_rfl)) (fun ⟨x0, _⟩ h hwf K q =>
  (snd97 _).1 x0 _ (top97 x0 hwf.1.1) K q)
end
noncomputable section
def ext131 : Ext := [(122, S122)]
theorem ext131Ok : ExtOk Tryz.prog ext131 := ⟨⟨ca122, con122⟩, trivial⟩
noncomputable def b131 : Code := bodyOf Tryz.f131
theorem hb131 : Tryz.f131.body = some b131 := by kernel_rfl
def sig131 : List AT := [AT.v (Ty.int .i64)]
def tys131 : List Ty := [Ty.bool]
def kds131 : List RK := []
def oks131 : List AT := owns sig131
def P131 (x0 : Int) : Prop := True
def g131_0 (x0 : Int) : Bool := g122_0 x0 0 10000000
theorem at131 (x0 : Int) (h : P131 x0) (K : Ctx) (q : Nat → Value) : AtV Tryz.prog 131 (PostR kds131 oks131 [⟨Ty.bool, g131_0 x0⟩] [] [] q K) 5 K q [] [.code b131] (entE 0 0 sig131 (x0, ())) (entL sig131 (x0, ())) := by
  unfold P131 at h
  unfold g131_0
  exact AtV.ret Tryz.func131 tabOk ext131Ok mixed false [] tys131 [] (a1 trivial trivial) (by kernel_rfl)
def S131 : Am.Spec := { sig := sig131, pre := fun ⟨x0, _⟩ => P131 x0, res := fun ⟨x0, _⟩ => [⟨Ty.bool, g131_0 x0⟩], kds := kds131 }
theorem con131 : Contract Tryz.prog 131 S131 := contract_of Tryz.func131 hb131 (Nat.le_of_ble_eq_true (by kernel_rfl)) (fun ⟨x0, _⟩ h _ K q => at131 x0 h K q)
end
noncomputable section
def ext98 : Ext := [(122, S122), (131, S131)]
theorem ext98Ok : ExtOk Tryz.prog ext98 := ⟨⟨ca122, con122⟩, ⟨ca131, con131⟩, trivial⟩
noncomputable def b98 : Code := bodyOf Tryz.f98
theorem hb98 : Tryz.f98.body = some b98 := by kernel_rfl
def sig98 : List AT := [AT.v YA2]
def tys98 : List Ty := [Ty.bool]
def kds98 : List RK := []
def oks98 : List AT := owns sig98
def P98 (x0 : Int × Int × Int × Int × Unit) : Prop := True
def g98_0 (x0 : Int × Int × Int × Int × Unit) : Bool := (if (g122_0 x0.1 1 20000) = true then (if (g122_0 x0.2.1 1 1000) = true then (if (g131_0 x0.2.2.1) = true then g122_0 x0.2.2.2.1 0 1000 else false) else false) else false)
theorem at98 (x0 : Int × Int × Int × Int × Unit) (h : P98 x0) (K : Ctx) (q : Nat → Value) : AtV Tryz.prog 98 (PostR kds98 oks98 [⟨Ty.bool, g98_0 x0⟩] [] [] q K) 21 K q [] [.code b98] (entE 0 0 sig98 (x0, ())) (entL sig98 (x0, ())) := by
  unfold P98 at h
  unfold g98_0
  by_cases b0 : (g122_0 x0.1 1 20000) = true
  · try simp only [if_pos b0] at h ⊢
    by_cases b1 : (g122_0 x0.2.1 1 1000) = true
    · try simp only [if_pos b1] at h ⊢
      by_cases b2 : (g131_0 x0.2.2.1) = true
      · try simp only [if_pos b2] at h ⊢
        exact AtV.ret Tryz.func98 tabOk ext98Ok mixed false [] tys98 [true, true, true] (a1 trivial (a1 b0 (a1 trivial (a1 b1 (a1 trivial (a1 b2 (a1 trivial trivial))))))) (by kernel_rfl)
      · try simp only [if_neg b2] at h ⊢
        replace b2 := Bool.eq_false_iff.2 b2
        exact AtV.ret Tryz.func98 tabOk ext98Ok mixed false [] tys98 [true, true, false] (a1 trivial (a1 b0 (a1 trivial (a1 b1 (a1 trivial (a1 b2 trivial)))))) (by kernel_rfl)
    · try simp only [if_neg b1] at h ⊢
      replace b1 := Bool.eq_false_iff.2 b1
      exact AtV.ret Tryz.func98 tabOk ext98Ok mixed false [] tys98 [true, false, false] (a1 trivial (a1 b0 (a1 trivial (a1 b1 (a1 (rfl : false = false) trivial))))) (by kernel_rfl)
  · try simp only [if_neg b0] at h ⊢
    replace b0 := Bool.eq_false_iff.2 b0
    exact AtV.ret Tryz.func98 tabOk ext98Ok mixed false [] tys98 [false, false, false] (a1 trivial (a1 b0 (a1 (rfl : false = false) (a1 (rfl : false = false) trivial)))) (by kernel_rfl)
def S98 : Am.Spec := { sig := sig98, pre := fun ⟨x0, _⟩ => P98 x0, res := fun ⟨x0, _⟩ => [⟨Ty.bool, g98_0 x0⟩], kds := kds98 }
theorem con98 : Contract Tryz.prog 98 S98 := contract_of Tryz.func98 hb98 (Nat.le_of_ble_eq_true (by kernel_rfl)) (fun ⟨x0, _⟩ h _ K q => at98 x0 h K q)
end
noncomputable section
def ext132 : Ext := [(143, S143), (122, S122)]
theorem ext132Ok : ExtOk Tryz.prog ext132 := ⟨⟨ca143, con143⟩, ⟨ca122, con122⟩, trivial⟩
noncomputable def b132 : Code := bodyOf Tryz.f132
theorem hb132 : Tryz.f132.body = some b132 := by kernel_rfl
def sig132 : List AT := [AT.v YA3]
def tys132 : List Ty := [Ty.bool]
def kds132 : List RK := []
def oks132 : List AT := owns sig132
def P132 (x0 : ByteArray × Int × Int × Int × Unit) : Prop := True
def g132_0 (x0 : ByteArray × Int × Int × Int × Unit) : Bool := (if (g143_0 x0.1) = true then (if (g122_0 x0.2.1 0 100000) = true then (if (g122_0 x0.2.2.1 1 1000) = true then g122_0 x0.2.2.2.1 1 400 else false) else false) else false)
theorem at132 (x0 : ByteArray × Int × Int × Int × Unit) (h : P132 x0) (K : Ctx) (q : Nat → Value) : AtV Tryz.prog 132 (PostR kds132 oks132 [⟨Ty.bool, g132_0 x0⟩] [] [] q K) 21 K q [] [.code b132] (entE 0 0 sig132 (x0, ())) (entL sig132 (x0, ())) := by
  unfold P132 at h
  unfold g132_0
  by_cases b0 : (g143_0 x0.1) = true
  · try simp only [if_pos b0] at h ⊢
    by_cases b1 : (g122_0 x0.2.1 0 100000) = true
    · try simp only [if_pos b1] at h ⊢
      by_cases b2 : (g122_0 x0.2.2.1 1 1000) = true
      · try simp only [if_pos b2] at h ⊢
        exact AtV.ret Tryz.func132 tabOk ext132Ok mixed false [] tys132 [true, true, true] (a1 trivial (a1 b0 (a1 trivial (a1 b1 (a1 trivial (a1 b2 (a1 trivial trivial))))))) (by kernel_rfl)
      · try simp only [if_neg b2] at h ⊢
        replace b2 := Bool.eq_false_iff.2 b2
        exact AtV.ret Tryz.func132 tabOk ext132Ok mixed false [] tys132 [true, true, false] (a1 trivial (a1 b0 (a1 trivial (a1 b1 (a1 trivial (a1 b2 trivial)))))) (by kernel_rfl)
    · try simp only [if_neg b1] at h ⊢
      replace b1 := Bool.eq_false_iff.2 b1
      exact AtV.ret Tryz.func132 tabOk ext132Ok mixed false [] tys132 [true, false, false] (a1 trivial (a1 b0 (a1 trivial (a1 b1 (a1 (rfl : false = false) trivial))))) (by kernel_rfl)
  · try simp only [if_neg b0] at h ⊢
    replace b0 := Bool.eq_false_iff.2 b0
    exact AtV.ret Tryz.func132 tabOk ext132Ok mixed false [] tys132 [false, false, false] (a1 trivial (a1 b0 (a1 (rfl : false = false) (a1 (rfl : false = false) trivial)))) (by kernel_rfl)
def S132 : Am.Spec := { sig := sig132, pre := fun ⟨x0, _⟩ => P132 x0, res := fun ⟨x0, _⟩ => [⟨Ty.bool, g132_0 x0⟩], kds := kds132 }
theorem con132 : Contract Tryz.prog 132 S132 := contract_of Tryz.func132 hb132 (Nat.le_of_ble_eq_true (by kernel_rfl)) (fun ⟨x0, _⟩ h _ K q => at132 x0 h K q)
end
noncomputable section
def ext99 : Ext := [(132, S132)]
theorem ext99Ok : ExtOk Tryz.prog ext99 := ⟨⟨ca132, con132⟩, trivial⟩
noncomputable def b99 : Code := bodyOf Tryz.f99
theorem hb99 : Tryz.f99.body = some b99 := by kernel_rfl
def sig99 : List AT := [AT.v (Ty.sl YA3)]
def tys99 : List Ty := [Ty.bool]
def kds99 : List RK := []
def oks99 : List AT := owns sig99
def E99_2 (v7 : Int) (x0 : List TyB0) : Env := [(0, PV.a (Atom.sl YA3 x0)), (5, PV.a (Atom.sl YA3 x0)), (6, PV.a (Atom.val (Value.int .i64 (↑(List.length x0) : Int)))), (7, PV.a (Atom.val (Value.int .i64 v7)))]
def L99_2 (v7 : Int) (x0 : List TyB0) : Heap := []
mutual
def R99 : Nat → List TyB0 → List Dyn → Prop
  | 0, _, _ => False
  | n + 1, x0, ds => (R99_2 n (0) (x0) ds)
def R99_2 : Nat → Int → List TyB0 → List Dyn → Prop
  | 0, _, _, _ => False
  | n + 1, v7, x0, ds => (if (decide (v7 < (↑(List.length x0) : Int))) = true then ((0 ≤ v7) ∧ (v7 < (↑(List.length x0) : Int)) ∧ (if (!g132_0 (List.getD x0 (Int.toNat v7) (ByteArray.empty, 0, 0, 0, ()))) = true then (ds = [Dyn.mk Ty.bool false]) else (if (decide (v7 > 0)) = true then ((InR .i64 (v7 - 1)) ∧ ((0 ≤ v7 - 1) ∧ (v7 - 1 < (↑(List.length x0) : Int)) ∧ (if (Op.bytesLess (ByteArray.toList (List.getD x0 (Int.toNat v7) (ByteArray.empty, 0, 0, 0, ())).1) (ByteArray.toList (List.getD x0 (Int.toNat (v7 - 1)) (ByteArray.empty, 0, 0, 0, ())).1) || ByteArray.toList (List.getD x0 (Int.toNat v7) (ByteArray.empty, 0, 0, 0, ())).1 == ByteArray.toList (List.getD x0 (Int.toNat (v7 - 1)) (ByteArray.empty, 0, 0, 0, ())).1) = true then (ds = [Dyn.mk Ty.bool false]) else ((InR .i64 (v7 + 1)) ∧ (R99_2 n (v7 + 1) (x0) ds))))) else ((InR .i64 (v7 + 1)) ∧ (R99_2 n (v7 + 1) (x0) ds))))) else (ds = [Dyn.mk Ty.bool (decide ((↑(List.length x0) : Int) ≤ 8))]))
end
theorem snd99 : ∀ n, (∀ (x0 : List TyB0) ds, R99 n x0 ds → ∀ K q, AtV Tryz.prog 99 (PostR kds99 oks99 ds [] [] q K) 34 K q [] [.code b99] (entE 0 0 sig99 (x0, ())) (entL sig99 (x0, ()))) ∧ (∀ (v7 : Int) (x0 : List TyB0) ds, R99_2 n v7 x0 ds → ∀ K q, AtV Tryz.prog 99 (PostR kds99 oks99 ds [] [] q K) 34 K q [] (cutAt b99 2) (E99_2 v7 x0) (L99_2 v7 x0)) := by
  intro n
  induction n with
  | zero => exact ⟨fun _ _ h => by simp only [R99] at h, fun _ _ _ h => by simp only [R99_2] at h⟩
  | succ n ih =>
  obtain ⟨ih, ih2⟩ := ih
  refine ⟨?_, ?_⟩
  · intro x0 ds h K q
    rw [R99] at h
    exact AtV.go tabOk ext99Ok mixed false [] [] [0, 5, 6, 7] [] [] trivial (ih2 _ _ _ h K q) (by kernel_rfl)
  · intro v7 x0 ds h K q
    rw [R99_2] at h
    by_cases b0 : (decide (v7 < (↑(List.length x0) : Int))) = true
    · rw [if_pos b0] at h
      obtain ⟨s0, s1, h⟩ := h
      by_cases b1 : (!g132_0 (List.getD x0 (Int.toNat v7) (ByteArray.empty, 0, 0, 0, ()))) = true
      · rw [if_pos b1] at h
        subst h
        exact AtV.ret Tryz.func99 tabOk ext99Ok mixed false [] tys99 [true, true, true] (a1 b0 (a1 s0 (a1 s1 (a1 trivial (a1 b1 (a1 (rfl : true = true) trivial)))))) (by kernel_rfl)
      · rw [if_neg b1] at h
        replace b1 := Bool.eq_false_iff.2 b1
        by_cases b2 : (decide (v7 > 0)) = true
        · rw [if_pos b2] at h
          obtain ⟨s2, h⟩ := h
          obtain ⟨s3, s4, h⟩ := h
          by_cases b3 : (Op.bytesLess (ByteArray.toList (List.getD x0 (Int.toNat v7) (ByteArray.empty, 0, 0, 0, ())).1) (ByteArray.toList (List.getD x0 (Int.toNat (v7 - 1)) (ByteArray.empty, 0, 0, 0, ())).1) || ByteArray.toList (List.getD x0 (Int.toNat v7) (ByteArray.empty, 0, 0, 0, ())).1 == ByteArray.toList (List.getD x0 (Int.toNat (v7 - 1)) (ByteArray.empty, 0, 0, 0, ())).1) = true
          · rw [if_pos b3] at h
            subst h
            exact AtV.ret Tryz.func99 tabOk ext99Ok mixed false [] tys99 [true, false, true, true] (a1 b0 (a1 s0 (a1 s1 (a1 trivial (a1 b1 (a1 b2 (a1 s2 (a1 s3 (a1 s4 (a1 b3 trivial)))))))))) (by kernel_rfl)
          · rw [if_neg b3] at h
            replace b3 := Bool.eq_false_iff.2 b3
            obtain ⟨s5, h⟩ := h
            exact AtV.go tabOk ext99Ok mixed false [] [] [0, 5, 6, 7] [] [true, false, true, false] (a1 b0 (a1 s0 (a1 s1 (a1 trivial (a1 b1 (a1 b2 (a1 s2 (a1 s3 (a1 s4 (a1 b3 (a1 s5 trivial))))))))))) (ih2 _ _ _ h K q) (by kernel_rfl)
        · rw [if_neg b2] at h
          replace b2 := Bool.eq_false_iff.2 b2
          obtain ⟨s2, h⟩ := h
          exact AtV.go tabOk ext99Ok mixed false [] [] [0, 5, 6, 7] [] [true, false, false, false] (a1 b0 (a1 s0 (a1 s1 (a1 trivial (a1 b1 (a1 b2 (a1 (rfl : false = false) (a1 s2 trivial)))))))) (ih2 _ _ _ h K q) (by kernel_rfl)
    · rw [if_neg b0] at h
      replace b0 := Bool.eq_false_iff.2 b0
      subst h
      exact AtV.ret Tryz.func99 tabOk ext99Ok mixed false [] tys99 [false] (a1 b0 trivial) (by kernel_rfl)
def ok99 (x0 : List TyB0) (i : Nat) (x : TyB0) : Bool :=
  g132_0 x && (i == 0 || !(Op.bytesLess (ByteArray.toList x.1) (ByteArray.toList (x0.getD (i - 1) (ByteArray.empty, (0 : Int), (0 : Int), (0 : Int), ())).1) || ByteArray.toList x.1 == ByteArray.toList (x0.getD (i - 1) (ByteArray.empty, (0 : Int), (0 : Int), (0 : Int), ())).1))
def g99_0 (x0 : List TyB0) : Bool := allI (ok99 x0) 0 x0 && decide (x0.length ≤ 8)
def P99 (x0 : List TyB0) : Prop := True
theorem step99 (n i : Nat) (x0 : List TyB0) (hm : x0.length ≤ maxLen) (hi : i < x0.length) (ds : List Dyn) :
    (if ok99 x0 i (x0.getD i (ByteArray.empty, (0 : Int), (0 : Int), (0 : Int), ())) = true then R99_2 n ((i : Int) + 1) x0 ds else ds = [⟨.bool, false⟩]) → R99_2 (n + 1) (i : Int) x0 ds := by
  intro h
  have hu := inR_up hm hi
  rw [R99_2, if_pos (by simp; omega)]
  refine ⟨by omega, by omega, ?_⟩
  simp only [Int.toNat_natCast]
  unfold ok99 at h
  by_cases h1 : g132_0 (x0.getD i (ByteArray.empty, (0 : Int), (0 : Int), (0 : Int), ())) = true
  case neg =>
    have h1 := Bool.eq_false_iff.2 h1
    rw [h1] at h
    rw [if_pos (by rw [h1]; rfl)]
    simpa using h
  case pos =>
    rw [h1] at h
    rw [if_neg (by rw [h1]; simp)]
    by_cases h0 : (i : Int) > 0
    · rw [if_pos (by simpa using h0)]
      have hi0 : (i == 0) = false := by simp; omega
      have e : ((i : Int) - 1).toNat = i - 1 := by omega
      refine ⟨by rw [i64_iff]; have : maxLen ≤ 9223372036854775807 := by decide
                 omega, by omega, by omega, ?_⟩
      rw [e]
      by_cases h2 : (Op.bytesLess (ByteArray.toList (x0.getD i (ByteArray.empty, (0 : Int), (0 : Int), (0 : Int), ())).1) (ByteArray.toList (x0.getD (i - 1) (ByteArray.empty, (0 : Int), (0 : Int), (0 : Int), ())).1) || ByteArray.toList (x0.getD i (ByteArray.empty, (0 : Int), (0 : Int), (0 : Int), ())).1 == ByteArray.toList (x0.getD (i - 1) (ByteArray.empty, (0 : Int), (0 : Int), (0 : Int), ())).1) = true
      · rw [if_pos h2]
        rw [hi0, h2] at h
        simpa using h
      · rw [if_neg h2]
        rw [hi0, Bool.eq_false_iff.2 h2] at h
        exact ⟨hu, by simpa using h⟩
    · rw [if_neg (by simpa using h0)]
      have hi0 : (i == 0) = true := by simp; omega
      rw [hi0] at h
      exact ⟨hu, by simpa using h⟩
theorem top99 (x0 : List TyB0) (hw : x0.length ≤ maxLen) : R99 (x0.length + 1 + 1) x0 [⟨.bool, g99_0 x0⟩] := by
  rw [R99]
  have key := loop_testI x0 (ByteArray.empty, (0 : Int), (0 : Int), (0 : Int), ()) (ok99 x0) [(⟨.bool, false⟩ : Dyn)] [⟨.bool, decide (x0.length ≤ 8)⟩] (fun n i ds => R99_2 n i x0 ds) (fun n => ?_) (fun n i hi hok ds hr => ?_) (fun n i hi hok => ?_)
  · unfold g99_0
    cases h : allI (ok99 x0) 0 x0 with
    | true => rw [if_pos h] at key; simpa using key
    | false => rw [if_neg (by rw [h]; simp)] at key; simpa using key
  · rw [R99_2, if_neg (by simp)]
    have hc : decide ((x0.length : Int) ≤ 8) = decide (x0.length ≤ 8) := by
      congr 1; exact propext ⟨fun h => by omega, fun h => by omega⟩
    rw [hc]
  · exact step99 n i x0 hw hi ds (by rw [if_pos hok]; exact hr)
  · exact step99 n i x0 hw hi _ (by rw [if_neg (by rw [hok]; simp)])
def S99 : Am.Spec := { sig := sig99, pre := fun ⟨x0, _⟩ => P99 x0, res := fun ⟨x0, _⟩ => [⟨Ty.bool, g99_0 x0⟩] }
theorem con99 : Contract Tryz.prog 99 S99 := contract_of Tryz.func99 hb99 (Nat.le_of_ble_eq_true (by kernel_rfl)) (fun ⟨x0, _⟩ h hwf K q =>
  (snd99 _).1 x0 _ (top99 x0 hwf.1.1) K q)
end
noncomputable section
def ext161 : Ext := [(122, S122)]
theorem ext161Ok : ExtOk Tryz.prog ext161 := ⟨⟨ca122, con122⟩, trivial⟩
noncomputable def b161 : Code := bodyOf Tryz.f161
theorem hb161 : Tryz.f161.body = some b161 := by kernel_rfl
def sig161 : List AT := [AT.v (Ty.int .i64)]
def tys161 : List Ty := [Ty.bool]
def kds161 : List RK := []
def oks161 : List AT := owns sig161
def P161 (x0 : Int) : Prop := True
def g161_0 (x0 : Int) : Bool := g122_0 x0 0 36524
theorem at161 (x0 : Int) (h : P161 x0) (K : Ctx) (q : Nat → Value) : AtV Tryz.prog 161 (PostR kds161 oks161 [⟨Ty.bool, g161_0 x0⟩] [] [] q K) 5 K q [] [.code b161] (entE 0 0 sig161 (x0, ())) (entL sig161 (x0, ())) := by
  unfold P161 at h
  unfold g161_0
  exact AtV.ret Tryz.func161 tabOk ext161Ok mixed false [] tys161 [] (a1 trivial trivial) (by kernel_rfl)
def S161 : Am.Spec := { sig := sig161, pre := fun ⟨x0, _⟩ => P161 x0, res := fun ⟨x0, _⟩ => [⟨Ty.bool, g161_0 x0⟩], kds := kds161 }
theorem con161 : Contract Tryz.prog 161 S161 := contract_of Tryz.func161 hb161 (Nat.le_of_ble_eq_true (by kernel_rfl)) (fun ⟨x0, _⟩ h _ K q => at161 x0 h K q)
end
noncomputable section
def ext152 : Ext := [(122, S122)]
theorem ext152Ok : ExtOk Tryz.prog ext152 := ⟨⟨ca122, con122⟩, trivial⟩
noncomputable def b152 : Code := bodyOf Tryz.f152
theorem hb152 : Tryz.f152.body = some b152 := by kernel_rfl
def sig152 : List AT := [AT.v (Ty.int .i64)]
def tys152 : List Ty := [Ty.bool]
def kds152 : List RK := []
def oks152 : List AT := owns sig152
def P152 (x0 : Int) : Prop := True
def g152_0 (x0 : Int) : Bool := g122_0 x0 0 1000
theorem at152 (x0 : Int) (h : P152 x0) (K : Ctx) (q : Nat → Value) : AtV Tryz.prog 152 (PostR kds152 oks152 [⟨Ty.bool, g152_0 x0⟩] [] [] q K) 5 K q [] [.code b152] (entE 0 0 sig152 (x0, ())) (entL sig152 (x0, ())) := by
  unfold P152 at h
  unfold g152_0
  exact AtV.ret Tryz.func152 tabOk ext152Ok mixed false [] tys152 [] (a1 trivial trivial) (by kernel_rfl)
def S152 : Am.Spec := { sig := sig152, pre := fun ⟨x0, _⟩ => P152 x0, res := fun ⟨x0, _⟩ => [⟨Ty.bool, g152_0 x0⟩], kds := kds152 }
theorem con152 : Contract Tryz.prog 152 S152 := contract_of Tryz.func152 hb152 (Nat.le_of_ble_eq_true (by kernel_rfl)) (fun ⟨x0, _⟩ h _ K q => at152 x0 h K q)
end
noncomputable section
def ext150 : Ext := [(161, S161), (122, S122), (152, S152)]
theorem ext150Ok : ExtOk Tryz.prog ext150 := ⟨⟨ca161, con161⟩, ⟨ca122, con122⟩, ⟨ca152, con152⟩, trivial⟩
noncomputable def b150 : Code := bodyOf Tryz.f150
theorem hb150 : Tryz.f150.body = some b150 := by kernel_rfl
def sig150 : List AT := [AT.v YA4]
def tys150 : List Ty := [Ty.bool]
def kds150 : List RK := []
def oks150 : List AT := owns sig150
def P150 (x0 : Int × Int × Int × Unit) : Prop := True
def g150_0 (x0 : Int × Int × Int × Unit) : Bool := (if (g161_0 x0.1) = true then (if (g122_0 x0.2.1 0 24000) = true then g152_0 x0.2.2.1 else false) else false)
theorem at150 (x0 : Int × Int × Int × Unit) (h : P150 x0) (K : Ctx) (q : Nat → Value) : AtV Tryz.prog 150 (PostR kds150 oks150 [⟨Ty.bool, g150_0 x0⟩] [] [] q K) 16 K q [] [.code b150] (entE 0 0 sig150 (x0, ())) (entL sig150 (x0, ())) := by
  unfold P150 at h
  unfold g150_0
  by_cases b0 : (g161_0 x0.1) = true
  · try simp only [if_pos b0] at h ⊢
    by_cases b1 : (g122_0 x0.2.1 0 24000) = true
    · try simp only [if_pos b1] at h ⊢
      exact AtV.ret Tryz.func150 tabOk ext150Ok mixed false [] tys150 [true, true] (a1 trivial (a1 b0 (a1 trivial (a1 b1 (a1 trivial trivial))))) (by kernel_rfl)
    · try simp only [if_neg b1] at h ⊢
      replace b1 := Bool.eq_false_iff.2 b1
      exact AtV.ret Tryz.func150 tabOk ext150Ok mixed false [] tys150 [true, false] (a1 trivial (a1 b0 (a1 trivial (a1 b1 trivial)))) (by kernel_rfl)
  · try simp only [if_neg b0] at h ⊢
    replace b0 := Bool.eq_false_iff.2 b0
    exact AtV.ret Tryz.func150 tabOk ext150Ok mixed false [] tys150 [false, false] (a1 trivial (a1 b0 (a1 (rfl : false = false) trivial))) (by kernel_rfl)
def S150 : Am.Spec := { sig := sig150, pre := fun ⟨x0, _⟩ => P150 x0, res := fun ⟨x0, _⟩ => [⟨Ty.bool, g150_0 x0⟩], kds := kds150 }
theorem con150 : Contract Tryz.prog 150 S150 := contract_of Tryz.func150 hb150 (Nat.le_of_ble_eq_true (by kernel_rfl)) (fun ⟨x0, _⟩ h _ K q => at150 x0 h K q)
end
noncomputable section
def ext133 : Ext := [(150, S150)]
theorem ext133Ok : ExtOk Tryz.prog ext133 := ⟨⟨ca150, con150⟩, trivial⟩
noncomputable def b133 : Code := bodyOf Tryz.f133
theorem hb133 : Tryz.f133.body = some b133 := by kernel_rfl
def sig133 : List AT := [AT.v (Ty.sl YA4)]
def tys133 : List Ty := [Ty.bool]
def kds133 : List RK := []
def oks133 : List AT := owns sig133
def E133_2 (v7 : Int) (x0 : List TyB2) : Env := [(0, PV.a (Atom.sl YA4 x0)), (5, PV.a (Atom.sl YA4 x0)), (6, PV.a (Atom.val (Value.int .i64 (↑(List.length x0) : Int)))), (7, PV.a (Atom.val (Value.int .i64 v7)))]
def L133_2 (v7 : Int) (x0 : List TyB2) : Heap := []
mutual
def R133 : Nat → List TyB2 → List Dyn → Prop
  | 0, _, _ => False
  | n + 1, x0, ds => (R133_2 n (0) (x0) ds)
def R133_2 : Nat → Int → List TyB2 → List Dyn → Prop
  | 0, _, _, _ => False
  | n + 1, v7, x0, ds => (if (decide (v7 < (↑(List.length x0) : Int))) = true then ((0 ≤ v7) ∧ (v7 < (↑(List.length x0) : Int)) ∧ (if (!g150_0 (List.getD x0 (Int.toNat v7) (0, 0, 0, ()))) = true then (ds = [Dyn.mk Ty.bool false]) else (if (decide (v7 > 0)) = true then ((InR .i64 (v7 - 1)) ∧ ((0 ≤ v7 - 1) ∧ (v7 - 1 < (↑(List.length x0) : Int)) ∧ (if (decide ((List.getD x0 (Int.toNat v7) (0, 0, 0, ())).1 ≤ (List.getD x0 (Int.toNat (v7 - 1)) (0, 0, 0, ())).1)) = true then (ds = [Dyn.mk Ty.bool false]) else ((InR .i64 (v7 - 1)) ∧ ((0 ≤ v7 - 1) ∧ (v7 - 1 < (↑(List.length x0) : Int)) ∧ (if (decide ((List.getD x0 (Int.toNat v7) (0, 0, 0, ())).2.1 < (List.getD x0 (Int.toNat (v7 - 1)) (0, 0, 0, ())).2.1)) = true then (ds = [Dyn.mk Ty.bool false]) else ((InR .i64 (v7 - 1)) ∧ ((0 ≤ v7 - 1) ∧ (v7 - 1 < (↑(List.length x0) : Int)) ∧ (if (decide ((List.getD x0 (Int.toNat v7) (0, 0, 0, ())).2.2.1 < (List.getD x0 (Int.toNat (v7 - 1)) (0, 0, 0, ())).2.2.1)) = true then (ds = [Dyn.mk Ty.bool false]) else ((InR .i64 (v7 + 1)) ∧ (R133_2 n (v7 + 1) (x0) ds))))))))))) else ((InR .i64 (v7 + 1)) ∧ (R133_2 n (v7 + 1) (x0) ds))))) else (ds = [Dyn.mk Ty.bool true]))
end
theorem snd133 : ∀ n, (∀ (x0 : List TyB2) ds, R133 n x0 ds → ∀ K q, AtV Tryz.prog 133 (PostR kds133 oks133 ds [] [] q K) 51 K q [] [.code b133] (entE 0 0 sig133 (x0, ())) (entL sig133 (x0, ()))) ∧ (∀ (v7 : Int) (x0 : List TyB2) ds, R133_2 n v7 x0 ds → ∀ K q, AtV Tryz.prog 133 (PostR kds133 oks133 ds [] [] q K) 51 K q [] (cutAt b133 2) (E133_2 v7 x0) (L133_2 v7 x0)) := by
  intro n
  induction n with
  | zero => exact ⟨fun _ _ h => by simp only [R133] at h, fun _ _ _ h => by simp only [R133_2] at h⟩
  | succ n ih =>
  obtain ⟨ih, ih2⟩ := ih
  refine ⟨?_, ?_⟩
  · intro x0 ds h K q
    rw [R133] at h
    exact AtV.go tabOk ext133Ok mixed false [] [] [0, 5, 6, 7] [] [] trivial (ih2 _ _ _ h K q) (by kernel_rfl)
  · intro v7 x0 ds h K q
    rw [R133_2] at h
    by_cases b0 : (decide (v7 < (↑(List.length x0) : Int))) = true
    · rw [if_pos b0] at h
      obtain ⟨s0, s1, h⟩ := h
      by_cases b1 : (!g150_0 (List.getD x0 (Int.toNat v7) (0, 0, 0, ()))) = true
      · rw [if_pos b1] at h
        subst h
        exact AtV.ret Tryz.func133 tabOk ext133Ok mixed false [] tys133 [true, true] (a1 b0 (a1 s0 (a1 s1 (a1 trivial (a1 b1 trivial))))) (by kernel_rfl)
      · rw [if_neg b1] at h
        replace b1 := Bool.eq_false_iff.2 b1
        by_cases b2 : (decide (v7 > 0)) = true
        · rw [if_pos b2] at h
          obtain ⟨s2, h⟩ := h
          obtain ⟨s3, s4, h⟩ := h
          by_cases b3 : (decide ((List.getD x0 (Int.toNat v7) (0, 0, 0, ())).1 ≤ (List.getD x0 (Int.toNat (v7 - 1)) (0, 0, 0, ())).1)) = true
          · rw [if_pos b3] at h
            subst h
            exact AtV.ret Tryz.func133 tabOk ext133Ok mixed false [] tys133 [true, false, true, true, true, true] (a1 b0 (a1 s0 (a1 s1 (a1 trivial (a1 b1 (a1 b2 (a1 s2 (a1 s3 (a1 s4 (a1 b3 (a1 (rfl : true = true) (a1 (rfl : true = true) trivial)))))))))))) (by kernel_rfl)
          · rw [if_neg b3] at h
            replace b3 := Bool.eq_false_iff.2 b3
            obtain ⟨s5, h⟩ := h
            obtain ⟨s6, s7, h⟩ := h
            by_cases b4 : (decide ((List.getD x0 (Int.toNat v7) (0, 0, 0, ())).2.1 < (List.getD x0 (Int.toNat (v7 - 1)) (0, 0, 0, ())).2.1)) = true
            · rw [if_pos b4] at h
              subst h
              exact AtV.ret Tryz.func133 tabOk ext133Ok mixed false [] tys133 [true, false, true, false, true, true] (a1 b0 (a1 s0 (a1 s1 (a1 trivial (a1 b1 (a1 b2 (a1 s2 (a1 s3 (a1 s4 (a1 b3 (a1 s5 (a1 s6 (a1 s7 (a1 b4 (a1 (rfl : true = true) trivial))))))))))))))) (by kernel_rfl)
            · rw [if_neg b4] at h
              replace b4 := Bool.eq_false_iff.2 b4
              obtain ⟨s8, h⟩ := h
              obtain ⟨s9, s10, h⟩ := h
              by_cases b5 : (decide ((List.getD x0 (Int.toNat v7) (0, 0, 0, ())).2.2.1 < (List.getD x0 (Int.toNat (v7 - 1)) (0, 0, 0, ())).2.2.1)) = true
              · rw [if_pos b5] at h
                subst h
                exact AtV.ret Tryz.func133 tabOk ext133Ok mixed false [] tys133 [true, false, true, false, false, true] (a1 b0 (a1 s0 (a1 s1 (a1 trivial (a1 b1 (a1 b2 (a1 s2 (a1 s3 (a1 s4 (a1 b3 (a1 s5 (a1 s6 (a1 s7 (a1 b4 (a1 s8 (a1 s9 (a1 s10 (a1 b5 trivial)))))))))))))))))) (by kernel_rfl)
              · rw [if_neg b5] at h
                replace b5 := Bool.eq_false_iff.2 b5
                obtain ⟨s11, h⟩ := h
                exact AtV.go tabOk ext133Ok mixed false [] [] [0, 5, 6, 7] [] [true, false, true, false, false, false] (a1 b0 (a1 s0 (a1 s1 (a1 trivial (a1 b1 (a1 b2 (a1 s2 (a1 s3 (a1 s4 (a1 b3 (a1 s5 (a1 s6 (a1 s7 (a1 b4 (a1 s8 (a1 s9 (a1 s10 (a1 b5 (a1 s11 trivial))))))))))))))))))) (ih2 _ _ _ h K q) (by kernel_rfl)
        · rw [if_neg b2] at h
          replace b2 := Bool.eq_false_iff.2 b2
          obtain ⟨s2, h⟩ := h
          exact AtV.go tabOk ext133Ok mixed false [] [] [0, 5, 6, 7] [] [true, false, false, false] (a1 b0 (a1 s0 (a1 s1 (a1 trivial (a1 b1 (a1 b2 (a1 (rfl : false = false) (a1 s2 trivial)))))))) (ih2 _ _ _ h K q) (by kernel_rfl)
    · rw [if_neg b0] at h
      replace b0 := Bool.eq_false_iff.2 b0
      subst h
      exact AtV.ret Tryz.func133 tabOk ext133Ok mixed false [] tys133 [false] (a1 b0 trivial) (by kernel_rfl)
def ord133 (y x : TyB2) : Bool := decide (y.1 < x.1) && decide (y.2.1 ≤ x.2.1) && decide (y.2.2.1 ≤ x.2.2.1)
def ok133 (x0 : List TyB2) (i : Nat) (x : TyB2) : Bool := g150_0 x && (i == 0 || ord133 (x0.getD (i - 1) ((0 : Int), (0 : Int), (0 : Int), ())) x)
def g133_0 (x0 : List TyB2) : Bool := allI (ok133 x0) 0 x0
def P133 (x0 : List TyB2) : Prop := True
theorem step133 (n i : Nat) (x0 : List TyB2) (hm : x0.length ≤ maxLen) (hi : i < x0.length) (ds : List Dyn)
    (h : if ok133 x0 i (x0.getD i ((0 : Int), (0 : Int), (0 : Int), ())) = true then R133_2 n ((i : Int) + 1) x0 ds else ds = [⟨.bool, false⟩]) : R133_2 (n + 1) (i : Int) x0 ds := by
  have hu := inR_up hm hi
  have hmx : maxLen ≤ 9223372036854775807 := by decide
  rw [R133_2, if_pos (by simp; omega)]
  refine ⟨by omega, by omega, ?_⟩
  simp only [Int.toNat_natCast]
  unfold ok133 ord133 at h
  by_cases hv : g150_0 (x0.getD i ((0 : Int), (0 : Int), (0 : Int), ())) = true
  case neg => rw [Bool.eq_false_iff.2 hv] at h; rw [if_pos (by rw [Bool.eq_false_iff.2 hv]; rfl)]; simpa using h
  rw [if_neg (by rw [hv]; simp)]
  rw [hv] at h
  by_cases h0 : (i : Int) > 0
  case neg =>
    rw [if_neg (by simpa using h0)]
    have hi0 : (i == 0) = true := by simp; omega
    rw [hi0] at h
    exact ⟨hu, by simpa using h⟩
  rw [if_pos (by simpa using h0)]
  have hi0 : (i == 0) = false := by simp; omega
  have e : ((i : Int) - 1).toNat = i - 1 := by omega
  have hd : InR .i64 ((i : Int) - 1) := by rw [i64_iff]; omega
  rw [hi0] at h
  simp only [e]
  refine ⟨hd, by omega, by omega, ?_⟩
  by_cases c0 : (x0.getD i ((0 : Int), (0 : Int), (0 : Int), ())).1 ≤ (x0.getD (i - 1) ((0 : Int), (0 : Int), (0 : Int), ())).1
  case pos =>
    rw [if_pos (decide_eq_true c0)]
    have : decide ((x0.getD (i - 1) ((0 : Int), (0 : Int), (0 : Int), ())).1 < (x0.getD i ((0 : Int), (0 : Int), (0 : Int), ())).1) = false := decide_eq_false (by omega)
    rw [this] at h
    simpa using h
  rw [if_neg (by simpa using c0)]
  refine ⟨hd, by omega, by omega, ?_⟩
  by_cases c1 : (x0.getD i ((0 : Int), (0 : Int), (0 : Int), ())).2.1 < (x0.getD (i - 1) ((0 : Int), (0 : Int), (0 : Int), ())).2.1
  case pos =>
    rw [if_pos (decide_eq_true c1)]
    have : decide ((x0.getD (i - 1) ((0 : Int), (0 : Int), (0 : Int), ())).2.1 ≤ (x0.getD i ((0 : Int), (0 : Int), (0 : Int), ())).2.1) = false := decide_eq_false (by omega)
    rw [this] at h
    simpa using h
  rw [if_neg (by simpa using c1)]
  refine ⟨hd, by omega, by omega, ?_⟩
  by_cases c2 : (x0.getD i ((0 : Int), (0 : Int), (0 : Int), ())).2.2.1 < (x0.getD (i - 1) ((0 : Int), (0 : Int), (0 : Int), ())).2.2.1
  case pos =>
    rw [if_pos (decide_eq_true c2)]
    have : decide ((x0.getD (i - 1) ((0 : Int), (0 : Int), (0 : Int), ())).2.2.1 ≤ (x0.getD i ((0 : Int), (0 : Int), (0 : Int), ())).2.2.1) = false := decide_eq_false (by omega)
    rw [this] at h
    simpa using h
  rw [if_neg (by simpa using c2)]
  have d0 : decide ((x0.getD (i - 1) ((0 : Int), (0 : Int), (0 : Int), ())).1 < (x0.getD i ((0 : Int), (0 : Int), (0 : Int), ())).1) = true := decide_eq_true (by omega)
  have d1 : decide ((x0.getD (i - 1) ((0 : Int), (0 : Int), (0 : Int), ())).2.1 ≤ (x0.getD i ((0 : Int), (0 : Int), (0 : Int), ())).2.1) = true := decide_eq_true (by omega)
  have d2 : decide ((x0.getD (i - 1) ((0 : Int), (0 : Int), (0 : Int), ())).2.2.1 ≤ (x0.getD i ((0 : Int), (0 : Int), (0 : Int), ())).2.2.1) = true := decide_eq_true (by omega)
  rw [d0, d1, d2] at h
  exact ⟨hu, by simpa using h⟩
theorem top133 (x0 : List TyB2) (hw : x0.length ≤ maxLen) : R133 (x0.length + 1 + 1) x0 [⟨.bool, g133_0 x0⟩] := by
  rw [R133]
  have key := loop_testI x0 ((0 : Int), (0 : Int), (0 : Int), ()) (ok133 x0) [(⟨.bool, false⟩ : Dyn)] [⟨.bool, true⟩] (fun n i ds => R133_2 n i x0 ds) (fun n => ?_) (fun n i hi hok ds hr => ?_) (fun n i hi hok => ?_)
  · unfold g133_0
    cases h : allI (ok133 x0) 0 x0 with
    | true => rw [if_pos h] at key; simpa using key
    | false => rw [if_neg (by rw [h]; simp)] at key; simpa using key
  · rw [R133_2, if_neg (by simp)]
  · exact step133 n i x0 hw hi ds (by rw [if_pos hok]; exact hr)
  · exact step133 n i x0 hw hi _ (by rw [if_neg (by rw [hok]; simp)])
def S133 : Am.Spec := { sig := sig133, pre := fun ⟨x0, _⟩ => P133 x0, res := fun ⟨x0, _⟩ => [⟨Ty.bool, g133_0 x0⟩] }
theorem con133 : Contract Tryz.prog 133 S133 := contract_of Tryz.func133 hb133 (Nat.le_of_ble_eq_true (by kernel_rfl)) (fun ⟨x0, _⟩ h hwf K q =>
  (snd133 _).1 x0 _ (top133 x0 hwf.1.1) K q)
end
noncomputable section
def ext100 : Ext := [(133, S133)]
theorem ext100Ok : ExtOk Tryz.prog ext100 := ⟨⟨ca133, con133⟩, trivial⟩
noncomputable def b100 : Code := bodyOf Tryz.f100
theorem hb100 : Tryz.f100.body = some b100 := by kernel_rfl
def sig100 : List AT := [AT.v (Ty.sl YA4)]
def tys100 : List Ty := [Ty.bool]
def kds100 : List RK := []
def oks100 : List AT := owns sig100
def P100 (x0 : List TyB2) : Prop := True
def g100_0 (x0 : List TyB2) : Bool := (if (g133_0 x0) = true then decide ((↑(List.length x0) : Int) ≤ 24) else false)
theorem at100 (x0 : List TyB2) (h : P100 x0) (K : Ctx) (q : Nat → Value) : AtV Tryz.prog 100 (PostR kds100 oks100 [⟨Ty.bool, g100_0 x0⟩] [] [] q K) 10 K q [] [.code b100] (entE 0 0 sig100 (x0, ())) (entL sig100 (x0, ())) := by
  unfold P100 at h
  unfold g100_0
  by_cases b0 : (g133_0 x0) = true
  · try simp only [if_pos b0] at h ⊢
    exact AtV.ret Tryz.func100 tabOk ext100Ok mixed false [] tys100 [true] (a1 trivial (a1 b0 trivial)) (by kernel_rfl)
  · try simp only [if_neg b0] at h ⊢
    replace b0 := Bool.eq_false_iff.2 b0
    exact AtV.ret Tryz.func100 tabOk ext100Ok mixed false [] tys100 [false] (a1 trivial (a1 b0 trivial)) (by kernel_rfl)
def S100 : Am.Spec := { sig := sig100, pre := fun ⟨x0, _⟩ => P100 x0, res := fun ⟨x0, _⟩ => [⟨Ty.bool, g100_0 x0⟩], kds := kds100 }
theorem con100 : Contract Tryz.prog 100 S100 := contract_of Tryz.func100 hb100 (Nat.le_of_ble_eq_true (by kernel_rfl)) (fun ⟨x0, _⟩ h _ K q => at100 x0 h K q)
end
noncomputable section
def ext151 : Ext := [(122, S122)]
theorem ext151Ok : ExtOk Tryz.prog ext151 := ⟨⟨ca122, con122⟩, trivial⟩
noncomputable def b151 : Code := bodyOf Tryz.f151
theorem hb151 : Tryz.f151.body = some b151 := by kernel_rfl
def sig151 : List AT := [AT.v (Ty.int .i64)]
def tys151 : List Ty := [Ty.bool]
def kds151 : List RK := []
def oks151 : List AT := owns sig151
def P151 (x0 : Int) : Prop := True
def g151_0 (x0 : Int) : Bool := g122_0 x0 0 7
theorem at151 (x0 : Int) (h : P151 x0) (K : Ctx) (q : Nat → Value) : AtV Tryz.prog 151 (PostR kds151 oks151 [⟨Ty.bool, g151_0 x0⟩] [] [] q K) 5 K q [] [.code b151] (entE 0 0 sig151 (x0, ())) (entL sig151 (x0, ())) := by
  unfold P151 at h
  unfold g151_0
  exact AtV.ret Tryz.func151 tabOk ext151Ok mixed false [] tys151 [] (a1 trivial trivial) (by kernel_rfl)
def S151 : Am.Spec := { sig := sig151, pre := fun ⟨x0, _⟩ => P151 x0, res := fun ⟨x0, _⟩ => [⟨Ty.bool, g151_0 x0⟩], kds := kds151 }
theorem con151 : Contract Tryz.prog 151 S151 := contract_of Tryz.func151 hb151 (Nat.le_of_ble_eq_true (by kernel_rfl)) (fun ⟨x0, _⟩ h _ K q => at151 x0 h K q)
end
noncomputable section
def ext134 : Ext := [(143, S143), (151, S151), (152, S152)]
theorem ext134Ok : ExtOk Tryz.prog ext134 := ⟨⟨ca143, con143⟩, ⟨ca151, con151⟩, ⟨ca152, con152⟩, trivial⟩
noncomputable def b134 : Code := bodyOf Tryz.f134
theorem hb134 : Tryz.f134.body = some b134 := by kernel_rfl
def sig134 : List AT := [AT.v YA5]
def tys134 : List Ty := [Ty.bool]
def kds134 : List RK := []
def oks134 : List AT := owns sig134
def P134 (x0 : ByteArray × Int × Int × Unit) : Prop := True
def g134_0 (x0 : ByteArray × Int × Int × Unit) : Bool := (if (g143_0 x0.1) = true then (if (g151_0 x0.2.1) = true then g152_0 x0.2.2.1 else false) else false)
theorem at134 (x0 : ByteArray × Int × Int × Unit) (h : P134 x0) (K : Ctx) (q : Nat → Value) : AtV Tryz.prog 134 (PostR kds134 oks134 [⟨Ty.bool, g134_0 x0⟩] [] [] q K) 16 K q [] [.code b134] (entE 0 0 sig134 (x0, ())) (entL sig134 (x0, ())) := by
  unfold P134 at h
  unfold g134_0
  by_cases b0 : (g143_0 x0.1) = true
  · try simp only [if_pos b0] at h ⊢
    by_cases b1 : (g151_0 x0.2.1) = true
    · try simp only [if_pos b1] at h ⊢
      exact AtV.ret Tryz.func134 tabOk ext134Ok mixed false [] tys134 [true, true] (a1 trivial (a1 b0 (a1 trivial (a1 b1 (a1 trivial trivial))))) (by kernel_rfl)
    · try simp only [if_neg b1] at h ⊢
      replace b1 := Bool.eq_false_iff.2 b1
      exact AtV.ret Tryz.func134 tabOk ext134Ok mixed false [] tys134 [true, false] (a1 trivial (a1 b0 (a1 trivial (a1 b1 trivial)))) (by kernel_rfl)
  · try simp only [if_neg b0] at h ⊢
    replace b0 := Bool.eq_false_iff.2 b0
    exact AtV.ret Tryz.func134 tabOk ext134Ok mixed false [] tys134 [false, false] (a1 trivial (a1 b0 (a1 (rfl : false = false) trivial))) (by kernel_rfl)
def S134 : Am.Spec := { sig := sig134, pre := fun ⟨x0, _⟩ => P134 x0, res := fun ⟨x0, _⟩ => [⟨Ty.bool, g134_0 x0⟩], kds := kds134 }
theorem con134 : Contract Tryz.prog 134 S134 := contract_of Tryz.func134 hb134 (Nat.le_of_ble_eq_true (by kernel_rfl)) (fun ⟨x0, _⟩ h _ K q => at134 x0 h K q)
end
noncomputable section
def ext101 : Ext := [(134, S134)]
theorem ext101Ok : ExtOk Tryz.prog ext101 := ⟨⟨ca134, con134⟩, trivial⟩
noncomputable def b101 : Code := bodyOf Tryz.f101
theorem hb101 : Tryz.f101.body = some b101 := by kernel_rfl
def sig101 : List AT := [AT.v (Ty.sl YA5)]
def tys101 : List Ty := [Ty.bool]
def kds101 : List RK := []
def oks101 : List AT := owns sig101
def E101_2 (v7 : Int) (x0 : List TyB1) : Env := [(0, PV.a (Atom.sl YA5 x0)), (5, PV.a (Atom.sl YA5 x0)), (6, PV.a (Atom.val (Value.int .i64 (↑(List.length x0) : Int)))), (7, PV.a (Atom.val (Value.int .i64 v7)))]
def L101_2 (v7 : Int) (x0 : List TyB1) : Heap := []
mutual
def R101 : Nat → List TyB1 → List Dyn → Prop
  | 0, _, _ => False
  | n + 1, x0, ds => (R101_2 n (0) (x0) ds)
def R101_2 : Nat → Int → List TyB1 → List Dyn → Prop
  | 0, _, _, _ => False
  | n + 1, v7, x0, ds => (if (decide (v7 < (↑(List.length x0) : Int))) = true then ((0 ≤ v7) ∧ (v7 < (↑(List.length x0) : Int)) ∧ (if (!g134_0 (List.getD x0 (Int.toNat v7) (ByteArray.empty, 0, 0, ()))) = true then (ds = [Dyn.mk Ty.bool false]) else (if (decide (v7 > 0)) = true then ((InR .i64 (v7 - 1)) ∧ ((0 ≤ v7 - 1) ∧ (v7 - 1 < (↑(List.length x0) : Int)) ∧ (if (Op.bytesLess (ByteArray.toList (List.getD x0 (Int.toNat v7) (ByteArray.empty, 0, 0, ())).1) (ByteArray.toList (List.getD x0 (Int.toNat (v7 - 1)) (ByteArray.empty, 0, 0, ())).1) || ByteArray.toList (List.getD x0 (Int.toNat v7) (ByteArray.empty, 0, 0, ())).1 == ByteArray.toList (List.getD x0 (Int.toNat (v7 - 1)) (ByteArray.empty, 0, 0, ())).1) = true then (ds = [Dyn.mk Ty.bool false]) else ((InR .i64 (v7 + 1)) ∧ (R101_2 n (v7 + 1) (x0) ds))))) else ((InR .i64 (v7 + 1)) ∧ (R101_2 n (v7 + 1) (x0) ds))))) else (ds = [Dyn.mk Ty.bool (decide ((↑(List.length x0) : Int) ≤ 10))]))
end
theorem snd101 : ∀ n, (∀ (x0 : List TyB1) ds, R101 n x0 ds → ∀ K q, AtV Tryz.prog 101 (PostR kds101 oks101 ds [] [] q K) 34 K q [] [.code b101] (entE 0 0 sig101 (x0, ())) (entL sig101 (x0, ()))) ∧ (∀ (v7 : Int) (x0 : List TyB1) ds, R101_2 n v7 x0 ds → ∀ K q, AtV Tryz.prog 101 (PostR kds101 oks101 ds [] [] q K) 34 K q [] (cutAt b101 2) (E101_2 v7 x0) (L101_2 v7 x0)) := by
  intro n
  induction n with
  | zero => exact ⟨fun _ _ h => by simp only [R101] at h, fun _ _ _ h => by simp only [R101_2] at h⟩
  | succ n ih =>
  obtain ⟨ih, ih2⟩ := ih
  refine ⟨?_, ?_⟩
  · intro x0 ds h K q
    rw [R101] at h
    exact AtV.go tabOk ext101Ok mixed false [] [] [0, 5, 6, 7] [] [] trivial (ih2 _ _ _ h K q) (by kernel_rfl)
  · intro v7 x0 ds h K q
    rw [R101_2] at h
    by_cases b0 : (decide (v7 < (↑(List.length x0) : Int))) = true
    · rw [if_pos b0] at h
      obtain ⟨s0, s1, h⟩ := h
      by_cases b1 : (!g134_0 (List.getD x0 (Int.toNat v7) (ByteArray.empty, 0, 0, ()))) = true
      · rw [if_pos b1] at h
        subst h
        exact AtV.ret Tryz.func101 tabOk ext101Ok mixed false [] tys101 [true, true, true] (a1 b0 (a1 s0 (a1 s1 (a1 trivial (a1 b1 (a1 (rfl : true = true) trivial)))))) (by kernel_rfl)
      · rw [if_neg b1] at h
        replace b1 := Bool.eq_false_iff.2 b1
        by_cases b2 : (decide (v7 > 0)) = true
        · rw [if_pos b2] at h
          obtain ⟨s2, h⟩ := h
          obtain ⟨s3, s4, h⟩ := h
          by_cases b3 : (Op.bytesLess (ByteArray.toList (List.getD x0 (Int.toNat v7) (ByteArray.empty, 0, 0, ())).1) (ByteArray.toList (List.getD x0 (Int.toNat (v7 - 1)) (ByteArray.empty, 0, 0, ())).1) || ByteArray.toList (List.getD x0 (Int.toNat v7) (ByteArray.empty, 0, 0, ())).1 == ByteArray.toList (List.getD x0 (Int.toNat (v7 - 1)) (ByteArray.empty, 0, 0, ())).1) = true
          · rw [if_pos b3] at h
            subst h
            exact AtV.ret Tryz.func101 tabOk ext101Ok mixed false [] tys101 [true, false, true, true] (a1 b0 (a1 s0 (a1 s1 (a1 trivial (a1 b1 (a1 b2 (a1 s2 (a1 s3 (a1 s4 (a1 b3 trivial)))))))))) (by kernel_rfl)
          · rw [if_neg b3] at h
            replace b3 := Bool.eq_false_iff.2 b3
            obtain ⟨s5, h⟩ := h
            exact AtV.go tabOk ext101Ok mixed false [] [] [0, 5, 6, 7] [] [true, false, true, false] (a1 b0 (a1 s0 (a1 s1 (a1 trivial (a1 b1 (a1 b2 (a1 s2 (a1 s3 (a1 s4 (a1 b3 (a1 s5 trivial))))))))))) (ih2 _ _ _ h K q) (by kernel_rfl)
        · rw [if_neg b2] at h
          replace b2 := Bool.eq_false_iff.2 b2
          obtain ⟨s2, h⟩ := h
          exact AtV.go tabOk ext101Ok mixed false [] [] [0, 5, 6, 7] [] [true, false, false, false] (a1 b0 (a1 s0 (a1 s1 (a1 trivial (a1 b1 (a1 b2 (a1 (rfl : false = false) (a1 s2 trivial)))))))) (ih2 _ _ _ h K q) (by kernel_rfl)
    · rw [if_neg b0] at h
      replace b0 := Bool.eq_false_iff.2 b0
      subst h
      exact AtV.ret Tryz.func101 tabOk ext101Ok mixed false [] tys101 [false] (a1 b0 trivial) (by kernel_rfl)
def ok101 (x0 : List TyB1) (i : Nat) (x : TyB1) : Bool :=
  g134_0 x && (i == 0 || !(Op.bytesLess (ByteArray.toList x.1) (ByteArray.toList (x0.getD (i - 1) (ByteArray.empty, (0 : Int), (0 : Int), ())).1) || ByteArray.toList x.1 == ByteArray.toList (x0.getD (i - 1) (ByteArray.empty, (0 : Int), (0 : Int), ())).1))
def g101_0 (x0 : List TyB1) : Bool := allI (ok101 x0) 0 x0 && decide (x0.length ≤ 10)
def P101 (x0 : List TyB1) : Prop := True
theorem step101 (n i : Nat) (x0 : List TyB1) (hm : x0.length ≤ maxLen) (hi : i < x0.length) (ds : List Dyn) :
    (if ok101 x0 i (x0.getD i (ByteArray.empty, (0 : Int), (0 : Int), ())) = true then R101_2 n ((i : Int) + 1) x0 ds else ds = [⟨.bool, false⟩]) → R101_2 (n + 1) (i : Int) x0 ds := by
  intro h
  have hu := inR_up hm hi
  rw [R101_2, if_pos (by simp; omega)]
  refine ⟨by omega, by omega, ?_⟩
  simp only [Int.toNat_natCast]
  unfold ok101 at h
  by_cases h1 : g134_0 (x0.getD i (ByteArray.empty, (0 : Int), (0 : Int), ())) = true
  case neg =>
    have h1 := Bool.eq_false_iff.2 h1
    rw [h1] at h
    rw [if_pos (by rw [h1]; rfl)]
    simpa using h
  case pos =>
    rw [h1] at h
    rw [if_neg (by rw [h1]; simp)]
    by_cases h0 : (i : Int) > 0
    · rw [if_pos (by simpa using h0)]
      have hi0 : (i == 0) = false := by simp; omega
      have e : ((i : Int) - 1).toNat = i - 1 := by omega
      refine ⟨by rw [i64_iff]; have : maxLen ≤ 9223372036854775807 := by decide
                 omega, by omega, by omega, ?_⟩
      rw [e]
      by_cases h2 : (Op.bytesLess (ByteArray.toList (x0.getD i (ByteArray.empty, (0 : Int), (0 : Int), ())).1) (ByteArray.toList (x0.getD (i - 1) (ByteArray.empty, (0 : Int), (0 : Int), ())).1) || ByteArray.toList (x0.getD i (ByteArray.empty, (0 : Int), (0 : Int), ())).1 == ByteArray.toList (x0.getD (i - 1) (ByteArray.empty, (0 : Int), (0 : Int), ())).1) = true
      · rw [if_pos h2]
        rw [hi0, h2] at h
        simpa using h
      · rw [if_neg h2]
        rw [hi0, Bool.eq_false_iff.2 h2] at h
        exact ⟨hu, by simpa using h⟩
    · rw [if_neg (by simpa using h0)]
      have hi0 : (i == 0) = true := by simp; omega
      rw [hi0] at h
      exact ⟨hu, by simpa using h⟩
theorem top101 (x0 : List TyB1) (hw : x0.length ≤ maxLen) : R101 (x0.length + 1 + 1) x0 [⟨.bool, g101_0 x0⟩] := by
  rw [R101]
  have key := loop_testI x0 (ByteArray.empty, (0 : Int), (0 : Int), ()) (ok101 x0) [(⟨.bool, false⟩ : Dyn)] [⟨.bool, decide (x0.length ≤ 10)⟩] (fun n i ds => R101_2 n i x0 ds) (fun n => ?_) (fun n i hi hok ds hr => ?_) (fun n i hi hok => ?_)
  · unfold g101_0
    cases h : allI (ok101 x0) 0 x0 with
    | true => rw [if_pos h] at key; simpa using key
    | false => rw [if_neg (by rw [h]; simp)] at key; simpa using key
  · rw [R101_2, if_neg (by simp)]
    have hc : decide ((x0.length : Int) ≤ 10) = decide (x0.length ≤ 10) := by
      congr 1; exact propext ⟨fun h => by omega, fun h => by omega⟩
    rw [hc]
  · exact step101 n i x0 hw hi ds (by rw [if_pos hok]; exact hr)
  · exact step101 n i x0 hw hi _ (by rw [if_neg (by rw [hok]; simp)])
def S101 : Am.Spec := { sig := sig101, pre := fun ⟨x0, _⟩ => P101 x0, res := fun ⟨x0, _⟩ => [⟨Ty.bool, g101_0 x0⟩] }
theorem con101 : Contract Tryz.prog 101 S101 := contract_of Tryz.func101 hb101 (Nat.le_of_ble_eq_true (by kernel_rfl)) (fun ⟨x0, _⟩ h hwf K q =>
  (snd101 _).1 x0 _ (top101 x0 hwf.1.1) K q)
end
noncomputable section
def ext135 : Ext := [(143, S143), (151, S151), (152, S152)]
theorem ext135Ok : ExtOk Tryz.prog ext135 := ⟨⟨ca143, con143⟩, ⟨ca151, con151⟩, ⟨ca152, con152⟩, trivial⟩
noncomputable def b135 : Code := bodyOf Tryz.f135
theorem hb135 : Tryz.f135.body = some b135 := by kernel_rfl
def sig135 : List AT := [AT.v YA5]
def tys135 : List Ty := [Ty.bool]
def kds135 : List RK := []
def oks135 : List AT := owns sig135
def P135 (x0 : ByteArray × Int × Int × Unit) : Prop := True
def g135_0 (x0 : ByteArray × Int × Int × Unit) : Bool := (if (g143_0 x0.1) = true then (if (g151_0 x0.2.1) = true then g152_0 x0.2.2.1 else false) else false)
theorem at135 (x0 : ByteArray × Int × Int × Unit) (h : P135 x0) (K : Ctx) (q : Nat → Value) : AtV Tryz.prog 135 (PostR kds135 oks135 [⟨Ty.bool, g135_0 x0⟩] [] [] q K) 16 K q [] [.code b135] (entE 0 0 sig135 (x0, ())) (entL sig135 (x0, ())) := by
  unfold P135 at h
  unfold g135_0
  by_cases b0 : (g143_0 x0.1) = true
  · try simp only [if_pos b0] at h ⊢
    by_cases b1 : (g151_0 x0.2.1) = true
    · try simp only [if_pos b1] at h ⊢
      exact AtV.ret Tryz.func135 tabOk ext135Ok mixed false [] tys135 [true, true] (a1 trivial (a1 b0 (a1 trivial (a1 b1 (a1 trivial trivial))))) (by kernel_rfl)
    · try simp only [if_neg b1] at h ⊢
      replace b1 := Bool.eq_false_iff.2 b1
      exact AtV.ret Tryz.func135 tabOk ext135Ok mixed false [] tys135 [true, false] (a1 trivial (a1 b0 (a1 trivial (a1 b1 trivial)))) (by kernel_rfl)
  · try simp only [if_neg b0] at h ⊢
    replace b0 := Bool.eq_false_iff.2 b0
    exact AtV.ret Tryz.func135 tabOk ext135Ok mixed false [] tys135 [false, false] (a1 trivial (a1 b0 (a1 (rfl : false = false) trivial))) (by kernel_rfl)
def S135 : Am.Spec := { sig := sig135, pre := fun ⟨x0, _⟩ => P135 x0, res := fun ⟨x0, _⟩ => [⟨Ty.bool, g135_0 x0⟩], kds := kds135 }
theorem con135 : Contract Tryz.prog 135 S135 := contract_of Tryz.func135 hb135 (Nat.le_of_ble_eq_true (by kernel_rfl)) (fun ⟨x0, _⟩ h _ K q => at135 x0 h K q)
end
noncomputable section
def ext102 : Ext := [(135, S135)]
theorem ext102Ok : ExtOk Tryz.prog ext102 := ⟨⟨ca135, con135⟩, trivial⟩
noncomputable def b102 : Code := bodyOf Tryz.f102
theorem hb102 : Tryz.f102.body = some b102 := by kernel_rfl
def sig102 : List AT := [AT.v (Ty.sl YA5)]
def tys102 : List Ty := [Ty.bool]
def kds102 : List RK := []
def oks102 : List AT := owns sig102
def E102_2 (v7 : Int) (x0 : List TyB1) : Env := [(0, PV.a (Atom.sl YA5 x0)), (5, PV.a (Atom.sl YA5 x0)), (6, PV.a (Atom.val (Value.int .i64 (↑(List.length x0) : Int)))), (7, PV.a (Atom.val (Value.int .i64 v7)))]
def L102_2 (v7 : Int) (x0 : List TyB1) : Heap := []
mutual
def R102 : Nat → List TyB1 → List Dyn → Prop
  | 0, _, _ => False
  | n + 1, x0, ds => (R102_2 n (0) (x0) ds)
def R102_2 : Nat → Int → List TyB1 → List Dyn → Prop
  | 0, _, _, _ => False
  | n + 1, v7, x0, ds => (if (decide (v7 < (↑(List.length x0) : Int))) = true then ((0 ≤ v7) ∧ (v7 < (↑(List.length x0) : Int)) ∧ (if (!g135_0 (List.getD x0 (Int.toNat v7) (ByteArray.empty, 0, 0, ()))) = true then (ds = [Dyn.mk Ty.bool false]) else (if (decide (v7 > 0)) = true then ((InR .i64 (v7 - 1)) ∧ ((0 ≤ v7 - 1) ∧ (v7 - 1 < (↑(List.length x0) : Int)) ∧ (if (Op.bytesLess (ByteArray.toList (List.getD x0 (Int.toNat v7) (ByteArray.empty, 0, 0, ())).1) (ByteArray.toList (List.getD x0 (Int.toNat (v7 - 1)) (ByteArray.empty, 0, 0, ())).1) || ByteArray.toList (List.getD x0 (Int.toNat v7) (ByteArray.empty, 0, 0, ())).1 == ByteArray.toList (List.getD x0 (Int.toNat (v7 - 1)) (ByteArray.empty, 0, 0, ())).1) = true then (ds = [Dyn.mk Ty.bool false]) else ((InR .i64 (v7 + 1)) ∧ (R102_2 n (v7 + 1) (x0) ds))))) else ((InR .i64 (v7 + 1)) ∧ (R102_2 n (v7 + 1) (x0) ds))))) else (ds = [Dyn.mk Ty.bool (decide ((↑(List.length x0) : Int) ≤ 8))]))
end
theorem snd102 : ∀ n, (∀ (x0 : List TyB1) ds, R102 n x0 ds → ∀ K q, AtV Tryz.prog 102 (PostR kds102 oks102 ds [] [] q K) 34 K q [] [.code b102] (entE 0 0 sig102 (x0, ())) (entL sig102 (x0, ()))) ∧ (∀ (v7 : Int) (x0 : List TyB1) ds, R102_2 n v7 x0 ds → ∀ K q, AtV Tryz.prog 102 (PostR kds102 oks102 ds [] [] q K) 34 K q [] (cutAt b102 2) (E102_2 v7 x0) (L102_2 v7 x0)) := by
  intro n
  induction n with
  | zero => exact ⟨fun _ _ h => by simp only [R102] at h, fun _ _ _ h => by simp only [R102_2] at h⟩
  | succ n ih =>
  obtain ⟨ih, ih2⟩ := ih
  refine ⟨?_, ?_⟩
  · intro x0 ds h K q
    rw [R102] at h
    exact AtV.go tabOk ext102Ok mixed false [] [] [0, 5, 6, 7] [] [] trivial (ih2 _ _ _ h K q) (by kernel_rfl)
  · intro v7 x0 ds h K q
    rw [R102_2] at h
    by_cases b0 : (decide (v7 < (↑(List.length x0) : Int))) = true
    · rw [if_pos b0] at h
      obtain ⟨s0, s1, h⟩ := h
      by_cases b1 : (!g135_0 (List.getD x0 (Int.toNat v7) (ByteArray.empty, 0, 0, ()))) = true
      · rw [if_pos b1] at h
        subst h
        exact AtV.ret Tryz.func102 tabOk ext102Ok mixed false [] tys102 [true, true, true] (a1 b0 (a1 s0 (a1 s1 (a1 trivial (a1 b1 (a1 (rfl : true = true) trivial)))))) (by kernel_rfl)
      · rw [if_neg b1] at h
        replace b1 := Bool.eq_false_iff.2 b1
        by_cases b2 : (decide (v7 > 0)) = true
        · rw [if_pos b2] at h
          obtain ⟨s2, h⟩ := h
          obtain ⟨s3, s4, h⟩ := h
          by_cases b3 : (Op.bytesLess (ByteArray.toList (List.getD x0 (Int.toNat v7) (ByteArray.empty, 0, 0, ())).1) (ByteArray.toList (List.getD x0 (Int.toNat (v7 - 1)) (ByteArray.empty, 0, 0, ())).1) || ByteArray.toList (List.getD x0 (Int.toNat v7) (ByteArray.empty, 0, 0, ())).1 == ByteArray.toList (List.getD x0 (Int.toNat (v7 - 1)) (ByteArray.empty, 0, 0, ())).1) = true
          · rw [if_pos b3] at h
            subst h
            exact AtV.ret Tryz.func102 tabOk ext102Ok mixed false [] tys102 [true, false, true, true] (a1 b0 (a1 s0 (a1 s1 (a1 trivial (a1 b1 (a1 b2 (a1 s2 (a1 s3 (a1 s4 (a1 b3 trivial)))))))))) (by kernel_rfl)
          · rw [if_neg b3] at h
            replace b3 := Bool.eq_false_iff.2 b3
            obtain ⟨s5, h⟩ := h
            exact AtV.go tabOk ext102Ok mixed false [] [] [0, 5, 6, 7] [] [true, false, true, false] (a1 b0 (a1 s0 (a1 s1 (a1 trivial (a1 b1 (a1 b2 (a1 s2 (a1 s3 (a1 s4 (a1 b3 (a1 s5 trivial))))))))))) (ih2 _ _ _ h K q) (by kernel_rfl)
        · rw [if_neg b2] at h
          replace b2 := Bool.eq_false_iff.2 b2
          obtain ⟨s2, h⟩ := h
          exact AtV.go tabOk ext102Ok mixed false [] [] [0, 5, 6, 7] [] [true, false, false, false] (a1 b0 (a1 s0 (a1 s1 (a1 trivial (a1 b1 (a1 b2 (a1 (rfl : false = false) (a1 s2 trivial)))))))) (ih2 _ _ _ h K q) (by kernel_rfl)
    · rw [if_neg b0] at h
      replace b0 := Bool.eq_false_iff.2 b0
      subst h
      exact AtV.ret Tryz.func102 tabOk ext102Ok mixed false [] tys102 [false] (a1 b0 trivial) (by kernel_rfl)
def ok102 (x0 : List TyB1) (i : Nat) (x : TyB1) : Bool :=
  g135_0 x && (i == 0 || !(Op.bytesLess (ByteArray.toList x.1) (ByteArray.toList (x0.getD (i - 1) (ByteArray.empty, (0 : Int), (0 : Int), ())).1) || ByteArray.toList x.1 == ByteArray.toList (x0.getD (i - 1) (ByteArray.empty, (0 : Int), (0 : Int), ())).1))
def g102_0 (x0 : List TyB1) : Bool := allI (ok102 x0) 0 x0 && decide (x0.length ≤ 8)
def P102 (x0 : List TyB1) : Prop := True
theorem step102 (n i : Nat) (x0 : List TyB1) (hm : x0.length ≤ maxLen) (hi : i < x0.length) (ds : List Dyn) :
    (if ok102 x0 i (x0.getD i (ByteArray.empty, (0 : Int), (0 : Int), ())) = true then R102_2 n ((i : Int) + 1) x0 ds else ds = [⟨.bool, false⟩]) → R102_2 (n + 1) (i : Int) x0 ds := by
  intro h
  have hu := inR_up hm hi
  rw [R102_2, if_pos (by simp; omega)]
  refine ⟨by omega, by omega, ?_⟩
  simp only [Int.toNat_natCast]
  unfold ok102 at h
  by_cases h1 : g135_0 (x0.getD i (ByteArray.empty, (0 : Int), (0 : Int), ())) = true
  case neg =>
    have h1 := Bool.eq_false_iff.2 h1
    rw [h1] at h
    rw [if_pos (by rw [h1]; rfl)]
    simpa using h
  case pos =>
    rw [h1] at h
    rw [if_neg (by rw [h1]; simp)]
    by_cases h0 : (i : Int) > 0
    · rw [if_pos (by simpa using h0)]
      have hi0 : (i == 0) = false := by simp; omega
      have e : ((i : Int) - 1).toNat = i - 1 := by omega
      refine ⟨by rw [i64_iff]; have : maxLen ≤ 9223372036854775807 := by decide
                 omega, by omega, by omega, ?_⟩
      rw [e]
      by_cases h2 : (Op.bytesLess (ByteArray.toList (x0.getD i (ByteArray.empty, (0 : Int), (0 : Int), ())).1) (ByteArray.toList (x0.getD (i - 1) (ByteArray.empty, (0 : Int), (0 : Int), ())).1) || ByteArray.toList (x0.getD i (ByteArray.empty, (0 : Int), (0 : Int), ())).1 == ByteArray.toList (x0.getD (i - 1) (ByteArray.empty, (0 : Int), (0 : Int), ())).1) = true
      · rw [if_pos h2]
        rw [hi0, h2] at h
        simpa using h
      · rw [if_neg h2]
        rw [hi0, Bool.eq_false_iff.2 h2] at h
        exact ⟨hu, by simpa using h⟩
    · rw [if_neg (by simpa using h0)]
      have hi0 : (i == 0) = true := by simp; omega
      rw [hi0] at h
      exact ⟨hu, by simpa using h⟩
theorem top102 (x0 : List TyB1) (hw : x0.length ≤ maxLen) : R102 (x0.length + 1 + 1) x0 [⟨.bool, g102_0 x0⟩] := by
  rw [R102]
  have key := loop_testI x0 (ByteArray.empty, (0 : Int), (0 : Int), ()) (ok102 x0) [(⟨.bool, false⟩ : Dyn)] [⟨.bool, decide (x0.length ≤ 8)⟩] (fun n i ds => R102_2 n i x0 ds) (fun n => ?_) (fun n i hi hok ds hr => ?_) (fun n i hi hok => ?_)
  · unfold g102_0
    cases h : allI (ok102 x0) 0 x0 with
    | true => rw [if_pos h] at key; simpa using key
    | false => rw [if_neg (by rw [h]; simp)] at key; simpa using key
  · rw [R102_2, if_neg (by simp)]
    have hc : decide ((x0.length : Int) ≤ 8) = decide (x0.length ≤ 8) := by
      congr 1; exact propext ⟨fun h => by omega, fun h => by omega⟩
    rw [hc]
  · exact step102 n i x0 hw hi ds (by rw [if_pos hok]; exact hr)
  · exact step102 n i x0 hw hi _ (by rw [if_neg (by rw [hok]; simp)])
def S102 : Am.Spec := { sig := sig102, pre := fun ⟨x0, _⟩ => P102 x0, res := fun ⟨x0, _⟩ => [⟨Ty.bool, g102_0 x0⟩] }
theorem con102 : Contract Tryz.prog 102 S102 := contract_of Tryz.func102 hb102 (Nat.le_of_ble_eq_true (by kernel_rfl)) (fun ⟨x0, _⟩ h hwf K q =>
  (snd102 _).1 x0 _ (top102 x0 hwf.1.1) K q)
end
noncomputable section
def ext35 : Ext := [(91, S91), (92, S92), (93, S93), (94, S94), (95, S95), (96, S96), (97, S97), (98, S98), (99, S99), (100, S100), (101, S101), (102, S102)]
theorem ext35Ok : ExtOk Tryz.prog ext35 := ⟨⟨ca91, con91⟩, ⟨ca92, con92⟩, ⟨ca93, con93⟩, ⟨ca94, con94⟩, ⟨ca95, con95⟩, ⟨ca96, con96⟩, ⟨ca97, con97⟩, ⟨ca98, con98⟩, ⟨ca99, con99⟩, ⟨ca100, con100⟩, ⟨ca101, con101⟩, ⟨ca102, con102⟩, trivial⟩
noncomputable def b35 : Code := bodyOf Tryz.f35
theorem hb35 : Tryz.f35.body = some b35 := by kernel_rfl
def sig35 : List AT := [AT.v YA0]
def tys35 : List Ty := [Ty.bool]
def kds35 : List RK := []
def oks35 : List AT := owns sig35
def P35 (x0 : TyA0) : Prop := True
def g35_0 (x0 : TyA0) : Bool := (if (g91_0 x0.1) = true then (if (g92_0 x0.2.1) = true then (if (g93_0 x0.2.2.1) = true then (if (g94_0 x0.2.2.2.1) = true then (if (g96_0 x0.2.2.2.2.2.1) = true then (if (g97_0 x0.2.2.2.2.2.2.1) = true then (if (g98_0 x0.2.2.2.2.2.2.2.1) = true then (if (g95_0 x0.2.2.2.2.1) = true then (if (g99_0 x0.2.2.2.2.2.2.2.2.1) = true then (if (g100_0 x0.2.2.2.2.2.2.2.2.2.1) = true then (if (g101_0 x0.2.2.2.2.2.2.2.2.2.2.1) = true then g102_0 x0.2.2.2.2.2.2.2.2.2.2.2.1 else false) else false) else false) else false) else (if (g95_0 x0.2.2.2.2.1) = true then false else false)) else (if (g95_0 x0.2.2.2.2.1) = true then false else false)) else (if (g95_0 x0.2.2.2.2.1) = true then false else false)) else (if (g96_0 x0.2.2.2.2.2.1) = true then (if (g97_0 x0.2.2.2.2.2.2.1) = true then (if (g98_0 x0.2.2.2.2.2.2.2.1) = true then false else false) else false) else false)) else (if (g96_0 x0.2.2.2.2.2.1) = true then (if (g97_0 x0.2.2.2.2.2.2.1) = true then (if (g98_0 x0.2.2.2.2.2.2.2.1) = true then false else false) else false) else false)) else (if (g96_0 x0.2.2.2.2.2.1) = true then (if (g97_0 x0.2.2.2.2.2.2.1) = true then (if (g98_0 x0.2.2.2.2.2.2.2.1) = true then false else false) else false) else false)) else (if (g96_0 x0.2.2.2.2.2.1) = true then (if (g97_0 x0.2.2.2.2.2.2.1) = true then (if (g98_0 x0.2.2.2.2.2.2.2.1) = true then false else false) else false) else false))
theorem at35 (x0 : TyA0) (h : P35 x0) (K : Ctx) (q : Nat → Value) : AtV Tryz.prog 35 (PostR kds35 oks35 [⟨Ty.bool, g35_0 x0⟩] [] [] q K) 65 K q [] [.code b35] (entE 0 0 sig35 (x0, ())) (entL sig35 (x0, ())) := by
  unfold P35 at h
  unfold g35_0
  by_cases b0 : (g91_0 x0.1) = true
  · try simp only [if_pos b0] at h ⊢
    by_cases b1 : (g92_0 x0.2.1) = true
    · try simp only [if_pos b1] at h ⊢
      by_cases b2 : (g93_0 x0.2.2.1) = true
      · try simp only [if_pos b2] at h ⊢
        by_cases b3 : (g94_0 x0.2.2.2.1) = true
        · try simp only [if_pos b3] at h ⊢
          by_cases b4 : (g96_0 x0.2.2.2.2.2.1) = true
          · try simp only [if_pos b4] at h ⊢
            by_cases b5 : (g97_0 x0.2.2.2.2.2.2.1) = true
            · try simp only [if_pos b5] at h ⊢
              by_cases b6 : (g98_0 x0.2.2.2.2.2.2.2.1) = true
              · try simp only [if_pos b6] at h ⊢
                by_cases b7 : (g95_0 x0.2.2.2.2.1) = true
                · try simp only [if_pos b7] at h ⊢
                  by_cases b8 : (g99_0 x0.2.2.2.2.2.2.2.2.1) = true
                  · try simp only [if_pos b8] at h ⊢
                    by_cases b9 : (g100_0 x0.2.2.2.2.2.2.2.2.2.1) = true
                    · try simp only [if_pos b9] at h ⊢
                      by_cases b10 : (g101_0 x0.2.2.2.2.2.2.2.2.2.2.1) = true
                      · try simp only [if_pos b10] at h ⊢
                        exact AtV.ret Tryz.func35 tabOk ext35Ok mixed false [] tys35 [true, true, true, true, true, true, true, true, true, true, true] (a1 trivial (a1 b0 (a1 trivial (a1 b1 (a1 trivial (a1 b2 (a1 trivial (a1 b3 (a1 trivial (a1 trivial (a1 b4 (a1 trivial (a1 b5 (a1 trivial (a1 b6 (a1 trivial (a1 b7 (a1 b8 (a1 trivial (a1 b9 (a1 trivial (a1 b10 (a1 trivial trivial))))))))))))))))))))))) (by kernel_rfl)
                      · try simp only [if_neg b10] at h ⊢
                        replace b10 := Bool.eq_false_iff.2 b10
                        exact AtV.ret Tryz.func35 tabOk ext35Ok mixed false [] tys35 [true, true, true, true, true, true, true, true, true, true, false] (a1 trivial (a1 b0 (a1 trivial (a1 b1 (a1 trivial (a1 b2 (a1 trivial (a1 b3 (a1 trivial (a1 trivial (a1 b4 (a1 trivial (a1 b5 (a1 trivial (a1 b6 (a1 trivial (a1 b7 (a1 b8 (a1 trivial (a1 b9 (a1 trivial (a1 b10 trivial)))))))))))))))))))))) (by kernel_rfl)
                    · try simp only [if_neg b9] at h ⊢
                      replace b9 := Bool.eq_false_iff.2 b9
                      exact AtV.ret Tryz.func35 tabOk ext35Ok mixed false [] tys35 [true, true, true, true, true, true, true, true, true, false, false] (a1 trivial (a1 b0 (a1 trivial (a1 b1 (a1 trivial (a1 b2 (a1 trivial (a1 b3 (a1 trivial (a1 trivial (a1 b4 (a1 trivial (a1 b5 (a1 trivial (a1 b6 (a1 trivial (a1 b7 (a1 b8 (a1 trivial (a1 b9 (a1 (rfl : false = false) trivial))))))))))))))))))))) (by kernel_rfl)
                  · try simp only [if_neg b8] at h ⊢
                    replace b8 := Bool.eq_false_iff.2 b8
                    exact AtV.ret Tryz.func35 tabOk ext35Ok mixed false [] tys35 [true, true, true, true, true, true, true, true, false, false, false] (a1 trivial (a1 b0 (a1 trivial (a1 b1 (a1 trivial (a1 b2 (a1 trivial (a1 b3 (a1 trivial (a1 trivial (a1 b4 (a1 trivial (a1 b5 (a1 trivial (a1 b6 (a1 trivial (a1 b7 (a1 b8 (a1 (rfl : false = false) (a1 (rfl : false = false) trivial)))))))))))))))))))) (by kernel_rfl)
                · try simp only [if_neg b7] at h ⊢
                  replace b7 := Bool.eq_false_iff.2 b7
                  exact AtV.ret Tryz.func35 tabOk ext35Ok mixed false [] tys35 [true, true, true, true, true, true, true, false, false, false, false] (a1 trivial (a1 b0 (a1 trivial (a1 b1 (a1 trivial (a1 b2 (a1 trivial (a1 b3 (a1 trivial (a1 trivial (a1 b4 (a1 trivial (a1 b5 (a1 trivial (a1 b6 (a1 trivial (a1 b7 (a1 (rfl : false = false) (a1 (rfl : false = false) (a1 (rfl : false = false) trivial)))))))))))))))))))) (by kernel_rfl)
              · try simp only [if_neg b6] at h ⊢
                replace b6 := Bool.eq_false_iff.2 b6
                by_cases b7 : (g95_0 x0.2.2.2.2.1) = true
                · try simp only [if_pos b7] at h ⊢
                  exact AtV.ret Tryz.func35 tabOk ext35Ok mixed false [] tys35 [true, true, true, true, true, true, false, true, false, false, false] (a1 trivial (a1 b0 (a1 trivial (a1 b1 (a1 trivial (a1 b2 (a1 trivial (a1 b3 (a1 trivial (a1 trivial (a1 b4 (a1 trivial (a1 b5 (a1 trivial (a1 b6 (a1 b7 (a1 (rfl : false = false) (a1 (rfl : false = false) (a1 (rfl : false = false) trivial))))))))))))))))))) (by kernel_rfl)
                · try simp only [if_neg b7] at h ⊢
                  replace b7 := Bool.eq_false_iff.2 b7
                  exact AtV.ret Tryz.func35 tabOk ext35Ok mixed false [] tys35 [true, true, true, true, true, true, false, false, false, false, false] (a1 trivial (a1 b0 (a1 trivial (a1 b1 (a1 trivial (a1 b2 (a1 trivial (a1 b3 (a1 trivial (a1 trivial (a1 b4 (a1 trivial (a1 b5 (a1 trivial (a1 b6 (a1 b7 (a1 (rfl : false = false) (a1 (rfl : false = false) (a1 (rfl : false = false) trivial))))))))))))))))))) (by kernel_rfl)
            · try simp only [if_neg b5] at h ⊢
              replace b5 := Bool.eq_false_iff.2 b5
              by_cases b6 : (g95_0 x0.2.2.2.2.1) = true
              · try simp only [if_pos b6] at h ⊢
                exact AtV.ret Tryz.func35 tabOk ext35Ok mixed false [] tys35 [true, true, true, true, true, false, false, true, false, false, false] (a1 trivial (a1 b0 (a1 trivial (a1 b1 (a1 trivial (a1 b2 (a1 trivial (a1 b3 (a1 trivial (a1 trivial (a1 b4 (a1 trivial (a1 b5 (a1 (rfl : false = false) (a1 b6 (a1 (rfl : false = false) (a1 (rfl : false = false) (a1 (rfl : false = false) trivial)))))))))))))))))) (by kernel_rfl)
              · try simp only [if_neg b6] at h ⊢
                replace b6 := Bool.eq_false_iff.2 b6
                exact AtV.ret Tryz.func35 tabOk ext35Ok mixed false [] tys35 [true, true, true, true, true, false, false, false, false, false, false] (a1 trivial (a1 b0 (a1 trivial (a1 b1 (a1 trivial (a1 b2 (a1 trivial (a1 b3 (a1 trivial (a1 trivial (a1 b4 (a1 trivial (a1 b5 (a1 (rfl : false = false) (a1 b6 (a1 (rfl : false = false) (a1 (rfl : false = false) (a1 (rfl : false = false) trivial)))))))))))))))))) (by kernel_rfl)
          · try simp only [if_neg b4] at h ⊢
            replace b4 := Bool.eq_false_iff.2 b4
            by_cases b5 : (g95_0 x0.2.2.2.2.1) = true
            · try simp only [if_pos b5] at h ⊢
              exact AtV.ret Tryz.func35 tabOk ext35Ok mixed false [] tys35 [true, true, true, true, false, false, false, true, false, false, false] (a1 trivial (a1 b0 (a1 trivial (a1 b1 (a1 trivial (a1 b2 (a1 trivial (a1 b3 (a1 trivial (a1 trivial (a1 b4 (a1 (rfl : false = false) (a1 (rfl : false = false) (a1 b5 (a1 (rfl : false = false) (a1 (rfl : false = false) (a1 (rfl : false = false) trivial))))))))))))))))) (by kernel_rfl)
            · try simp only [if_neg b5] at h ⊢
              replace b5 := Bool.eq_false_iff.2 b5
              exact AtV.ret Tryz.func35 tabOk ext35Ok mixed false [] tys35 [true, true, true, true, false, false, false, false, false, false, false] (a1 trivial (a1 b0 (a1 trivial (a1 b1 (a1 trivial (a1 b2 (a1 trivial (a1 b3 (a1 trivial (a1 trivial (a1 b4 (a1 (rfl : false = false) (a1 (rfl : false = false) (a1 b5 (a1 (rfl : false = false) (a1 (rfl : false = false) (a1 (rfl : false = false) trivial))))))))))))))))) (by kernel_rfl)
        · try simp only [if_neg b3] at h ⊢
          replace b3 := Bool.eq_false_iff.2 b3
          by_cases b4 : (g96_0 x0.2.2.2.2.2.1) = true
          · try simp only [if_pos b4] at h ⊢
            by_cases b5 : (g97_0 x0.2.2.2.2.2.2.1) = true
            · try simp only [if_pos b5] at h ⊢
              by_cases b6 : (g98_0 x0.2.2.2.2.2.2.2.1) = true
              · try simp only [if_pos b6] at h ⊢
                exact AtV.ret Tryz.func35 tabOk ext35Ok mixed false [] tys35 [true, true, true, false, true, true, true, false, false, false, false] (a1 trivial (a1 b0 (a1 trivial (a1 b1 (a1 trivial (a1 b2 (a1 trivial (a1 b3 (a1 trivial (a1 b4 (a1 trivial (a1 b5 (a1 trivial (a1 b6 (a1 trivial (a1 (rfl : false = false) (a1 (rfl : false = false) (a1 (rfl : false = false) (a1 (rfl : false = false) trivial))))))))))))))))))) (by kernel_rfl)
              · try simp only [if_neg b6] at h ⊢
                replace b6 := Bool.eq_false_iff.2 b6
                exact AtV.ret Tryz.func35 tabOk ext35Ok mixed false [] tys35 [true, true, true, false, true, true, false, false, false, false, false] (a1 trivial (a1 b0 (a1 trivial (a1 b1 (a1 trivial (a1 b2 (a1 trivial (a1 b3 (a1 trivial (a1 b4 (a1 trivial (a1 b5 (a1 trivial (a1 b6 (a1 (rfl : false = false) (a1 (rfl : false = false) (a1 (rfl : false = false) (a1 (rfl : false = false) trivial)))))))))))))))))) (by kernel_rfl)
            · try simp only [if_neg b5] at h ⊢
              replace b5 := Bool.eq_false_iff.2 b5
              exact AtV.ret Tryz.func35 tabOk ext35Ok mixed false [] tys35 [true, true, true, false, true, false, false, false, false, false, false] (a1 trivial (a1 b0 (a1 trivial (a1 b1 (a1 trivial (a1 b2 (a1 trivial (a1 b3 (a1 trivial (a1 b4 (a1 trivial (a1 b5 (a1 (rfl : false = false) (a1 (rfl : false = false) (a1 (rfl : false = false) (a1 (rfl : false = false) (a1 (rfl : false = false) trivial))))))))))))))))) (by kernel_rfl)
          · try simp only [if_neg b4] at h ⊢
            replace b4 := Bool.eq_false_iff.2 b4
            exact AtV.ret Tryz.func35 tabOk ext35Ok mixed false [] tys35 [true, true, true, false, false, false, false, false, false, false, false] (a1 trivial (a1 b0 (a1 trivial (a1 b1 (a1 trivial (a1 b2 (a1 trivial (a1 b3 (a1 trivial (a1 b4 (a1 (rfl : false = false) (a1 (rfl : false = false) (a1 (rfl : false = false) (a1 (rfl : false = false) (a1 (rfl : false = false) (a1 (rfl : false = false) trivial)))))))))))))))) (by kernel_rfl)
      · try simp only [if_neg b2] at h ⊢
        replace b2 := Bool.eq_false_iff.2 b2
        by_cases b3 : (g96_0 x0.2.2.2.2.2.1) = true
        · try simp only [if_pos b3] at h ⊢
          by_cases b4 : (g97_0 x0.2.2.2.2.2.2.1) = true
          · try simp only [if_pos b4] at h ⊢
            by_cases b5 : (g98_0 x0.2.2.2.2.2.2.2.1) = true
            · try simp only [if_pos b5] at h ⊢
              exact AtV.ret Tryz.func35 tabOk ext35Ok mixed false [] tys35 [true, true, false, false, true, true, true, false, false, false, false] (a1 trivial (a1 b0 (a1 trivial (a1 b1 (a1 trivial (a1 b2 (a1 (rfl : false = false) (a1 trivial (a1 b3 (a1 trivial (a1 b4 (a1 trivial (a1 b5 (a1 trivial (a1 (rfl : false = false) (a1 (rfl : false = false) (a1 (rfl : false = false) (a1 (rfl : false = false) trivial)))))))))))))))))) (by kernel_rfl)
            · try simp only [if_neg b5] at h ⊢
              replace b5 := Bool.eq_false_iff.2 b5
              exact AtV.ret Tryz.func35 tabOk ext35Ok mixed false [] tys35 [true, true, false, false, true, true, false, false, false, false, false] (a1 trivial (a1 b0 (a1 trivial (a1 b1 (a1 trivial (a1 b2 (a1 (rfl : false = false) (a1 trivial (a1 b3 (a1 trivial (a1 b4 (a1 trivial (a1 b5 (a1 (rfl : false = false) (a1 (rfl : false = false) (a1 (rfl : false = false) (a1 (rfl : false = false) trivial))))))))))))))))) (by kernel_rfl)
          · try simp only [if_neg b4] at h ⊢
            replace b4 := Bool.eq_false_iff.2 b4
            exact AtV.ret Tryz.func35 tabOk ext35Ok mixed false [] tys35 [true, true, false, false, true, false, false, false, false, false, false] (a1 trivial (a1 b0 (a1 trivial (a1 b1 (a1 trivial (a1 b2 (a1 (rfl : false = false) (a1 trivial (a1 b3 (a1 trivial (a1 b4 (a1 (rfl : false = false) (a1 (rfl : false = false) (a1 (rfl : false = false) (a1 (rfl : false = false) (a1 (rfl : false = false) trivial)))))))))))))))) (by kernel_rfl)
        · try simp only [if_neg b3] at h ⊢
          replace b3 := Bool.eq_false_iff.2 b3
          exact AtV.ret Tryz.func35 tabOk ext35Ok mixed false [] tys35 [true, true, false, false, false, false, false, false, false, false, false] (a1 trivial (a1 b0 (a1 trivial (a1 b1 (a1 trivial (a1 b2 (a1 (rfl : false = false) (a1 trivial (a1 b3 (a1 (rfl : false = false) (a1 (rfl : false = false) (a1 (rfl : false = false) (a1 (rfl : false = false) (a1 (rfl : false = false) (a1 (rfl : false = false) trivial))))))))))))))) (by kernel_rfl)
    · try simp only [if_neg b1] at h ⊢
      replace b1 := Bool.eq_false_iff.2 b1
      by_cases b2 : (g96_0 x0.2.2.2.2.2.1) = true
      · try simp only [if_pos b2] at h ⊢
        by_cases b3 : (g97_0 x0.2.2.2.2.2.2.1) = true
        · try simp only [if_pos b3] at h ⊢
          by_cases b4 : (g98_0 x0.2.2.2.2.2.2.2.1) = true
          · try simp only [if_pos b4] at h ⊢
            exact AtV.ret Tryz.func35 tabOk ext35Ok mixed false [] tys35 [true, false, false, false, true, true, true, false, false, false, false] (a1 trivial (a1 b0 (a1 trivial (a1 b1 (a1 (rfl : false = false) (a1 (rfl : false = false) (a1 trivial (a1 b2 (a1 trivial (a1 b3 (a1 trivial (a1 b4 (a1 trivial (a1 (rfl : false = false) (a1 (rfl : false = false) (a1 (rfl : false = false) (a1 (rfl : false = false) trivial))))))))))))))))) (by kernel_rfl)
          · try simp only [if_neg b4] at h ⊢
            replace b4 := Bool.eq_false_iff.2 b4
            exact AtV.ret Tryz.func35 tabOk ext35Ok mixed false [] tys35 [true, false, false, false, true, true, false, false, false, false, false] (a1 trivial (a1 b0 (a1 trivial (a1 b1 (a1 (rfl : false = false) (a1 (rfl : false = false) (a1 trivial (a1 b2 (a1 trivial (a1 b3 (a1 trivial (a1 b4 (a1 (rfl : false = false) (a1 (rfl : false = false) (a1 (rfl : false = false) (a1 (rfl : false = false) trivial)))))))))))))))) (by kernel_rfl)
        · try simp only [if_neg b3] at h ⊢
          replace b3 := Bool.eq_false_iff.2 b3
          exact AtV.ret Tryz.func35 tabOk ext35Ok mixed false [] tys35 [true, false, false, false, true, false, false, false, false, false, false] (a1 trivial (a1 b0 (a1 trivial (a1 b1 (a1 (rfl : false = false) (a1 (rfl : false = false) (a1 trivial (a1 b2 (a1 trivial (a1 b3 (a1 (rfl : false = false) (a1 (rfl : false = false) (a1 (rfl : false = false) (a1 (rfl : false = false) (a1 (rfl : false = false) trivial))))))))))))))) (by kernel_rfl)
      · try simp only [if_neg b2] at h ⊢
        replace b2 := Bool.eq_false_iff.2 b2
        exact AtV.ret Tryz.func35 tabOk ext35Ok mixed false [] tys35 [true, false, false, false, false, false, false, false, false, false, false] (a1 trivial (a1 b0 (a1 trivial (a1 b1 (a1 (rfl : false = false) (a1 (rfl : false = false) (a1 trivial (a1 b2 (a1 (rfl : false = false) (a1 (rfl : false = false) (a1 (rfl : false = false) (a1 (rfl : false = false) (a1 (rfl : false = false) (a1 (rfl : false = false) trivial)))))))))))))) (by kernel_rfl)
  · try simp only [if_neg b0] at h ⊢
    replace b0 := Bool.eq_false_iff.2 b0
    by_cases b1 : (g96_0 x0.2.2.2.2.2.1) = true
    · try simp only [if_pos b1] at h ⊢
      by_cases b2 : (g97_0 x0.2.2.2.2.2.2.1) = true
      · try simp only [if_pos b2] at h ⊢
        by_cases b3 : (g98_0 x0.2.2.2.2.2.2.2.1) = true
        · try simp only [if_pos b3] at h ⊢
          exact AtV.ret Tryz.func35 tabOk ext35Ok mixed false [] tys35 [false, false, false, false, true, true, true, false, false, false, false] (a1 trivial (a1 b0 (a1 (rfl : false = false) (a1 (rfl : false = false) (a1 (rfl : false = false) (a1 trivial (a1 b1 (a1 trivial (a1 b2 (a1 trivial (a1 b3 (a1 trivial (a1 (rfl : false = false) (a1 (rfl : false = false) (a1 (rfl : false = false) (a1 (rfl : false = false) trivial)))))))))))))))) (by kernel_rfl)
        · try simp only [if_neg b3] at h ⊢
          replace b3 := Bool.eq_false_iff.2 b3
          exact AtV.ret Tryz.func35 tabOk ext35Ok mixed false [] tys35 [false, false, false, false, true, true, false, false, false, false, false] (a1 trivial (a1 b0 (a1 (rfl : false = false) (a1 (rfl : false = false) (a1 (rfl : false = false) (a1 trivial (a1 b1 (a1 trivial (a1 b2 (a1 trivial (a1 b3 (a1 (rfl : false = false) (a1 (rfl : false = false) (a1 (rfl : false = false) (a1 (rfl : false = false) trivial))))))))))))))) (by kernel_rfl)
      · try simp only [if_neg b2] at h ⊢
        replace b2 := Bool.eq_false_iff.2 b2
        exact AtV.ret Tryz.func35 tabOk ext35Ok mixed false [] tys35 [false, false, false, false, true, false, false, false, false, false, false] (a1 trivial (a1 b0 (a1 (rfl : false = false) (a1 (rfl : false = false) (a1 (rfl : false = false) (a1 trivial (a1 b1 (a1 trivial (a1 b2 (a1 (rfl : false = false) (a1 (rfl : false = false) (a1 (rfl : false = false) (a1 (rfl : false = false) (a1 (rfl : false = false) trivial)))))))))))))) (by kernel_rfl)
    · try simp only [if_neg b1] at h ⊢
      replace b1 := Bool.eq_false_iff.2 b1
      exact AtV.ret Tryz.func35 tabOk ext35Ok mixed false [] tys35 [false, false, false, false, false, false, false, false, false, false, false] (a1 trivial (a1 b0 (a1 (rfl : false = false) (a1 (rfl : false = false) (a1 (rfl : false = false) (a1 trivial (a1 b1 (a1 (rfl : false = false) (a1 (rfl : false = false) (a1 (rfl : false = false) (a1 (rfl : false = false) (a1 (rfl : false = false) (a1 (rfl : false = false) trivial))))))))))))) (by kernel_rfl)
def S35 : Am.Spec := { sig := sig35, pre := fun ⟨x0, _⟩ => P35 x0, res := fun ⟨x0, _⟩ => [⟨Ty.bool, g35_0 x0⟩], kds := kds35 }
theorem con35 : Contract Tryz.prog 35 S35 := contract_of Tryz.func35 hb35 (Nat.le_of_ble_eq_true (by kernel_rfl)) (fun ⟨x0, _⟩ h _ K q => at35 x0 h K q)
end
noncomputable section
def ext36 : Ext := []
theorem ext36Ok : ExtOk Tryz.prog ext36 := trivial
noncomputable def b36 : Code := bodyOf Tryz.f36
theorem hb36 : Tryz.f36.body = some b36 := by kernel_rfl
def sig36 : List AT := [AT.v (Ty.sl YA3)]
def tys36 : List Ty := [Ty.int .i64]
def kds36 : List RK := []
def oks36 : List AT := owns sig36
def P36 (x0 : List TyB0) : Prop := True
def g36_0 (x0 : List TyB0) : Int := (↑(List.length x0) : Int)
theorem at36 (x0 : List TyB0) (h : P36 x0) (K : Ctx) (q : Nat → Value) : AtV Tryz.prog 36 (PostR kds36 oks36 [⟨Ty.int .i64, g36_0 x0⟩] [] [] q K) 5 K q [] [.code b36] (entE 0 0 sig36 (x0, ())) (entL sig36 (x0, ())) := by
  unfold P36 at h
  unfold g36_0
  exact AtV.ret Tryz.func36 tabOk ext36Ok mixed false [] tys36 [] trivial (by kernel_rfl)
def S36 : Am.Spec := { sig := sig36, pre := fun ⟨x0, _⟩ => P36 x0, res := fun ⟨x0, _⟩ => [⟨Ty.int .i64, g36_0 x0⟩], kds := kds36 }
theorem con36 : Contract Tryz.prog 36 S36 := contract_of Tryz.func36 hb36 (Nat.le_of_ble_eq_true (by kernel_rfl)) (fun ⟨x0, _⟩ h _ K q => at36 x0 h K q)
end
noncomputable section
def ext37 : Ext := []
theorem ext37Ok : ExtOk Tryz.prog ext37 := trivial
noncomputable def b37 : Code := bodyOf Tryz.f37
theorem hb37 : Tryz.f37.body = some b37 := by kernel_rfl
def sig37 : List AT := [AT.v (Ty.sl YA4)]
def tys37 : List Ty := [Ty.int .i64]
def kds37 : List RK := []
def oks37 : List AT := owns sig37
def P37 (x0 : List TyB2) : Prop := True
def g37_0 (x0 : List TyB2) : Int := (↑(List.length x0) : Int)
theorem at37 (x0 : List TyB2) (h : P37 x0) (K : Ctx) (q : Nat → Value) : AtV Tryz.prog 37 (PostR kds37 oks37 [⟨Ty.int .i64, g37_0 x0⟩] [] [] q K) 5 K q [] [.code b37] (entE 0 0 sig37 (x0, ())) (entL sig37 (x0, ())) := by
  unfold P37 at h
  unfold g37_0
  exact AtV.ret Tryz.func37 tabOk ext37Ok mixed false [] tys37 [] trivial (by kernel_rfl)
def S37 : Am.Spec := { sig := sig37, pre := fun ⟨x0, _⟩ => P37 x0, res := fun ⟨x0, _⟩ => [⟨Ty.int .i64, g37_0 x0⟩], kds := kds37 }
theorem con37 : Contract Tryz.prog 37 S37 := contract_of Tryz.func37 hb37 (Nat.le_of_ble_eq_true (by kernel_rfl)) (fun ⟨x0, _⟩ h _ K q => at37 x0 h K q)
end
noncomputable section
def ext38 : Ext := []
theorem ext38Ok : ExtOk Tryz.prog ext38 := trivial
noncomputable def b38 : Code := bodyOf Tryz.f38
theorem hb38 : Tryz.f38.body = some b38 := by kernel_rfl
def sig38 : List AT := [AT.v (Ty.sl YA4)]
def tys38 : List Ty := [Ty.int .i64]
def kds38 : List RK := []
def oks38 : List AT := owns sig38
def P38 (x0 : List TyB2) : Prop := True
def g38_0 (x0 : List TyB2) : Int := (↑(List.length x0) : Int)
theorem at38 (x0 : List TyB2) (h : P38 x0) (K : Ctx) (q : Nat → Value) : AtV Tryz.prog 38 (PostR kds38 oks38 [⟨Ty.int .i64, g38_0 x0⟩] [] [] q K) 5 K q [] [.code b38] (entE 0 0 sig38 (x0, ())) (entL sig38 (x0, ())) := by
  unfold P38 at h
  unfold g38_0
  exact AtV.ret Tryz.func38 tabOk ext38Ok mixed false [] tys38 [] trivial (by kernel_rfl)
def S38 : Am.Spec := { sig := sig38, pre := fun ⟨x0, _⟩ => P38 x0, res := fun ⟨x0, _⟩ => [⟨Ty.int .i64, g38_0 x0⟩], kds := kds38 }
theorem con38 : Contract Tryz.prog 38 S38 := contract_of Tryz.func38 hb38 (Nat.le_of_ble_eq_true (by kernel_rfl)) (fun ⟨x0, _⟩ h _ K q => at38 x0 h K q)
end
noncomputable section
def ext39 : Ext := []
theorem ext39Ok : ExtOk Tryz.prog ext39 := trivial
noncomputable def b39 : Code := bodyOf Tryz.f39
theorem hb39 : Tryz.f39.body = some b39 := by kernel_rfl
def sig39 : List AT := [AT.v (Ty.sl YA5)]
def tys39 : List Ty := [Ty.int .i64]
def kds39 : List RK := []
def oks39 : List AT := owns sig39
def P39 (x0 : List TyB1) : Prop := True
def g39_0 (x0 : List TyB1) : Int := (↑(List.length x0) : Int)
theorem at39 (x0 : List TyB1) (h : P39 x0) (K : Ctx) (q : Nat → Value) : AtV Tryz.prog 39 (PostR kds39 oks39 [⟨Ty.int .i64, g39_0 x0⟩] [] [] q K) 5 K q [] [.code b39] (entE 0 0 sig39 (x0, ())) (entL sig39 (x0, ())) := by
  unfold P39 at h
  unfold g39_0
  exact AtV.ret Tryz.func39 tabOk ext39Ok mixed false [] tys39 [] trivial (by kernel_rfl)
def S39 : Am.Spec := { sig := sig39, pre := fun ⟨x0, _⟩ => P39 x0, res := fun ⟨x0, _⟩ => [⟨Ty.int .i64, g39_0 x0⟩], kds := kds39 }
theorem con39 : Contract Tryz.prog 39 S39 := contract_of Tryz.func39 hb39 (Nat.le_of_ble_eq_true (by kernel_rfl)) (fun ⟨x0, _⟩ h _ K q => at39 x0 h K q)
end
noncomputable section
def ext40 : Ext := []
theorem ext40Ok : ExtOk Tryz.prog ext40 := trivial
noncomputable def b40 : Code := bodyOf Tryz.f40
theorem hb40 : Tryz.f40.body = some b40 := by kernel_rfl
def sig40 : List AT := [AT.v (Ty.sl YA3)]
def tys40 : List Ty := [Ty.int .i64]
def kds40 : List RK := []
def oks40 : List AT := owns sig40
def P40 (x0 : List TyB0) : Prop := True
def g40_0 (x0 : List TyB0) : Int := (↑(List.length x0) : Int)
theorem at40 (x0 : List TyB0) (h : P40 x0) (K : Ctx) (q : Nat → Value) : AtV Tryz.prog 40 (PostR kds40 oks40 [⟨Ty.int .i64, g40_0 x0⟩] [] [] q K) 5 K q [] [.code b40] (entE 0 0 sig40 (x0, ())) (entL sig40 (x0, ())) := by
  unfold P40 at h
  unfold g40_0
  exact AtV.ret Tryz.func40 tabOk ext40Ok mixed false [] tys40 [] trivial (by kernel_rfl)
def S40 : Am.Spec := { sig := sig40, pre := fun ⟨x0, _⟩ => P40 x0, res := fun ⟨x0, _⟩ => [⟨Ty.int .i64, g40_0 x0⟩], kds := kds40 }
theorem con40 : Contract Tryz.prog 40 S40 := contract_of Tryz.func40 hb40 (Nat.le_of_ble_eq_true (by kernel_rfl)) (fun ⟨x0, _⟩ h _ K q => at40 x0 h K q)
end
noncomputable section
def ext41 : Ext := []
theorem ext41Ok : ExtOk Tryz.prog ext41 := trivial
noncomputable def b41 : Code := bodyOf Tryz.f41
theorem hb41 : Tryz.f41.body = some b41 := by kernel_rfl
def sig41 : List AT := [AT.v (Ty.sl YA4)]
def tys41 : List Ty := [Ty.int .i64]
def kds41 : List RK := []
def oks41 : List AT := owns sig41
def P41 (x0 : List TyB2) : Prop := True
def g41_0 (x0 : List TyB2) : Int := (↑(List.length x0) : Int)
theorem at41 (x0 : List TyB2) (h : P41 x0) (K : Ctx) (q : Nat → Value) : AtV Tryz.prog 41 (PostR kds41 oks41 [⟨Ty.int .i64, g41_0 x0⟩] [] [] q K) 5 K q [] [.code b41] (entE 0 0 sig41 (x0, ())) (entL sig41 (x0, ())) := by
  unfold P41 at h
  unfold g41_0
  exact AtV.ret Tryz.func41 tabOk ext41Ok mixed false [] tys41 [] trivial (by kernel_rfl)
def S41 : Am.Spec := { sig := sig41, pre := fun ⟨x0, _⟩ => P41 x0, res := fun ⟨x0, _⟩ => [⟨Ty.int .i64, g41_0 x0⟩], kds := kds41 }
theorem con41 : Contract Tryz.prog 41 S41 := contract_of Tryz.func41 hb41 (Nat.le_of_ble_eq_true (by kernel_rfl)) (fun ⟨x0, _⟩ h _ K q => at41 x0 h K q)
end
noncomputable section
def ext42 : Ext := []
theorem ext42Ok : ExtOk Tryz.prog ext42 := trivial
noncomputable def b42 : Code := bodyOf Tryz.f42
theorem hb42 : Tryz.f42.body = some b42 := by kernel_rfl
def sig42 : List AT := [AT.v (Ty.sl YA5)]
def tys42 : List Ty := [Ty.int .i64]
def kds42 : List RK := []
def oks42 : List AT := owns sig42
def P42 (x0 : List TyB1) : Prop := True
def g42_0 (x0 : List TyB1) : Int := (↑(List.length x0) : Int)
theorem at42 (x0 : List TyB1) (h : P42 x0) (K : Ctx) (q : Nat → Value) : AtV Tryz.prog 42 (PostR kds42 oks42 [⟨Ty.int .i64, g42_0 x0⟩] [] [] q K) 5 K q [] [.code b42] (entE 0 0 sig42 (x0, ())) (entL sig42 (x0, ())) := by
  unfold P42 at h
  unfold g42_0
  exact AtV.ret Tryz.func42 tabOk ext42Ok mixed false [] tys42 [] trivial (by kernel_rfl)
def S42 : Am.Spec := { sig := sig42, pre := fun ⟨x0, _⟩ => P42 x0, res := fun ⟨x0, _⟩ => [⟨Ty.int .i64, g42_0 x0⟩], kds := kds42 }
theorem con42 : Contract Tryz.prog 42 S42 := contract_of Tryz.func42 hb42 (Nat.le_of_ble_eq_true (by kernel_rfl)) (fun ⟨x0, _⟩ h _ K q => at42 x0 h K q)
end
noncomputable section
def ext43 : Ext := []
theorem ext43Ok : ExtOk Tryz.prog ext43 := trivial
noncomputable def b43 : Code := bodyOf Tryz.f43
theorem hb43 : Tryz.f43.body = some b43 := by kernel_rfl
def sig43 : List AT := [AT.v (Ty.sl YA5)]
def tys43 : List Ty := [Ty.int .i64]
def kds43 : List RK := []
def oks43 : List AT := owns sig43
def P43 (x0 : List TyB1) : Prop := True
def g43_0 (x0 : List TyB1) : Int := (↑(List.length x0) : Int)
theorem at43 (x0 : List TyB1) (h : P43 x0) (K : Ctx) (q : Nat → Value) : AtV Tryz.prog 43 (PostR kds43 oks43 [⟨Ty.int .i64, g43_0 x0⟩] [] [] q K) 5 K q [] [.code b43] (entE 0 0 sig43 (x0, ())) (entL sig43 (x0, ())) := by
  unfold P43 at h
  unfold g43_0
  exact AtV.ret Tryz.func43 tabOk ext43Ok mixed false [] tys43 [] trivial (by kernel_rfl)
def S43 : Am.Spec := { sig := sig43, pre := fun ⟨x0, _⟩ => P43 x0, res := fun ⟨x0, _⟩ => [⟨Ty.int .i64, g43_0 x0⟩], kds := kds43 }
theorem con43 : Contract Tryz.prog 43 S43 := contract_of Tryz.func43 hb43 (Nat.le_of_ble_eq_true (by kernel_rfl)) (fun ⟨x0, _⟩ h _ K q => at43 x0 h K q)
end
end Go.Proofs.YtiddfgaccfnofaaGreatDoor
set_option linter.unusedVariables false
set_option maxRecDepth 100000
namespace Go.Proofs
open Go.Shelf
def Tryz.laysM173_ren : Go.Shelf.Ren := ⟨fun | 173 => 103 | 246 => 136 | 283 => 153 | 284 => 154 | 285 => 155 | 286 => 156 | 129 => 163 | 317 => 162 | 318 => 164 | 319 => 165 | 320 => 166 | 337 => 167 | 338 => 168 | n => n, fun | 2 => 2 | 3 => 3 | 9 => 9 | 4 => 4 | 171 => 216 | 0 => 0 | 53 => 217 | 37 => 160 | 5 => 5 | 173 => 220 | 212 => 225 | 51 => 226 | 20 => 20 | 213 => 227 | 46 => 229 | 232 => 232 | 233 => 233 | n => n, fun | 17 => 0 | 18 => 1 | 19 => 2 | n => n⟩
theorem Tryz.laysM173 : Go.Proofs.LaysM.n173 Tryz.prog Tryz.laysM173_ren := {
  mixed := by kernel_rfl
  f129 := Tryz.func163.trans (congrArg some (by kernel_rfl))
  f173 := Tryz.func103.trans (congrArg some (by kernel_rfl))
  f246 := Tryz.func136.trans (congrArg some (by kernel_rfl))
  f283 := Tryz.func153.trans (congrArg some (by kernel_rfl))
  f284 := Tryz.func154.trans (congrArg some (by kernel_rfl))
  f285 := Tryz.func155.trans (congrArg some (by kernel_rfl))
  f286 := Tryz.func156.trans (congrArg some (by kernel_rfl))
  f317 := Tryz.func162.trans (congrArg some (by kernel_rfl))
  f318 := Tryz.func164.trans (congrArg some (by kernel_rfl))
  f319 := Tryz.func165.trans (congrArg some (by kernel_rfl))
  f320 := Tryz.func166.trans (congrArg some (by kernel_rfl))
  f337 := Tryz.func167.trans (congrArg some (by kernel_rfl))
  f338 := Tryz.func168.trans (congrArg some (by kernel_rfl))
  t0 := Tryz.underlying0
  a0 := Tryz.isAgg0
  z0 := Tryz.sizeOf0
  v0 := Tryz.zeroValue0
  t2 := Tryz.underlying2
  a2 := Tryz.isAgg2
  z2 := Tryz.sizeOf2
  v2 := Tryz.zeroValue2
  t3 := Tryz.underlying3
  a3 := Tryz.isAgg3
  z3 := Tryz.sizeOf3
  v3 := Tryz.zeroValue3
  t4 := Tryz.underlying4
  a4 := Tryz.isAgg4
  z4 := Tryz.sizeOf4
  v4 := Tryz.zeroValue4
  t5 := Tryz.underlying5
  a5 := Tryz.isAgg5
  z5 := Tryz.sizeOf5
  v5 := Tryz.zeroValue5
  t9 := Tryz.underlying9
  a9 := Tryz.isAgg9
  z9 := Tryz.sizeOf9
  v9 := Tryz.zeroValue9
  t20 := Tryz.underlying20
  a20 := Tryz.isAgg20
  z20 := Tryz.sizeOf20
  v20 := Tryz.zeroValue20
  t37 := Tryz.underlying160
  a37 := Tryz.isAgg160
  z37 := Tryz.sizeOf160
  v37 := Tryz.zeroValue160
  t46 := Tryz.underlying229
  a46 := Tryz.isAgg229
  z46 := Tryz.sizeOf229
  v46 := Tryz.zeroValue229
  t51 := Tryz.underlying226
  a51 := Tryz.isAgg226
  z51 := Tryz.sizeOf226
  v51 := Tryz.zeroValue226
  t53 := Tryz.underlying217
  a53 := Tryz.isAgg217
  z53 := Tryz.sizeOf217
  v53 := Tryz.zeroValue217
  t171 := Tryz.underlying216
  a171 := Tryz.isAgg216
  z171 := Tryz.sizeOf216
  v171 := Tryz.zeroValue216
  t173 := Tryz.underlying220
  a173 := Tryz.isAgg220
  z173 := Tryz.sizeOf220
  v173 := Tryz.zeroValue220
  t212 := Tryz.underlying225
  a212 := Tryz.isAgg225
  z212 := Tryz.sizeOf225
  v212 := Tryz.zeroValue225
  t213 := Tryz.underlying227
  a213 := Tryz.isAgg227
  z213 := Tryz.sizeOf227
  t232 := Tryz.underlying232
  a232 := Tryz.isAgg232
  z232 := Tryz.sizeOf232
  v232 := Tryz.zeroValue232
  t233 := Tryz.underlying233
  a233 := Tryz.isAgg233
  z233 := Tryz.sizeOf233
  v233 := Tryz.zeroValue233
  g17 := by kernel_rfl
  g18 := by kernel_rfl
  g19 := by kernel_rfl
  i0 := by kernel_rfl
  i2 := by kernel_rfl
  i3 := by kernel_rfl
  i4 := by kernel_rfl
  i5 := by kernel_rfl
  i9 := by kernel_rfl
  i20 := by kernel_rfl
  i37 := by kernel_rfl
  i46 := by kernel_rfl
  i51 := by kernel_rfl
  i53 := by kernel_rfl
  i171 := by kernel_rfl
  i173 := by kernel_rfl
  i212 := by kernel_rfl
  i232 := by kernel_rfl
  i233 := by kernel_rfl
  m17 := by kernel_rfl
  m18 := by kernel_rfl
  m19 := by kernel_rfl }
open Go.RowKit Go.Sort Go.Lib in theorem Tryz.strconv_FormatInt_10 (n : Int) (h0 : -9223372036854775808 ≤ n) (h1 : n ≤ 9223372036854775807) (w : World) (htab : Lib.TabIs Tryz.prog w "internal/strconv.uint64pow10" .u64 Lib.pow10Tab) :
    Calls Tryz.prog 103 #[.int .i64 n, .int .i64 10] w fun e w' => e = .returned (.string ⟨(Lib.itoa n).toArray⟩) ∧ ∃ k os, w' = grow (w.drewN k) os := Any.strconv_FormatInt_10 Tryz.laysM173 n h0 h1 w htab
end Go.Proofs
set_option linter.unusedVariables false
set_option linter.unusedSimpArgs false
set_option maxRecDepth 100000
namespace Go.Proofs.YtiddfgaccfnofaaGreatDoor
open Go Go.Am Go.Proofs
def sig103 : List AT := [AT.v (Ty.int .i64), AT.v (Ty.int .i64)]
def g103_0 (x0 x1 : Int) : ByteArray := numB x0
def P103 (x0 x1 : Int) : Prop := x1 = 10
def S103 : Am.Spec := { sig := sig103, pre := fun ⟨x0, x1, _⟩ => P103 x0 x1, res := fun ⟨x0, x1, _⟩ => [⟨Ty.str, g103_0 x0 x1⟩] }
theorem con103 : Contract Tryz.prog 103 S103 := contract_flat rfl fun w ⟨x0, x1, _⟩ vs bss hg hp hw ha => by
  obtain ⟨v0, s0, _, _, rfl, _, ⟨_, rfl, hi⟩, v1, s1, _, _, rfl, _, ⟨_, rfl, _⟩, rfl, _⟩ := ha
  obtain rfl : x1 = 10 := hp
  have hi : InR .i64 x0 := hi
  rw [i64_iff] at hi
  refine ⟨fun d hd => ?_, ?_⟩
  · rw [List.mem_singleton.1 hd]
    refine ⟨rfl, ?_⟩
    show (numB x0).size ≤ maxLen
    have := numB_size x0 hi.1 hi.2
    unfold maxLen; omega
  · refine (Tryz.strconv_FormatInt_10 x0 hi.1 hi.2 w (pow10G hg)).mono ?_
    rintro e w' ⟨rfl, n, os, rfl⟩
    exact ⟨rfl, kept_grow _ _ _⟩
noncomputable section
def ext44 : Ext := [(103, S103)]
theorem ext44Ok : ExtOk Tryz.prog ext44 := ⟨⟨ca103, con103⟩, trivial⟩
noncomputable def b44 : Code := bodyOf Tryz.f44
theorem hb44 : Tryz.f44.body = some b44 := by kernel_rfl
def sig44 : List AT := [AT.v (Ty.int .i64)]
def tys44 : List Ty := [Ty.str]
def kds44 : List RK := []
def oks44 : List AT := owns sig44
def P44 (x0 : Int) : Prop := ((P103 x0 10) ∧ True)
def g44_0 (x0 : Int) : ByteArray := g103_0 x0 10
theorem at44 (x0 : Int) (h : P44 x0) (K : Ctx) (q : Nat → Value) : AtV Tryz.prog 44 (PostR kds44 oks44 [⟨Ty.str, g44_0 x0⟩] [] [] q K) 5 K q [] [.code b44] (entE 0 0 sig44 (x0, ())) (entL sig44 (x0, ())) := by
  unfold P44 at h
  unfold g44_0
  obtain ⟨s0, h⟩ := h
  exact AtV.ret Tryz.func44 tabOk ext44Ok mixed false [] tys44 [] (a1 s0 trivial) (by kernel_rfl)
def S44 : Am.Spec := { sig := sig44, pre := fun ⟨x0, _⟩ => P44 x0, res := fun ⟨x0, _⟩ => [⟨Ty.str, g44_0 x0⟩], kds := kds44 }
theorem con44 : Contract Tryz.prog 44 S44 := contract_of Tryz.func44 hb44 (Nat.le_of_ble_eq_true (by kernel_rfl)) (fun ⟨x0, _⟩ h _ K q => at44 x0 h K q)
end
noncomputable section
def ext7 : Ext := [(35, S35), (36, S36), (37, S37), (38, S38), (39, S39), (40, S40), (41, S41), (42, S42), (43, S43), (44, S44)]
theorem ext7Ok : ExtOk Tryz.prog ext7 := ⟨⟨ca35, con35⟩, ⟨ca36, con36⟩, ⟨ca37, con37⟩, ⟨ca38, con38⟩, ⟨ca39, con39⟩, ⟨ca40, con40⟩, ⟨ca41, con41⟩, ⟨ca42, con42⟩, ⟨ca43, con43⟩, ⟨ca44, con44⟩, trivial⟩
noncomputable def b7 : Code := bodyOf Tryz.f7
theorem hb7 : Tryz.f7.body = some b7 := by kernel_rfl
def sig7 : List AT := [AT.v YA0]
def tys7 : List Ty := [Ty.sl Ty.str, Ty.int .i64]
def kds7 : List RK := []
def oks7 : List AT := owns sig7
def E7_7 (v43 : Int) (h1 : List ByteArray) (x0 : TyA0) : Env := [(5, PV.a (Atom.osl 0 Option.none)), (6, PV.a (Atom.osl 1 Option.none)), (41, PV.a (Atom.osl 2 Option.none)), (42, PV.a (Atom.val (Value.int .i64 9))), (43, PV.a (Atom.val (Value.int .i64 v43)))]
def L7_7 (v43 : Int) (h1 : List ByteArray) (x0 : TyA0) : Heap := [Option.some (Arr.mk (Ty.int .i64) [g36_0 x0.1, g37_0 x0.2.2.1, g38_0 x0.2.2.2.1, g39_0 x0.2.2.2.2.2.2.1, x0.2.2.2.2.2.2.2.1.2.2.1, g40_0 x0.2.2.2.2.2.2.2.2.1, g41_0 x0.2.2.2.2.2.2.2.2.2.1, g42_0 x0.2.2.2.2.2.2.2.2.2.2.1, g43_0 x0.2.2.2.2.2.2.2.2.2.2.2.1] false Option.none Option.none), Option.some (Arr.mk Ty.str h1 false Option.none Option.none), Option.some (Arr.mk Ty.str [ByteArray.mk #[98, 101, 110, 100, 115], ByteArray.mk #[104, 111, 117, 114, 115], ByteArray.mk #[108, 105, 109, 105, 116, 115], ByteArray.mk #[119, 111, 114, 107, 101, 114, 115], ByteArray.mk #[108, 105, 116, 114, 101, 115], ByteArray.mk #[102, 97, 114, 101, 115], ByteArray.mk #[116, 101, 115, 116, 115], ByteArray.mk #[104, 101, 108, 112, 101, 114, 115], ByteArray.mk #[116, 97, 115, 107, 115]] false Option.none Option.none)]
mutual
def R7 : Nat → TyA0 → List Dyn → Prop
  | 0, _, _ => False
  | n + 1, x0, ds => (if (!g35_0 x0) = true then (ds = [Dyn.mk (Ty.sl Ty.str) [], Dyn.mk (Ty.int .i64) 1]) else (R7_7 n (0) ([]) (x0) ds))
def R7_7 : Nat → Int → List ByteArray → TyA0 → List Dyn → Prop
  | 0, _, _, _, _ => False
  | n + 1, v43, h1, x0, ds => (if (decide (v43 < 9)) = true then ((0 ≤ v43) ∧ (v43 < 9) ∧ ((ByteArray.size (List.getD [ByteArray.mk #[98, 101, 110, 100, 115], ByteArray.mk #[104, 111, 117, 114, 115], ByteArray.mk #[108, 105, 109, 105, 116, 115], ByteArray.mk #[119, 111, 114, 107, 101, 114, 115], ByteArray.mk #[108, 105, 116, 114, 101, 115], ByteArray.mk #[102, 97, 114, 101, 115], ByteArray.mk #[116, 101, 115, 116, 115], ByteArray.mk #[104, 101, 108, 112, 101, 114, 115], ByteArray.mk #[116, 97, 115, 107, 115]] (Int.toNat v43) ByteArray.empty) + 1 ≤ 9223372036854775807) ∧ ((0 ≤ v43) ∧ (v43 < (↑9 : Int)) ∧ ((P44 (List.getD [g36_0 x0.1, g37_0 x0.2.2.1, g38_0 x0.2.2.2.1, g39_0 x0.2.2.2.2.2.2.1, x0.2.2.2.2.2.2.2.1.2.2.1, g40_0 x0.2.2.2.2.2.2.2.2.1, g41_0 x0.2.2.2.2.2.2.2.2.2.1, g42_0 x0.2.2.2.2.2.2.2.2.2.2.1, g43_0 x0.2.2.2.2.2.2.2.2.2.2.2.1] (Int.toNat v43) 0)) ∧ ((ByteArray.size (List.getD [ByteArray.mk #[98, 101, 110, 100, 115], ByteArray.mk #[104, 111, 117, 114, 115], ByteArray.mk #[108, 105, 109, 105, 116, 115], ByteArray.mk #[119, 111, 114, 107, 101, 114, 115], ByteArray.mk #[108, 105, 116, 114, 101, 115], ByteArray.mk #[102, 97, 114, 101, 115], ByteArray.mk #[116, 101, 115, 116, 115], ByteArray.mk #[104, 101, 108, 112, 101, 114, 115], ByteArray.mk #[116, 97, 115, 107, 115]] (Int.toNat v43) ByteArray.empty ++ ByteArray.mk #[32]) + ByteArray.size (g44_0 (List.getD [g36_0 x0.1, g37_0 x0.2.2.1, g38_0 x0.2.2.2.1, g39_0 x0.2.2.2.2.2.2.1, x0.2.2.2.2.2.2.2.1.2.2.1, g40_0 x0.2.2.2.2.2.2.2.2.1, g41_0 x0.2.2.2.2.2.2.2.2.2.1, g42_0 x0.2.2.2.2.2.2.2.2.2.2.1, g43_0 x0.2.2.2.2.2.2.2.2.2.2.2.1] (Int.toNat v43) 0)) ≤ 9223372036854775807) ∧ (((List.length h1 + 1) * 16 ≤ 140737488355328) ∧ ((InR .i64 (v43 + 1)) ∧ (R7_7 n (v43 + 1) (h1 ++ [List.getD [ByteArray.mk #[98, 101, 110, 100, 115], ByteArray.mk #[104, 111, 117, 114, 115], ByteArray.mk #[108, 105, 109, 105, 116, 115], ByteArray.mk #[119, 111, 114, 107, 101, 114, 115], ByteArray.mk #[108, 105, 116, 114, 101, 115], ByteArray.mk #[102, 97, 114, 101, 115], ByteArray.mk #[116, 101, 115, 116, 115], ByteArray.mk #[104, 101, 108, 112, 101, 114, 115], ByteArray.mk #[116, 97, 115, 107, 115]] (Int.toNat v43) ByteArray.empty ++ ByteArray.mk #[32] ++ g44_0 (List.getD [g36_0 x0.1, g37_0 x0.2.2.1, g38_0 x0.2.2.2.1, g39_0 x0.2.2.2.2.2.2.1, x0.2.2.2.2.2.2.2.1.2.2.1, g40_0 x0.2.2.2.2.2.2.2.2.1, g41_0 x0.2.2.2.2.2.2.2.2.2.1, g42_0 x0.2.2.2.2.2.2.2.2.2.2.1, g43_0 x0.2.2.2.2.2.2.2.2.2.2.2.1] (Int.toNat v43) 0)]) (x0) ds)))))))) else (ds = [Dyn.mk (Ty.sl Ty.str) h1, Dyn.mk (Ty.int .i64) 0]))
end
theorem snd7 : ∀ n, (∀ (x0 : TyA0) ds, R7 n x0 ds → ∀ K q, AtV Tryz.prog 7 (PostR kds7 oks7 ds [] [] q K) 61 K q [] [.code b7] (entE 0 0 sig7 (x0, ())) (entL sig7 (x0, ()))) ∧ (∀ (v43 : Int) (h1 : List ByteArray) (x0 : TyA0) ds, R7_7 n v43 h1 x0 ds → ∀ K q, AtV Tryz.prog 7 (PostR kds7 oks7 ds [] [] q K) 61 K q [] (cutAt b7 7) (E7_7 v43 h1 x0) (L7_7 v43 h1 x0)) := by
  intro n
  induction n with
  | zero => exact ⟨fun _ _ h => by simp only [R7] at h, fun _ _ _ _ h => by simp only [R7_7] at h⟩
  | succ n ih =>
  obtain ⟨ih, ih7⟩ := ih
  refine ⟨?_, ?_⟩
  · intro x0 ds h K q
    rw [R7] at h
    by_cases b0 : (!g35_0 x0) = true
    · rw [if_pos b0] at h
      subst h
      exact AtV.ret Tryz.func7 tabOk ext7Ok mixed false [] tys7 [true] (a1 trivial (a1 b0 trivial)) (by kernel_rfl)
    · rw [if_neg b0] at h
      replace b0 := Bool.eq_false_iff.2 b0
      exact AtV.go tabOk ext7Ok mixed false [] [(6, Ty.str)] [5, 6, 41, 42, 43] [2, 3, 1] [false] (a1 trivial (a1 b0 (a1 trivial (a1 trivial (a1 trivial (a1 trivial (a1 trivial (a1 trivial (a1 trivial (a1 trivial trivial)))))))))) (ih7 _ _ _ _ h K q) (by kernel_rfl)
  · intro v43 h1 x0 ds h K q
    rw [R7_7] at h
    by_cases b0 : (decide (v43 < 9)) = true
    · rw [if_pos b0] at h
      obtain ⟨s0, s1, h⟩ := h
      obtain ⟨s2, h⟩ := h
      obtain ⟨s3, s4, h⟩ := h
      obtain ⟨s5, h⟩ := h
      obtain ⟨s6, h⟩ := h
      obtain ⟨s7, h⟩ := h
      obtain ⟨s8, h⟩ := h
      exact AtV.go tabOk ext7Ok mixed false [] [(6, Ty.str)] [5, 6, 41, 42, 43] [0, 1, 2] [true] (a1 b0 (a1 s0 (a1 s1 (a1 s2 (a1 s3 (a1 s4 (a1 s5 (a1 s6 (a1 s7 (a1 s8 trivial)))))))))) (ih7 _ _ _ _ h K q) (by kernel_rfl)
    · rw [if_neg b0] at h
      replace b0 := Bool.eq_false_iff.2 b0
      subst h
      exact AtV.ret Tryz.func7 tabOk ext7Ok mixed false [] tys7 [false] (a1 b0 trivial) (by kernel_rfl)
def W7 : List ByteArray := [ByteArray.mk #[98, 101, 110, 100, 115], ByteArray.mk #[104, 111, 117, 114, 115], ByteArray.mk #[108, 105, 109, 105, 116, 115], ByteArray.mk #[119, 111, 114, 107, 101, 114, 115], ByteArray.mk #[108, 105, 116, 114, 101, 115], ByteArray.mk #[102, 97, 114, 101, 115], ByteArray.mk #[116, 101, 115, 116, 115], ByteArray.mk #[104, 101, 108, 112, 101, 114, 115], ByteArray.mk #[116, 97, 115, 107, 115]]
def N7 (x0 : (TyA0)) : List Int := [((x0.1.length : Nat) : Int), ((x0.2.2.1.length : Nat) : Int), ((x0.2.2.2.1.length : Nat) : Int), ((x0.2.2.2.2.2.2.1.length : Nat) : Int), x0.2.2.2.2.2.2.2.1.2.2.1, ((x0.2.2.2.2.2.2.2.2.1.length : Nat) : Int), ((x0.2.2.2.2.2.2.2.2.2.1.length : Nat) : Int), ((x0.2.2.2.2.2.2.2.2.2.2.1.length : Nat) : Int), ((x0.2.2.2.2.2.2.2.2.2.2.2.1.length : Nat) : Int)]
def ln7 (w : ByteArray) (n : Int) : ByteArray := w ++ ByteArray.mk #[32] ++ g44_0 n
def g7_0 (x0 : (TyA0)) : List ByteArray := if g35_0 x0 = true then List.zipWith ln7 W7 (N7 x0) else []
def g7_1 (x0 : (TyA0)) : Int := if g35_0 x0 = true then 0 else 1
def P7 (x0 : (TyA0)) : Prop := True
theorem nn7 (x0 : (TyA0)) (hw : Wf (.cons (.sl (.cons .str (.cons (.int .i64) (.cons (.int .i64) (.cons (.int .i64) .unit))))) (.cons (.cons (.int .i64) (.cons (.int .i64) (.cons (.int .i64) (.cons (.int .i64) .unit)))) (.cons (.sl (.cons (.int .i64) (.cons (.int .i64) (.cons (.int .i64) .unit)))) (.cons (.sl (.cons (.int .i64) (.cons (.int .i64) (.cons (.int .i64) .unit)))) (.cons (.cons (.int .i64) (.cons (.int .i64) (.cons (.int .i64) .unit))) (.cons (.cons (.int .i64) (.cons (.int .i64) (.cons (.int .i64) .unit))) (.cons (.sl (.cons .str (.cons (.int .i64) (.cons (.int .i64) .unit)))) (.cons (.cons (.int .i64) (.cons (.int .i64) (.cons (.int .i64) (.cons (.int .i64) .unit)))) (.cons (.sl (.cons .str (.cons (.int .i64) (.cons (.int .i64) (.cons (.int .i64) .unit))))) (.cons (.sl (.cons (.int .i64) (.cons (.int .i64) (.cons (.int .i64) .unit)))) (.cons (.sl (.cons .str (.cons (.int .i64) (.cons (.int .i64) .unit)))) (.cons (.sl (.cons .str (.cons (.int .i64) (.cons (.int .i64) .unit)))) .unit)))))))))))) x0) : ∀ n ∈ N7 x0, -9223372036854775808 ≤ n ∧ n ≤ 9223372036854775807 := by
  have hmx : maxLen ≤ 9223372036854775807 := by decide
  have a0 : x0.1.length ≤ maxLen := hw.1.1
  have a2 : x0.2.2.1.length ≤ maxLen := hw.2.2.1.1
  have a3 : x0.2.2.2.1.length ≤ maxLen := hw.2.2.2.1.1
  have a6 : x0.2.2.2.2.2.2.1.length ≤ maxLen := hw.2.2.2.2.2.2.1.1
  have a8 : x0.2.2.2.2.2.2.2.2.1.length ≤ maxLen := hw.2.2.2.2.2.2.2.2.1.1
  have a9 : x0.2.2.2.2.2.2.2.2.2.1.length ≤ maxLen := hw.2.2.2.2.2.2.2.2.2.1.1
  have aa : x0.2.2.2.2.2.2.2.2.2.2.1.length ≤ maxLen := hw.2.2.2.2.2.2.2.2.2.2.1.1
  have ab : x0.2.2.2.2.2.2.2.2.2.2.2.1.length ≤ maxLen := hw.2.2.2.2.2.2.2.2.2.2.2.1.1
  have a7 : InR .i64 x0.2.2.2.2.2.2.2.1.2.2.1 := hw.2.2.2.2.2.2.2.1.2.2.1
  rw [i64_iff] at a7
  intro n hn
  unfold N7 at hn
  simp only [List.mem_cons, List.mem_nil_iff, or_false] at hn
  rcases hn with rfl | rfl | rfl | rfl | rfl | rfl | rfl | rfl | rfl <;> omega
theorem ws7 : ∀ w ∈ W7, w.size ≤ 7 := by
  intro w hw
  unfold W7 at hw
  simp only [List.mem_cons, List.mem_nil_iff, or_false] at hw
  rcases hw with rfl | rfl | rfl | rfl | rfl | rfl | rfl | rfl | rfl <;> decide
theorem run7 (x0 : (TyA0)) (hn : ∀ n ∈ N7 x0, -9223372036854775808 ≤ n ∧ n ≤ 9223372036854775807) : ∀ (k i : Nat) (h : List ByteArray), i + k = 9 → h.length = i →
    R7_7 (k + 1) (i : Int) h x0 [⟨.sl .str, h ++ List.zipWith ln7 (W7.drop i) ((N7 x0).drop i)⟩, ⟨.int .i64, 0⟩] := by
  intro k
  induction k with
  | zero =>
    intro i h hi hl
    obtain rfl : i = 9 := by omega
    rw [R7_7, if_neg (by decide)]
    have e : List.zipWith ln7 (W7.drop 9) ((N7 x0).drop 9) = [] := rfl
    rw [e, List.append_nil]
  | succ k ih =>
    intro i h hi hl
    have lW : W7.length = 9 := rfl
    have lN : (N7 x0).length = 9 := rfl
    have mw := ws7 _ (mem_getD W7 i ByteArray.empty (by omega))
    have mn := hn _ (mem_getD (N7 x0) i 0 (by omega))
    have hz := numB_size _ mn.1 mn.2
    have hnext := ih (i + 1) (h ++ [ln7 (W7.getD i ByteArray.empty) ((N7 x0).getD i 0)]) (by omega) (by rw [List.length_append, hl]; rfl)
    have e1 : (((i + 1 : Nat)) : Int) = (i : Int) + 1 := by omega
    rw [e1] at hnext
    rw [drop_get W7 i ByteArray.empty (by omega), drop_get (N7 x0) i 0 (by omega), List.zipWith_cons_cons]
    rw [List.append_assoc] at hnext
    rw [R7_7, if_pos (by simp only [decide_eq_true_eq]; omega)]
    have s1 : (ByteArray.mk #[32]).size = 1 := rfl
    have hws : (W7.getD i ByteArray.empty).size + 1 ≤ 9223372036854775807 := by omega
    have hsum : (W7.getD i ByteArray.empty ++ ByteArray.mk #[32]).size + (numB ((N7 x0).getD i 0)).size ≤ 9223372036854775807 := by
      rw [ByteArray.size_append, s1]; omega
    simp only [Int.toNat_natCast]
    exact ⟨by omega, by omega, hws, by omega, by omega, ⟨rfl, trivial⟩, hsum, by omega, by rw [i64_iff]; omega, hnext⟩
theorem top7 (x0 : (TyA0)) (hw : Wf (.cons (.sl (.cons .str (.cons (.int .i64) (.cons (.int .i64) (.cons (.int .i64) .unit))))) (.cons (.cons (.int .i64) (.cons (.int .i64) (.cons (.int .i64) (.cons (.int .i64) .unit)))) (.cons (.sl (.cons (.int .i64) (.cons (.int .i64) (.cons (.int .i64) .unit)))) (.cons (.sl (.cons (.int .i64) (.cons (.int .i64) (.cons (.int .i64) .unit)))) (.cons (.cons (.int .i64) (.cons (.int .i64) (.cons (.int .i64) .unit))) (.cons (.cons (.int .i64) (.cons (.int .i64) (.cons (.int .i64) .unit))) (.cons (.sl (.cons .str (.cons (.int .i64) (.cons (.int .i64) .unit)))) (.cons (.cons (.int .i64) (.cons (.int .i64) (.cons (.int .i64) (.cons (.int .i64) .unit)))) (.cons (.sl (.cons .str (.cons (.int .i64) (.cons (.int .i64) (.cons (.int .i64) .unit))))) (.cons (.sl (.cons (.int .i64) (.cons (.int .i64) (.cons (.int .i64) .unit)))) (.cons (.sl (.cons .str (.cons (.int .i64) (.cons (.int .i64) .unit)))) (.cons (.sl (.cons .str (.cons (.int .i64) (.cons (.int .i64) .unit)))) .unit)))))))))))) x0) : ∃ n, R7 n x0 [⟨.sl .str, g7_0 x0⟩, ⟨.int .i64, g7_1 x0⟩] := by
  unfold g7_0 g7_1
  cases hv : g35_0 x0 with
  | false =>
    refine ⟨1, ?_⟩
    rw [R7, if_pos (by rw [hv]; rfl)]
    rfl
  | true =>
    refine ⟨9 + 1 + 1, ?_⟩
    rw [R7, if_neg (by rw [hv]; simp)]
    exact run7 x0 (nn7 x0 hw) 9 0 [] (by omega) rfl
def S7 : Am.Spec := { sig := sig7, pre := fun ⟨x0, _⟩ => P7 x0, res := fun ⟨x0, _⟩ => [⟨.sl .str, g7_0 x0⟩, ⟨.int .i64, g7_1 x0⟩] }
theorem con7 : Contract Tryz.prog 7 S7 := contract_of Tryz.func7 hb7 (Nat.le_of_ble_eq_true (by kernel_rfl)) (fun ⟨x0, _⟩ h hwf K q =>
  let ⟨n, hn⟩ := top7 x0 hwf.1
  (snd7 n).1 x0 _ hn K q)
end
noncomputable section
def ext157 : Ext := []
theorem ext157Ok : ExtOk Tryz.prog ext157 := trivial
noncomputable def b157 : Code := bodyOf Tryz.f157
theorem hb157 : Tryz.f157.body = some b157 := by kernel_rfl
def sig157 : List AT := [AT.v (Ty.int .u8)]
def tys157 : List Ty := [Ty.bool]
def kds157 : List RK := []
def oks157 : List AT := owns sig157
def P157 (x0 : Int) : Prop := True
def g157_0 (x0 : Int) : Bool := (if (decide (x0 ≥ 97)) = true then decide (x0 ≤ 122) else false)
theorem at157 (x0 : Int) (h : P157 x0) (K : Ctx) (q : Nat → Value) : AtV Tryz.prog 157 (PostR kds157 oks157 [⟨Ty.bool, g157_0 x0⟩] [] [] q K) 9 K q [] [.code b157] (entE 0 0 sig157 (x0, ())) (entL sig157 (x0, ())) := by
  unfold P157 at h
  unfold g157_0
  by_cases b0 : (decide (x0 ≥ 97)) = true
  · try simp only [if_pos b0] at h ⊢
    exact AtV.ret Tryz.func157 tabOk ext157Ok mixed false [] tys157 [true] (a1 b0 trivial) (by kernel_rfl)
  · try simp only [if_neg b0] at h ⊢
    replace b0 := Bool.eq_false_iff.2 b0
    exact AtV.ret Tryz.func157 tabOk ext157Ok mixed false [] tys157 [false] (a1 b0 trivial) (by kernel_rfl)
def S157 : Am.Spec := { sig := sig157, pre := fun ⟨x0, _⟩ => P157 x0, res := fun ⟨x0, _⟩ => [⟨Ty.bool, g157_0 x0⟩], kds := kds157 }
theorem con157 : Contract Tryz.prog 157 S157 := contract_of Tryz.func157 hb157 (Nat.le_of_ble_eq_true (by kernel_rfl)) (fun ⟨x0, _⟩ h _ K q => at157 x0 h K q)
end
noncomputable section
def ext158 : Ext := []
theorem ext158Ok : ExtOk Tryz.prog ext158 := trivial
noncomputable def b158 : Code := bodyOf Tryz.f158
theorem hb158 : Tryz.f158.body = some b158 := by kernel_rfl
def sig158 : List AT := [AT.v (Ty.int .u8)]
def tys158 : List Ty := [Ty.bool]
def kds158 : List RK := []
def oks158 : List AT := owns sig158
def P158 (x0 : Int) : Prop := True
def g158_0 (x0 : Int) : Bool := (if (decide (x0 ≥ 48)) = true then decide (x0 ≤ 57) else false)
theorem at158 (x0 : Int) (h : P158 x0) (K : Ctx) (q : Nat → Value) : AtV Tryz.prog 158 (PostR kds158 oks158 [⟨Ty.bool, g158_0 x0⟩] [] [] q K) 9 K q [] [.code b158] (entE 0 0 sig158 (x0, ())) (entL sig158 (x0, ())) := by
  unfold P158 at h
  unfold g158_0
  by_cases b0 : (decide (x0 ≥ 48)) = true
  · try simp only [if_pos b0] at h ⊢
    exact AtV.ret Tryz.func158 tabOk ext158Ok mixed false [] tys158 [true] (a1 b0 trivial) (by kernel_rfl)
  · try simp only [if_neg b0] at h ⊢
    replace b0 := Bool.eq_false_iff.2 b0
    exact AtV.ret Tryz.func158 tabOk ext158Ok mixed false [] tys158 [false] (a1 b0 trivial) (by kernel_rfl)
def S158 : Am.Spec := { sig := sig158, pre := fun ⟨x0, _⟩ => P158 x0, res := fun ⟨x0, _⟩ => [⟨Ty.bool, g158_0 x0⟩], kds := kds158 }
theorem con158 : Contract Tryz.prog 158 S158 := contract_of Tryz.func158 hb158 (Nat.le_of_ble_eq_true (by kernel_rfl)) (fun ⟨x0, _⟩ h _ K q => at158 x0 h K q)
end
noncomputable section
def ext137 : Ext := [(157, S157), (158, S158)]
theorem ext137Ok : ExtOk Tryz.prog ext137 := ⟨⟨ca157, con157⟩, ⟨ca158, con158⟩, trivial⟩
noncomputable def b137 : Code := bodyOf Tryz.f137
theorem hb137 : Tryz.f137.body = some b137 := by kernel_rfl
def sig137 : List AT := [AT.v (Ty.str)]
def tys137 : List Ty := [Ty.bool]
def kds137 : List RK := []
def oks137 : List AT := owns sig137
def E137_4 (v3 : Int) (x0 : ByteArray) : Env := [(0, PV.a (Atom.val (Value.string x0))), (3, PV.a (Atom.val (Value.int .i64 v3)))]
def L137_4 (v3 : Int) (x0 : ByteArray) : Heap := []
mutual
def R137 : Nat → ByteArray → List Dyn → Prop
  | 0, _, _ => False
  | n + 1, x0, ds => (if (ByteArray.toList x0 == ByteArray.toList (ByteArray.mk #[])) = true then (ds = [Dyn.mk Ty.bool false]) else (if (decide ((↑(ByteArray.size x0) : Int) > 10)) = true then (ds = [Dyn.mk Ty.bool false]) else ((0 < (↑(ByteArray.size x0) : Int)) ∧ (if (!g157_0 (↑(UInt8.toNat (List.getD (Array.toList (ByteArray.data x0)) 0 0)) : Int)) = true then (ds = [Dyn.mk Ty.bool false]) else (R137_4 n (0) (x0) ds)))))
def R137_4 : Nat → Int → ByteArray → List Dyn → Prop
  | 0, _, _, _ => False
  | n + 1, v3, x0, ds => (if (decide (v3 < (↑(ByteArray.size x0) : Int))) = true then ((0 ≤ v3) ∧ (v3 < (↑(ByteArray.size x0) : Int)) ∧ (if (!g157_0 (↑(UInt8.toNat (List.getD (Array.toList (ByteArray.data x0)) (Int.toNat v3) 0)) : Int)) = true then ((0 ≤ v3) ∧ (v3 < (↑(ByteArray.size x0) : Int)) ∧ (if (!g158_0 (↑(UInt8.toNat (List.getD (Array.toList (ByteArray.data x0)) (Int.toNat v3) 0)) : Int)) = true then (ds = [Dyn.mk Ty.bool false]) else ((InR .i64 (v3 + 1)) ∧ (R137_4 n (v3 + 1) (x0) ds)))) else ((InR .i64 (v3 + 1)) ∧ (R137_4 n (v3 + 1) (x0) ds)))) else (ds = [Dyn.mk Ty.bool true]))
end
theorem snd137 : ∀ n, (∀ (x0 : ByteArray) ds, R137 n x0 ds → ∀ K q, AtV Tryz.prog 137 (PostR kds137 oks137 ds [] [] q K) 35 K q [] [.code b137] (entE 0 0 sig137 (x0, ())) (entL sig137 (x0, ()))) ∧ (∀ (v3 : Int) (x0 : ByteArray) ds, R137_4 n v3 x0 ds → ∀ K q, AtV Tryz.prog 137 (PostR kds137 oks137 ds [] [] q K) 35 K q [] (cutAt b137 4) (E137_4 v3 x0) (L137_4 v3 x0)) := by
  intro n
  induction n with
  | zero => exact ⟨fun _ _ h => by simp only [R137] at h, fun _ _ _ h => by simp only [R137_4] at h⟩
  | succ n ih =>
  obtain ⟨ih, ih4⟩ := ih
  refine ⟨?_, ?_⟩
  · intro x0 ds h K q
    rw [R137] at h
    by_cases b0 : (ByteArray.toList x0 == ByteArray.toList (ByteArray.mk #[])) = true
    · rw [if_pos b0] at h
      subst h
      exact AtV.ret Tryz.func137 tabOk ext137Ok mixed false [] tys137 [true, true, true] (a1 b0 (a1 (rfl : true = true) (a1 (rfl : true = true) trivial))) (by kernel_rfl)
    · rw [if_neg b0] at h
      replace b0 := Bool.eq_false_iff.2 b0
      by_cases b1 : (decide ((↑(ByteArray.size x0) : Int) > 10)) = true
      · rw [if_pos b1] at h
        subst h
        exact AtV.ret Tryz.func137 tabOk ext137Ok mixed false [] tys137 [false, true, true] (a1 b0 (a1 b1 (a1 (rfl : true = true) trivial))) (by kernel_rfl)
      · rw [if_neg b1] at h
        replace b1 := Bool.eq_false_iff.2 b1
        obtain ⟨s0, h⟩ := h
        by_cases b2 : (!g157_0 (↑(UInt8.toNat (List.getD (Array.toList (ByteArray.data x0)) 0 0)) : Int)) = true
        · rw [if_pos b2] at h
          subst h
          exact AtV.ret Tryz.func137 tabOk ext137Ok mixed false [] tys137 [false, false, true] (a1 b0 (a1 b1 (a1 ((by decide) : (0 : Int) ≤ (0 : Int)) (a1 s0 (a1 trivial (a1 b2 trivial)))))) (by kernel_rfl)
        · rw [if_neg b2] at h
          replace b2 := Bool.eq_false_iff.2 b2
          exact AtV.go tabOk ext137Ok mixed false [] [] [0, 3] [] [false, false, false] (a1 b0 (a1 b1 (a1 ((by decide) : (0 : Int) ≤ (0 : Int)) (a1 s0 (a1 trivial (a1 b2 trivial)))))) (ih4 _ _ _ h K q) (by kernel_rfl)
  · intro v3 x0 ds h K q
    rw [R137_4] at h
    by_cases b0 : (decide (v3 < (↑(ByteArray.size x0) : Int))) = true
    · rw [if_pos b0] at h
      obtain ⟨s0, s1, h⟩ := h
      by_cases b1 : (!g157_0 (↑(UInt8.toNat (List.getD (Array.toList (ByteArray.data x0)) (Int.toNat v3) 0)) : Int)) = true
      · rw [if_pos b1] at h
        obtain ⟨s2, s3, h⟩ := h
        by_cases b2 : (!g158_0 (↑(UInt8.toNat (List.getD (Array.toList (ByteArray.data x0)) (Int.toNat v3) 0)) : Int)) = true
        · rw [if_pos b2] at h
          subst h
          exact AtV.ret Tryz.func137 tabOk ext137Ok mixed false [] tys137 [true, true, true] (a1 b0 (a1 s0 (a1 s1 (a1 trivial (a1 b1 (a1 s2 (a1 s3 (a1 trivial (a1 b2 trivial))))))))) (by kernel_rfl)
        · rw [if_neg b2] at h
          replace b2 := Bool.eq_false_iff.2 b2
          obtain ⟨s4, h⟩ := h
          exact AtV.go tabOk ext137Ok mixed false [] [] [0, 3] [] [true, true, false] (a1 b0 (a1 s0 (a1 s1 (a1 trivial (a1 b1 (a1 s2 (a1 s3 (a1 trivial (a1 b2 (a1 s4 trivial)))))))))) (ih4 _ _ _ h K q) (by kernel_rfl)
      · rw [if_neg b1] at h
        replace b1 := Bool.eq_false_iff.2 b1
        obtain ⟨s2, h⟩ := h
        exact AtV.go tabOk ext137Ok mixed false [] [] [0, 3] [] [true, false, false] (a1 b0 (a1 s0 (a1 s1 (a1 trivial (a1 b1 (a1 (rfl : false = false) (a1 s2 trivial))))))) (ih4 _ _ _ h K q) (by kernel_rfl)
    · rw [if_neg b0] at h
      replace b0 := Bool.eq_false_iff.2 b0
      subst h
      exact AtV.ret Tryz.func137 tabOk ext137Ok mixed false [] tys137 [false] (a1 b0 trivial) (by kernel_rfl)
def g137_0 (x0 : ByteArray) : Bool := decide (1 ≤ x0.size) && decide (x0.size ≤ 10) && g157_0 ((bytesOf x0).getD 0 0) && (bytesOf x0).all fun b => g157_0 b || g158_0 b
def P137 (x0 : ByteArray) : Prop := True
theorem top137 (x0 : ByteArray) (hw : Wf .str x0) : R137 (x0.size + 1 + 1) x0 [⟨.bool, g137_0 x0⟩] := by
  have hl := bytesOf_length x0
  rw [R137]
  by_cases h0 : x0 = ByteArray.mk #[]
  · rw [if_pos ((bytes_eq _ _).2 h0)]
    subst h0
    rfl
  · rw [if_neg (fun h => h0 ((bytes_eq _ _).1 h))]
    have hs : 1 ≤ x0.size := by
      rcases Nat.lt_or_ge 0 x0.size with h | h
      · exact h
      · exact absurd (bytesOf_inj (s := x0) (t := ByteArray.mk #[]) (List.eq_nil_of_length_eq_zero (by rw [hl]; omega))) h0
    by_cases h1 : (x0.size : Int) > 10
    · rw [if_pos (by simpa using h1)]
      have : ¬ x0.size ≤ 10 := by omega
      simp [g137_0, this]
    · rw [if_neg (by simpa using h1)]
      refine ⟨by omega, ?_⟩
      rw [byte_get]
      cases h2 : g157_0 ((bytesOf x0).getD 0 0) with
      | false =>
        rw [if_pos (by simp)]
        simp [g137_0, h2, -List.getD_eq_getElem?_getD]
      | true =>
        rw [if_neg (by simp)]
        have key := loop_test (bytesOf x0) 0 (fun b => g157_0 b || g158_0 b) [(⟨.bool, false⟩ : Dyn)] [⟨.bool, true⟩] (fun n i ds => R137_4 n i x0 ds) (fun n => ?_) (fun n i hi hok ds hr => ?_) (fun n i hi hok => ?_)
        · rw [hl] at key
          have e : g137_0 x0 = (bytesOf x0).all fun b => g157_0 b || g158_0 b := by
            have : x0.size ≤ 10 := by omega
            unfold g137_0
            simp only [hs, this, decide_true, Bool.true_and, h2]
          rw [e]
          cases h : (bytesOf x0).all fun b => g157_0 b || g158_0 b with
          | true => rw [if_pos h] at key; exact key
          | false => rw [if_neg (by rw [h]; simp)] at key; exact key
        · show R137_4 (n + 1) ((bytesOf x0).length : Int) x0 _
          rw [R137_4, hl, if_neg (by simp)]
        · rw [R137_4, if_pos (by simp; omega)]
          simp only [Int.toNat_natCast, byte_get]
          generalize (bytesOf x0).getD i 0 = c at *
          refine ⟨by omega, by omega, ?_⟩
          have hu := inR_up (xs := bytesOf x0) (by rw [hl]; exact hw) hi
          cases h3 : g157_0 c with
          | true => rw [if_neg (by simp)]; exact ⟨hu, hr⟩
          | false =>
            rw [if_pos (by simp)]
            rw [h3, Bool.false_or] at hok
            refine ⟨by omega, by omega, ?_⟩
            rw [if_neg (by rw [hok]; simp)]
            exact ⟨hu, hr⟩
        · simp only [Bool.or_eq_false_iff] at hok
          rw [R137_4, if_pos (by simp; omega)]
          simp only [Int.toNat_natCast, byte_get]
          refine ⟨by omega, by omega, ?_⟩
          rw [if_pos (by rw [hok.1]; rfl)]
          refine ⟨by omega, by omega, ?_⟩
          rw [if_pos (by rw [hok.2]; rfl)] <;> trivial
def S137 : Am.Spec := { sig := sig137, pre := fun ⟨x0, _⟩ => P137 x0, res := fun ⟨x0, _⟩ => [⟨Ty.bool, g137_0 x0⟩] }
theorem con137 : Contract Tryz.prog 137 S137 := contract_of Tryz.func137 hb137 (Nat.le_of_ble_eq_true (by kernel_rfl)) (fun ⟨x0, _⟩ h hwf K q =>
  (snd137 _).1 x0 _ (top137 x0 hwf.1) K q)
end
noncomputable section
def ext113 : Ext := []
theorem ext113Ok : ExtOk Tryz.prog ext113 := trivial
noncomputable def b113 : Code := bodyOf Tryz.f113
theorem hb113 : Tryz.f113.body = some b113 := by kernel_rfl
def sig113 : List AT := [AT.v (Ty.int .i64), AT.v (Ty.int .i64), AT.v (Ty.int .i64)]
def tys113 : List Ty := [Ty.bool]
def kds113 : List RK := []
def oks113 : List AT := owns sig113
def P113 (x0 : Int) (x1 : Int) (x2 : Int) : Prop := True
def g113_0 (x0 : Int) (x1 : Int) (x2 : Int) : Bool := (if (decide (x0 ≥ x1)) = true then decide (x0 ≤ x2) else false)
theorem at113 (x0 : Int) (x1 : Int) (x2 : Int) (h : P113 x0 x1 x2) (K : Ctx) (q : Nat → Value) : AtV Tryz.prog 113 (PostR kds113 oks113 [⟨Ty.bool, g113_0 x0 x1 x2⟩] [] [] q K) 15 K q [] [.code b113] (entE 0 0 sig113 (x0, x1, x2, ())) (entL sig113 (x0, x1, x2, ())) := by
  unfold P113 at h
  unfold g113_0
  by_cases b0 : (decide (x0 ≥ x1)) = true
  · try simp only [if_pos b0] at h ⊢
    exact AtV.ret Tryz.func113 tabOk ext113Ok mixed false [] tys113 [true] (a1 b0 trivial) (by kernel_rfl)
  · try simp only [if_neg b0] at h ⊢
    replace b0 := Bool.eq_false_iff.2 b0
    exact AtV.ret Tryz.func113 tabOk ext113Ok mixed false [] tys113 [false] (a1 b0 trivial) (by kernel_rfl)
def S113 : Am.Spec := { sig := sig113, pre := fun ⟨x0, x1, x2, _⟩ => P113 x0 x1 x2, res := fun ⟨x0, x1, x2, _⟩ => [⟨Ty.bool, g113_0 x0 x1 x2⟩], kds := kds113 }
theorem con113 : Contract Tryz.prog 113 S113 := contract_of Tryz.func113 hb113 (Nat.le_of_ble_eq_true (by kernel_rfl)) (fun ⟨x0, x1, x2, _⟩ h _ K q => at113 x0 x1 x2 h K q)
end
noncomputable section
def ext138 : Ext := [(113, S113)]
theorem ext138Ok : ExtOk Tryz.prog ext138 := ⟨⟨ca113, con113⟩, trivial⟩
noncomputable def b138 : Code := bodyOf Tryz.f138
theorem hb138 : Tryz.f138.body = some b138 := by kernel_rfl
def sig138 : List AT := [AT.v (Ty.int .i64)]
def tys138 : List Ty := [Ty.bool]
def kds138 : List RK := []
def oks138 : List AT := owns sig138
def P138 (x0 : Int) : Prop := True
def g138_0 (x0 : Int) : Bool := g113_0 x0 0 200
theorem at138 (x0 : Int) (h : P138 x0) (K : Ctx) (q : Nat → Value) : AtV Tryz.prog 138 (PostR kds138 oks138 [⟨Ty.bool, g138_0 x0⟩] [] [] q K) 5 K q [] [.code b138] (entE 0 0 sig138 (x0, ())) (entL sig138 (x0, ())) := by
  unfold P138 at h
  unfold g138_0
  exact AtV.ret Tryz.func138 tabOk ext138Ok mixed false [] tys138 [] (a1 trivial trivial) (by kernel_rfl)
def S138 : Am.Spec := { sig := sig138, pre := fun ⟨x0, _⟩ => P138 x0, res := fun ⟨x0, _⟩ => [⟨Ty.bool, g138_0 x0⟩], kds := kds138 }
theorem con138 : Contract Tryz.prog 138 S138 := contract_of Tryz.func138 hb138 (Nat.le_of_ble_eq_true (by kernel_rfl)) (fun ⟨x0, _⟩ h _ K q => at138 x0 h K q)
end
noncomputable section
def ext112 : Ext := [(137, S137), (113, S113), (138, S138)]
theorem ext112Ok : ExtOk Tryz.prog ext112 := ⟨⟨ca137, con137⟩, ⟨ca113, con113⟩, ⟨ca138, con138⟩, trivial⟩
noncomputable def b112 : Code := bodyOf Tryz.f112
theorem hb112 : Tryz.f112.body = some b112 := by kernel_rfl
def sig112 : List AT := [AT.p YA3]
def tys112 : List Ty := [Ty.bool]
def kds112 : List RK := []
def oks112 : List AT := owns sig112
def P112 (x0 : ByteArray × Int × Int × Int × Unit) : Prop := True
def g112_0 (x0 : ByteArray × Int × Int × Int × Unit) : Bool := (if (g137_0 x0.1) = true then (if (g113_0 x0.2.1 10000 10000000) = true then (if (g113_0 x0.2.2.1 1000 1000000) = true then g138_0 x0.2.2.2.1 else false) else false) else false)
theorem at112 (x0 : ByteArray × Int × Int × Int × Unit) (h : P112 x0) (K : Ctx) (q : Nat → Value) : AtV Tryz.prog 112 (PostR kds112 oks112 [⟨Ty.bool, g112_0 x0⟩] [] [] q K) 29 K q [] [.code b112] (entE 0 0 sig112 (x0, ())) (entL sig112 (x0, ())) := by
  unfold P112 at h
  unfold g112_0
  by_cases b0 : (g137_0 x0.1) = true
  · try simp only [if_pos b0] at h ⊢
    by_cases b1 : (g113_0 x0.2.1 10000 10000000) = true
    · try simp only [if_pos b1] at h ⊢
      by_cases b2 : (g113_0 x0.2.2.1 1000 1000000) = true
      · try simp only [if_pos b2] at h ⊢
        exact AtV.ret Tryz.func112 tabOk ext112Ok mixed false [] tys112 [true, true, true] (a1 trivial (a1 b0 (a1 trivial (a1 b1 (a1 trivial (a1 b2 (a1 trivial trivial))))))) (by kernel_rfl)
      · try simp only [if_neg b2] at h ⊢
        replace b2 := Bool.eq_false_iff.2 b2
        exact AtV.ret Tryz.func112 tabOk ext112Ok mixed false [] tys112 [true, true, false] (a1 trivial (a1 b0 (a1 trivial (a1 b1 (a1 trivial (a1 b2 trivial)))))) (by kernel_rfl)
    · try simp only [if_neg b1] at h ⊢
      replace b1 := Bool.eq_false_iff.2 b1
      exact AtV.ret Tryz.func112 tabOk ext112Ok mixed false [] tys112 [true, false, false] (a1 trivial (a1 b0 (a1 trivial (a1 b1 (a1 (rfl : false = false) trivial))))) (by kernel_rfl)
  · try simp only [if_neg b0] at h ⊢
    replace b0 := Bool.eq_false_iff.2 b0
    exact AtV.ret Tryz.func112 tabOk ext112Ok mixed false [] tys112 [false, false, false] (a1 trivial (a1 b0 (a1 (rfl : false = false) (a1 (rfl : false = false) trivial)))) (by kernel_rfl)
def S112 : Am.Spec := { sig := sig112, pre := fun ⟨x0, _⟩ => P112 x0, res := fun ⟨x0, _⟩ => [⟨Ty.bool, g112_0 x0⟩], kds := kds112 }
theorem con112 : Contract Tryz.prog 112 S112 := contract_of Tryz.func112 hb112 (Nat.le_of_ble_eq_true (by kernel_rfl)) (fun ⟨x0, _⟩ h _ K q => at112 x0 h K q)
end
noncomputable section
def ext71 : Ext := [(112, S112)]
theorem ext71Ok : ExtOk Tryz.prog ext71 := ⟨⟨ca112, con112⟩, trivial⟩
noncomputable def b71 : Code := bodyOf Tryz.f71
theorem hb71 : Tryz.f71.body = some b71 := by kernel_rfl
def sig71 : List AT := [AT.v (Ty.sl YA3)]
def tys71 : List Ty := [Ty.bool]
def kds71 : List RK := []
def oks71 : List AT := owns sig71
def E71_2 (v3 : Int) (x0 : List TyB0) : Env := [(0, PV.a (Atom.sl YA3 x0)), (3, PV.a (Atom.val (Value.int .i64 v3)))]
def L71_2 (v3 : Int) (x0 : List TyB0) : Heap := []
mutual
def R71 : Nat → List TyB0 → List Dyn → Prop
  | 0, _, _ => False
  | n + 1, x0, ds => (R71_2 n (0) (x0) ds)
def R71_2 : Nat → Int → List TyB0 → List Dyn → Prop
  | 0, _, _, _ => False
  | n + 1, v3, x0, ds => (if (decide (v3 < (↑(List.length x0) : Int))) = true then ((0 ≤ v3) ∧ (v3 < (↑(List.length x0) : Int)) ∧ (if (!g112_0 (List.getD x0 (Int.toNat v3) (ByteArray.empty, 0, 0, 0, ()))) = true then (ds = [Dyn.mk Ty.bool false]) else (if (decide (v3 > 0)) = true then ((InR .i64 (v3 - 1)) ∧ ((0 ≤ v3 - 1) ∧ (v3 - 1 < (↑(List.length x0) : Int)) ∧ ((0 ≤ v3) ∧ (v3 < (↑(List.length x0) : Int)) ∧ (if (!Op.bytesLess (ByteArray.toList (List.getD x0 (Int.toNat (v3 - 1)) (ByteArray.empty, 0, 0, 0, ())).1) (ByteArray.toList (List.getD x0 (Int.toNat v3) (ByteArray.empty, 0, 0, 0, ())).1)) = true then (ds = [Dyn.mk Ty.bool false]) else ((InR .i64 (v3 + 1)) ∧ (R71_2 n (v3 + 1) (x0) ds)))))) else ((InR .i64 (v3 + 1)) ∧ (R71_2 n (v3 + 1) (x0) ds))))) else (ds = [Dyn.mk Ty.bool (decide ((↑(List.length x0) : Int) ≤ 12))]))
end
theorem snd71 : ∀ n, (∀ (x0 : List TyB0) ds, R71 n x0 ds → ∀ K q, AtV Tryz.prog 71 (PostR kds71 oks71 ds [] [] q K) 36 K q [] [.code b71] (entE 0 0 sig71 (x0, ())) (entL sig71 (x0, ()))) ∧ (∀ (v3 : Int) (x0 : List TyB0) ds, R71_2 n v3 x0 ds → ∀ K q, AtV Tryz.prog 71 (PostR kds71 oks71 ds [] [] q K) 36 K q [] (cutAt b71 2) (E71_2 v3 x0) (L71_2 v3 x0)) := by
  intro n
  induction n with
  | zero => exact ⟨fun _ _ h => by simp only [R71] at h, fun _ _ _ h => by simp only [R71_2] at h⟩
  | succ n ih =>
  obtain ⟨ih, ih2⟩ := ih
  refine ⟨?_, ?_⟩
  · intro x0 ds h K q
    rw [R71] at h
    exact AtV.go tabOk ext71Ok mixed false [] [] [0, 3] [] [] trivial (ih2 _ _ _ h K q) (by kernel_rfl)
  · intro v3 x0 ds h K q
    rw [R71_2] at h
    by_cases b0 : (decide (v3 < (↑(List.length x0) : Int))) = true
    · rw [if_pos b0] at h
      obtain ⟨s0, s1, h⟩ := h
      by_cases b1 : (!g112_0 (List.getD x0 (Int.toNat v3) (ByteArray.empty, 0, 0, 0, ()))) = true
      · rw [if_pos b1] at h
        subst h
        exact AtV.ret Tryz.func71 tabOk ext71Ok mixed false [] tys71 [true, true, true] (a1 b0 (a1 s0 (a1 s1 (a1 trivial (a1 b1 (a1 (rfl : true = true) trivial)))))) (by kernel_rfl)
      · rw [if_neg b1] at h
        replace b1 := Bool.eq_false_iff.2 b1
        by_cases b2 : (decide (v3 > 0)) = true
        · rw [if_pos b2] at h
          obtain ⟨s2, h⟩ := h
          obtain ⟨s3, s4, h⟩ := h
          obtain ⟨s5, s6, h⟩ := h
          by_cases b3 : (!Op.bytesLess (ByteArray.toList (List.getD x0 (Int.toNat (v3 - 1)) (ByteArray.empty, 0, 0, 0, ())).1) (ByteArray.toList (List.getD x0 (Int.toNat v3) (ByteArray.empty, 0, 0, 0, ())).1)) = true
          · rw [if_pos b3] at h
            subst h
            exact AtV.ret Tryz.func71 tabOk ext71Ok mixed false [] tys71 [true, false, true, true] (a1 b0 (a1 s0 (a1 s1 (a1 trivial (a1 b1 (a1 b2 (a1 s2 (a1 s3 (a1 s4 (a1 s5 (a1 s6 (a1 b3 trivial)))))))))))) (by kernel_rfl)
          · rw [if_neg b3] at h
            replace b3 := Bool.eq_false_iff.2 b3
            obtain ⟨s7, h⟩ := h
            exact AtV.go tabOk ext71Ok mixed false [] [] [0, 3] [] [true, false, true, false] (a1 b0 (a1 s0 (a1 s1 (a1 trivial (a1 b1 (a1 b2 (a1 s2 (a1 s3 (a1 s4 (a1 s5 (a1 s6 (a1 b3 (a1 s7 trivial))))))))))))) (ih2 _ _ _ h K q) (by kernel_rfl)
        · rw [if_neg b2] at h
          replace b2 := Bool.eq_false_iff.2 b2
          obtain ⟨s2, h⟩ := h
          exact AtV.go tabOk ext71Ok mixed false [] [] [0, 3] [] [true, false, false, false] (a1 b0 (a1 s0 (a1 s1 (a1 trivial (a1 b1 (a1 b2 (a1 (rfl : false = false) (a1 s2 trivial)))))))) (ih2 _ _ _ h K q) (by kernel_rfl)
    · rw [if_neg b0] at h
      replace b0 := Bool.eq_false_iff.2 b0
      subst h
      exact AtV.ret Tryz.func71 tabOk ext71Ok mixed false [] tys71 [false] (a1 b0 trivial) (by kernel_rfl)
def ok71 (x0 : List TyB0) (i : Nat) (x : TyB0) : Bool :=
  g112_0 x && (i == 0 || Op.bytesLess (ByteArray.toList (x0.getD (i - 1) (ByteArray.empty, (0 : Int), (0 : Int), (0 : Int), ())).1) (ByteArray.toList x.1))
def g71_0 (x0 : List TyB0) : Bool := allI (ok71 x0) 0 x0 && decide (x0.length ≤ 12)
def P71 (x0 : List TyB0) : Prop := True
theorem step71 (n i : Nat) (x0 : List TyB0) (hm : x0.length ≤ maxLen) (hi : i < x0.length) (ds : List Dyn) :
    (if ok71 x0 i (x0.getD i (ByteArray.empty, (0 : Int), (0 : Int), (0 : Int), ())) = true then R71_2 n ((i : Int) + 1) x0 ds else ds = [⟨.bool, false⟩]) → R71_2 (n + 1) (i : Int) x0 ds := by
  intro h
  have hu := inR_up hm hi
  rw [R71_2, if_pos (by simp; omega)]
  refine ⟨by omega, by omega, ?_⟩
  simp only [Int.toNat_natCast]
  unfold ok71 at h
  cases h1 : g112_0 (x0.getD i (ByteArray.empty, (0 : Int), (0 : Int), (0 : Int), ())) with
  | false =>
    rw [h1] at h
    rw [if_pos (by rfl)]
    simpa using h
  | true =>
    rw [h1] at h
    rw [if_neg (by simp)]
    by_cases h0 : (i : Int) > 0
    · rw [if_pos (by simpa using h0)]
      have hi0 : (i == 0) = false := by simp; omega
      have e : ((i : Int) - 1).toNat = i - 1 := by omega
      refine ⟨by rw [i64_iff]; have : maxLen ≤ 9223372036854775807 := by decide
                 omega, by omega, by omega, by omega, by omega, ?_⟩
      rw [e]
      by_cases h2 : Op.bytesLess (ByteArray.toList (x0.getD (i - 1) (ByteArray.empty, (0 : Int), (0 : Int), (0 : Int), ())).1) (ByteArray.toList (x0.getD i (ByteArray.empty, (0 : Int), (0 : Int), (0 : Int), ())).1) = true
      · rw [h2, hi0] at h
        rw [if_neg (by rw [h2]; simp)]
        exact ⟨hu, by simpa using h⟩
      · have h2 := Bool.eq_false_iff.2 h2
        rw [h2, hi0] at h
        rw [if_pos (by rw [h2]; rfl)]
        simpa using h
    · rw [if_neg (by simpa using h0)]
      have hi0 : (i == 0) = true := by simp; omega
      rw [hi0] at h
      exact ⟨hu, by simpa using h⟩
theorem top71 (x0 : List TyB0) (hw : x0.length ≤ maxLen) : R71 (x0.length + 1 + 1) x0 [⟨.bool, g71_0 x0⟩] := by
  rw [R71]
  have key := loop_testI x0 (ByteArray.empty, (0 : Int), (0 : Int), (0 : Int), ()) (ok71 x0) [(⟨.bool, false⟩ : Dyn)] [⟨.bool, decide (x0.length ≤ 12)⟩] (fun n i ds => R71_2 n i x0 ds) (fun n => ?_) (fun n i hi hok ds hr => ?_) (fun n i hi hok => ?_)
  · unfold g71_0
    cases h : allI (ok71 x0) 0 x0 with
    | true => rw [if_pos h] at key; simpa using key
    | false => rw [if_neg (by rw [h]; simp)] at key; simpa using key
  · rw [R71_2, if_neg (by simp)]
    have hc : decide ((x0.length : Int) ≤ 12) = decide (x0.length ≤ 12) := by
      congr 1; exact propext ⟨fun h => by omega, fun h => by omega⟩
    rw [hc]
  · exact step71 n i x0 hw hi ds (by rw [if_pos hok]; exact hr)
  · exact step71 n i x0 hw hi _ (by rw [if_neg (by rw [hok]; simp)])
def S71 : Am.Spec := { sig := sig71, pre := fun ⟨x0, _⟩ => P71 x0, res := fun ⟨x0, _⟩ => [⟨Ty.bool, g71_0 x0⟩] }
theorem con71 : Contract Tryz.prog 71 S71 := contract_of Tryz.func71 hb71 (Nat.le_of_ble_eq_true (by kernel_rfl)) (fun ⟨x0, _⟩ h hwf K q =>
  (snd71 _).1 x0 _ (top71 x0 hwf.1.1) K q)
end
noncomputable section
def ext72 : Ext := [(113, S113)]
theorem ext72Ok : ExtOk Tryz.prog ext72 := ⟨⟨ca113, con113⟩, trivial⟩
noncomputable def b72 : Code := bodyOf Tryz.f72
theorem hb72 : Tryz.f72.body = some b72 := by kernel_rfl
def sig72 : List AT := [AT.p YA2]
def tys72 : List Ty := [Ty.bool]
def kds72 : List RK := []
def oks72 : List AT := owns sig72
def P72 (x0 : Int × Int × Int × Int × Unit) : Prop := True
def g72_0 (x0 : Int × Int × Int × Int × Unit) : Bool := (if (g113_0 x0.1 1000 4000000) = true then (if (g113_0 x0.2.1 100 20000) = true then (if (g113_0 x0.2.2.1 6 400) = true then g113_0 x0.2.2.2.1 1000 10000000 else false) else false) else false)
theorem at72 (x0 : Int × Int × Int × Int × Unit) (h : P72 x0) (K : Ctx) (q : Nat → Value) : AtV Tryz.prog 72 (PostR kds72 oks72 [⟨Ty.bool, g72_0 x0⟩] [] [] q K) 29 K q [] [.code b72] (entE 0 0 sig72 (x0, ())) (entL sig72 (x0, ())) := by
  unfold P72 at h
  unfold g72_0
  by_cases b0 : (g113_0 x0.1 1000 4000000) = true
  · try simp only [if_pos b0] at h ⊢
    by_cases b1 : (g113_0 x0.2.1 100 20000) = true
    · try simp only [if_pos b1] at h ⊢
      by_cases b2 : (g113_0 x0.2.2.1 6 400) = true
      · try simp only [if_pos b2] at h ⊢
        exact AtV.ret Tryz.func72 tabOk ext72Ok mixed false [] tys72 [true, true, true] (a1 trivial (a1 b0 (a1 trivial (a1 b1 (a1 trivial (a1 b2 (a1 trivial trivial))))))) (by kernel_rfl)
      · try simp only [if_neg b2] at h ⊢
        replace b2 := Bool.eq_false_iff.2 b2
        exact AtV.ret Tryz.func72 tabOk ext72Ok mixed false [] tys72 [true, true, false] (a1 trivial (a1 b0 (a1 trivial (a1 b1 (a1 trivial (a1 b2 trivial)))))) (by kernel_rfl)
    · try simp only [if_neg b1] at h ⊢
      replace b1 := Bool.eq_false_iff.2 b1
      exact AtV.ret Tryz.func72 tabOk ext72Ok mixed false [] tys72 [true, false, false] (a1 trivial (a1 b0 (a1 trivial (a1 b1 (a1 (rfl : false = false) trivial))))) (by kernel_rfl)
  · try simp only [if_neg b0] at h ⊢
    replace b0 := Bool.eq_false_iff.2 b0
    exact AtV.ret Tryz.func72 tabOk ext72Ok mixed false [] tys72 [false, false, false] (a1 trivial (a1 b0 (a1 (rfl : false = false) (a1 (rfl : false = false) trivial)))) (by kernel_rfl)
def S72 : Am.Spec := { sig := sig72, pre := fun ⟨x0, _⟩ => P72 x0, res := fun ⟨x0, _⟩ => [⟨Ty.bool, g72_0 x0⟩], kds := kds72 }
theorem con72 : Contract Tryz.prog 72 S72 := contract_of Tryz.func72 hb72 (Nat.le_of_ble_eq_true (by kernel_rfl)) (fun ⟨x0, _⟩ h _ K q => at72 x0 h K q)
end
noncomputable section
def ext114 : Ext := [(113, S113)]
theorem ext114Ok : ExtOk Tryz.prog ext114 := ⟨⟨ca113, con113⟩, trivial⟩
noncomputable def b114 : Code := bodyOf Tryz.f114
theorem hb114 : Tryz.f114.body = some b114 := by kernel_rfl
def sig114 : List AT := [AT.p YA4]
def tys114 : List Ty := [Ty.bool]
def kds114 : List RK := []
def oks114 : List AT := owns sig114
def P114 (x0 : Int × Int × Int × Unit) : Prop := True
def g114_0 (x0 : Int × Int × Int × Unit) : Bool := (if (g113_0 x0.1 0 1000) = true then (if (g113_0 x0.2.1 (-400) 500) = true then g113_0 x0.2.2.1 0 1000 else false) else false)
theorem at114 (x0 : Int × Int × Int × Unit) (h : P114 x0) (K : Ctx) (q : Nat → Value) : AtV Tryz.prog 114 (PostR kds114 oks114 [⟨Ty.bool, g114_0 x0⟩] [] [] q K) 22 K q [] [.code b114] (entE 0 0 sig114 (x0, ())) (entL sig114 (x0, ())) := by
  unfold P114 at h
  unfold g114_0
  by_cases b0 : (g113_0 x0.1 0 1000) = true
  · try simp only [if_pos b0] at h ⊢
    by_cases b1 : (g113_0 x0.2.1 (-400) 500) = true
    · try simp only [if_pos b1] at h ⊢
      exact AtV.ret Tryz.func114 tabOk ext114Ok mixed false [] tys114 [true, true] (a1 trivial (a1 b0 (a1 trivial (a1 b1 (a1 trivial trivial))))) (by kernel_rfl)
    · try simp only [if_neg b1] at h ⊢
      replace b1 := Bool.eq_false_iff.2 b1
      exact AtV.ret Tryz.func114 tabOk ext114Ok mixed false [] tys114 [true, false] (a1 trivial (a1 b0 (a1 trivial (a1 b1 trivial)))) (by kernel_rfl)
  · try simp only [if_neg b0] at h ⊢
    replace b0 := Bool.eq_false_iff.2 b0
    exact AtV.ret Tryz.func114 tabOk ext114Ok mixed false [] tys114 [false, false] (a1 trivial (a1 b0 (a1 (rfl : false = false) trivial))) (by kernel_rfl)
def S114 : Am.Spec := { sig := sig114, pre := fun ⟨x0, _⟩ => P114 x0, res := fun ⟨x0, _⟩ => [⟨Ty.bool, g114_0 x0⟩], kds := kds114 }
theorem con114 : Contract Tryz.prog 114 S114 := contract_of Tryz.func114 hb114 (Nat.le_of_ble_eq_true (by kernel_rfl)) (fun ⟨x0, _⟩ h _ K q => at114 x0 h K q)
end
noncomputable section
def ext73 : Ext := [(114, S114)]
theorem ext73Ok : ExtOk Tryz.prog ext73 := ⟨⟨ca114, con114⟩, trivial⟩
noncomputable def b73 : Code := bodyOf Tryz.f73
theorem hb73 : Tryz.f73.body = some b73 := by kernel_rfl
def sig73 : List AT := [AT.v (Ty.sl YA4)]
def tys73 : List Ty := [Ty.bool]
def kds73 : List RK := []
def oks73 : List AT := owns sig73
def E73_2 (v3 : Int) (x0 : List TyB2) : Env := [(0, PV.a (Atom.sl YA4 x0)), (3, PV.a (Atom.val (Value.int .i64 v3)))]
def L73_2 (v3 : Int) (x0 : List TyB2) : Heap := []
mutual
def R73 : Nat → List TyB2 → List Dyn → Prop
  | 0, _, _ => False
  | n + 1, x0, ds => (R73_2 n (0) (x0) ds)
def R73_2 : Nat → Int → List TyB2 → List Dyn → Prop
  | 0, _, _, _ => False
  | n + 1, v3, x0, ds => (if (decide (v3 < (↑(List.length x0) : Int))) = true then ((0 ≤ v3) ∧ (v3 < (↑(List.length x0) : Int)) ∧ (if (!g114_0 (List.getD x0 (Int.toNat v3) (0, 0, 0, ()))) = true then (ds = [Dyn.mk Ty.bool false]) else ((InR .i64 (v3 + 1)) ∧ (R73_2 n (v3 + 1) (x0) ds)))) else (ds = [Dyn.mk Ty.bool (decide ((↑(List.length x0) : Int) ≤ 48))]))
end
theorem snd73 : ∀ n, (∀ (x0 : List TyB2) ds, R73 n x0 ds → ∀ K q, AtV Tryz.prog 73 (PostR kds73 oks73 ds [] [] q K) 18 K q [] [.code b73] (entE 0 0 sig73 (x0, ())) (entL sig73 (x0, ()))) ∧ (∀ (v3 : Int) (x0 : List TyB2) ds, R73_2 n v3 x0 ds → ∀ K q, AtV Tryz.prog 73 (PostR kds73 oks73 ds [] [] q K) 18 K q [] (cutAt b73 2) (E73_2 v3 x0) (L73_2 v3 x0)) := by
  intro n
  induction n with
  | zero => exact ⟨fun _ _ h => by simp only [R73] at h, fun _ _ _ h => by simp only [R73_2] at h⟩
  | succ n ih =>
  obtain ⟨ih, ih2⟩ := ih
  refine ⟨?_, ?_⟩
  · intro x0 ds h K q
    rw [R73] at h
    exact AtV.go tabOk ext73Ok mixed false [] [] [0, 3] [] [] trivial (ih2 _ _ _ h K q) (by kernel_rfl)
  · intro v3 x0 ds h K q
    rw [R73_2] at h
    by_cases b0 : (decide (v3 < (↑(List.length x0) : Int))) = true
    · rw [if_pos b0] at h
      obtain ⟨s0, s1, h⟩ := h
      by_cases b1 : (!g114_0 (List.getD x0 (Int.toNat v3) (0, 0, 0, ()))) = true
      · rw [if_pos b1] at h
        subst h
        exact AtV.ret Tryz.func73 tabOk ext73Ok mixed false [] tys73 [true, true] (a1 b0 (a1 s0 (a1 s1 (a1 trivial (a1 b1 trivial))))) (by kernel_rfl)
      · rw [if_neg b1] at h
        replace b1 := Bool.eq_false_iff.2 b1
        obtain ⟨s2, h⟩ := h
        exact AtV.go tabOk ext73Ok mixed false [] [] [0, 3] [] [true, false] (a1 b0 (a1 s0 (a1 s1 (a1 trivial (a1 b1 (a1 s2 trivial)))))) (ih2 _ _ _ h K q) (by kernel_rfl)
    · rw [if_neg b0] at h
      replace b0 := Bool.eq_false_iff.2 b0
      subst h
      exact AtV.ret Tryz.func73 tabOk ext73Ok mixed false [] tys73 [false] (a1 b0 trivial) (by kernel_rfl)
def g73_0 (x0 : List TyB2) : Bool := x0.all g114_0 && decide (x0.length ≤ 48)
def P73 (x0 : List TyB2) : Prop := True
theorem top73 (x0 : List TyB2) (hw : Wf (.sl (.cons (.int .i64) (.cons (.int .i64) (.cons (.int .i64) .unit)))) x0) : R73 (x0.length + 1 + 1) x0 [⟨.bool, g73_0 x0⟩] := by
  rw [R73]
  have key := loop_test x0 ((0 : Int), (0 : Int), (0 : Int), ()) g114_0 [(⟨.bool, false⟩ : Dyn)] [⟨.bool, decide (x0.length ≤ 48)⟩] (fun n i ds => R73_2 n i x0 ds) (fun n => ?_) (fun n i hi hok ds hr => ?_) (fun n i hi hok => ?_)
  · unfold g73_0
    cases h : x0.all g114_0 <;> rw [h] at key <;> simpa using key
  · rw [R73_2, if_neg (by simp)]
    simp only [Dyn.mk.injEq, heq_eq_eq, true_and, List.cons.injEq, and_true]
    congr 1
    exact propext ⟨fun h => by omega, fun h => by omega⟩
  · rw [R73_2, if_pos (by simp; omega)]
    simp only [Int.toNat_natCast]
    refine ⟨by omega, by omega, ?_⟩
    rw [if_neg (by rw [hok]; simp)]
    exact ⟨inR_up hw.1 hi, hr⟩
  · rw [R73_2, if_pos (by simp; omega)]
    simp only [Int.toNat_natCast]
    refine ⟨by omega, by omega, ?_⟩
    rw [if_pos (by rw [hok]; simp)] <;> trivial
def S73 : Am.Spec := { sig := sig73, pre := fun ⟨x0, _⟩ => P73 x0, res := fun ⟨x0, _⟩ => [⟨Ty.bool, g73_0 x0⟩] }
theorem con73 : Contract Tryz.prog 73 S73 := contract_of Tryz.func73 hb73 (Nat.le_of_ble_eq_true (by kernel_rfl)) (fun ⟨x0, _⟩ h hwf K q =>
  (snd73 _).1 x0 _ (top73 x0 hwf.1) K q)
end
noncomputable section
def ext115 : Ext := [(113, S113)]
theorem ext115Ok : ExtOk Tryz.prog ext115 := ⟨⟨ca113, con113⟩, trivial⟩
noncomputable def b115 : Code := bodyOf Tryz.f115
theorem hb115 : Tryz.f115.body = some b115 := by kernel_rfl
def sig115 : List AT := [AT.v (Ty.int .i64)]
def tys115 : List Ty := [Ty.bool]
def kds115 : List RK := []
def oks115 : List AT := owns sig115
def P115 (x0 : Int) : Prop := True
def g115_0 (x0 : Int) : Bool := g113_0 x0 0 20000
theorem at115 (x0 : Int) (h : P115 x0) (K : Ctx) (q : Nat → Value) : AtV Tryz.prog 115 (PostR kds115 oks115 [⟨Ty.bool, g115_0 x0⟩] [] [] q K) 5 K q [] [.code b115] (entE 0 0 sig115 (x0, ())) (entL sig115 (x0, ())) := by
  unfold P115 at h
  unfold g115_0
  exact AtV.ret Tryz.func115 tabOk ext115Ok mixed false [] tys115 [] (a1 trivial trivial) (by kernel_rfl)
def S115 : Am.Spec := { sig := sig115, pre := fun ⟨x0, _⟩ => P115 x0, res := fun ⟨x0, _⟩ => [⟨Ty.bool, g115_0 x0⟩], kds := kds115 }
theorem con115 : Contract Tryz.prog 115 S115 := contract_of Tryz.func115 hb115 (Nat.le_of_ble_eq_true (by kernel_rfl)) (fun ⟨x0, _⟩ h _ K q => at115 x0 h K q)
end
noncomputable section
def ext74 : Ext := [(113, S113), (115, S115)]
theorem ext74Ok : ExtOk Tryz.prog ext74 := ⟨⟨ca113, con113⟩, ⟨ca115, con115⟩, trivial⟩
noncomputable def b74 : Code := bodyOf Tryz.f74
theorem hb74 : Tryz.f74.body = some b74 := by kernel_rfl
def sig74 : List AT := [AT.v (Ty.sl YA4)]
def tys74 : List Ty := [Ty.bool]
def kds74 : List RK := []
def oks74 : List AT := owns sig74
def E74_2 (v3 : Int) (x0 : List TyB2) : Env := [(0, PV.a (Atom.sl YA4 x0)), (3, PV.a (Atom.val (Value.int .i64 v3)))]
def L74_2 (v3 : Int) (x0 : List TyB2) : Heap := []
mutual
def R74 : Nat → List TyB2 → List Dyn → Prop
  | 0, _, _ => False
  | n + 1, x0, ds => (R74_2 n (0) (x0) ds)
def R74_2 : Nat → Int → List TyB2 → List Dyn → Prop
  | 0, _, _, _ => False
  | n + 1, v3, x0, ds => (if (decide (v3 < (↑(List.length x0) : Int))) = true then ((0 ≤ v3) ∧ (v3 < (↑(List.length x0) : Int)) ∧ (if (!g113_0 (List.getD x0 (Int.toNat v3) (0, 0, 0, ())).1 1 4) = true then (ds = [Dyn.mk Ty.bool false]) else (if (!g113_0 (List.getD x0 (Int.toNat v3) (0, 0, 0, ())).2.1 0 1000) = true then (ds = [Dyn.mk Ty.bool false]) else (if (!g115_0 (List.getD x0 (Int.toNat v3) (0, 0, 0, ())).2.2.1) = true then (ds = [Dyn.mk Ty.bool false]) else ((InR .i64 (v3 + 1)) ∧ (R74_2 n (v3 + 1) (x0) ds)))))) else (ds = [Dyn.mk Ty.bool (decide ((↑(List.length x0) : Int) ≤ 8))]))
end
theorem snd74 : ∀ n, (∀ (x0 : List TyB2) ds, R74 n x0 ds → ∀ K q, AtV Tryz.prog 74 (PostR kds74 oks74 ds [] [] q K) 39 K q [] [.code b74] (entE 0 0 sig74 (x0, ())) (entL sig74 (x0, ()))) ∧ (∀ (v3 : Int) (x0 : List TyB2) ds, R74_2 n v3 x0 ds → ∀ K q, AtV Tryz.prog 74 (PostR kds74 oks74 ds [] [] q K) 39 K q [] (cutAt b74 2) (E74_2 v3 x0) (L74_2 v3 x0)) := by
  intro n
  induction n with
  | zero => exact ⟨fun _ _ h => by simp only [R74] at h, fun _ _ _ h => by simp only [R74_2] at h⟩
  | succ n ih =>
  obtain ⟨ih, ih2⟩ := ih
  refine ⟨?_, ?_⟩
  · intro x0 ds h K q
    rw [R74] at h
    exact AtV.go tabOk ext74Ok mixed false [] [] [0, 3] [] [] trivial (ih2 _ _ _ h K q) (by kernel_rfl)
  · intro v3 x0 ds h K q
    rw [R74_2] at h
    by_cases b0 : (decide (v3 < (↑(List.length x0) : Int))) = true
    · rw [if_pos b0] at h
      obtain ⟨s0, s1, h⟩ := h
      by_cases b1 : (!g113_0 (List.getD x0 (Int.toNat v3) (0, 0, 0, ())).1 1 4) = true
      · rw [if_pos b1] at h
        subst h
        exact AtV.ret Tryz.func74 tabOk ext74Ok mixed false [] tys74 [true, true, true, true] (a1 b0 (a1 s0 (a1 s1 (a1 trivial (a1 b1 (a1 (rfl : true = true) (a1 (rfl : true = true) trivial))))))) (by kernel_rfl)
      · rw [if_neg b1] at h
        replace b1 := Bool.eq_false_iff.2 b1
        by_cases b2 : (!g113_0 (List.getD x0 (Int.toNat v3) (0, 0, 0, ())).2.1 0 1000) = true
        · rw [if_pos b2] at h
          subst h
          exact AtV.ret Tryz.func74 tabOk ext74Ok mixed false [] tys74 [true, false, true, true] (a1 b0 (a1 s0 (a1 s1 (a1 trivial (a1 b1 (a1 trivial (a1 b2 (a1 (rfl : true = true) trivial)))))))) (by kernel_rfl)
        · rw [if_neg b2] at h
          replace b2 := Bool.eq_false_iff.2 b2
          by_cases b3 : (!g115_0 (List.getD x0 (Int.toNat v3) (0, 0, 0, ())).2.2.1) = true
          · rw [if_pos b3] at h
            subst h
            exact AtV.ret Tryz.func74 tabOk ext74Ok mixed false [] tys74 [true, false, false, true] (a1 b0 (a1 s0 (a1 s1 (a1 trivial (a1 b1 (a1 trivial (a1 b2 (a1 trivial (a1 b3 trivial))))))))) (by kernel_rfl)
          · rw [if_neg b3] at h
            replace b3 := Bool.eq_false_iff.2 b3
            obtain ⟨s2, h⟩ := h
            exact AtV.go tabOk ext74Ok mixed false [] [] [0, 3] [] [true, false, false, false] (a1 b0 (a1 s0 (a1 s1 (a1 trivial (a1 b1 (a1 trivial (a1 b2 (a1 trivial (a1 b3 (a1 s2 trivial)))))))))) (ih2 _ _ _ h K q) (by kernel_rfl)
    · rw [if_neg b0] at h
      replace b0 := Bool.eq_false_iff.2 b0
      subst h
      exact AtV.ret Tryz.func74 tabOk ext74Ok mixed false [] tys74 [false] (a1 b0 trivial) (by kernel_rfl)
def lim74 (x : Int × Int × Int × Unit) : Bool := g113_0 x.1 1 4 && g113_0 x.2.1 0 1000 && g115_0 x.2.2.1
def g74_0 (x0 : List TyB2) : Bool := x0.all lim74 && decide (x0.length ≤ 8)
def P74 (x0 : List TyB2) : Prop := True
theorem step74 (n i : Nat) (x0 : List TyB2) (hm : x0.length ≤ maxLen) (hi : i < x0.length) (ds : List Dyn)
    (h : if lim74 (x0.getD i ((0 : Int), (0 : Int), (0 : Int), ())) = true then R74_2 n ((i : Int) + 1) x0 ds else ds = [⟨.bool, false⟩]) : R74_2 (n + 1) (i : Int) x0 ds := by
  rw [R74_2, if_pos (by simp; omega)]
  simp only [Int.toNat_natCast]
  refine ⟨by omega, by omega, ?_⟩
  have hu := inR_up hm hi
  unfold lim74 at h
  by_cases h1 : g113_0 (x0.getD i ((0 : Int), (0 : Int), (0 : Int), ())).1 1 4 = true
  case neg => rw [Bool.eq_false_iff.2 h1] at h; rw [if_pos (by rw [Bool.eq_false_iff.2 h1]; rfl)]; simpa using h
  rw [if_neg (by rw [h1]; simp)]
  by_cases h2 : g113_0 (x0.getD i ((0 : Int), (0 : Int), (0 : Int), ())).2.1 0 1000 = true
  case neg => rw [h1, Bool.eq_false_iff.2 h2] at h; rw [if_pos (by rw [Bool.eq_false_iff.2 h2]; rfl)]; simpa using h
  rw [if_neg (by rw [h2]; simp)]
  by_cases h3 : g115_0 (x0.getD i ((0 : Int), (0 : Int), (0 : Int), ())).2.2.1 = true
  case neg => rw [h1, h2, Bool.eq_false_iff.2 h3] at h; rw [if_pos (by rw [Bool.eq_false_iff.2 h3]; rfl)]; simpa using h
  rw [if_neg (by rw [h3]; simp)]
  rw [h1, h2, h3] at h
  exact ⟨hu, by simpa using h⟩
theorem top74 (x0 : List TyB2) (hw : x0.length ≤ maxLen) : R74 (x0.length + 1 + 1) x0 [⟨.bool, g74_0 x0⟩] := by
  rw [R74]
  have key := loop_test x0 ((0 : Int), (0 : Int), (0 : Int), ()) lim74 [(⟨.bool, false⟩ : Dyn)] [⟨.bool, decide (x0.length ≤ 8)⟩] (fun n i ds => R74_2 n i x0 ds) (fun n => ?_) (fun n i hi hok ds hr => ?_) (fun n i hi hok => ?_)
  · unfold g74_0
    cases h : x0.all lim74 <;> rw [h] at key <;> simpa using key
  · rw [R74_2, if_neg (by simp)]
    simp only [Dyn.mk.injEq, heq_eq_eq, true_and, List.cons.injEq, and_true]
    congr 1
    exact propext ⟨fun h => by omega, fun h => by omega⟩
  · exact step74 n i x0 hw hi ds (by rw [if_pos hok]; exact hr)
  · exact step74 n i x0 hw hi _ (by rw [if_neg (by rw [hok]; simp)])
def S74 : Am.Spec := { sig := sig74, pre := fun ⟨x0, _⟩ => P74 x0, res := fun ⟨x0, _⟩ => [⟨Ty.bool, g74_0 x0⟩] }
theorem con74 : Contract Tryz.prog 74 S74 := contract_of Tryz.func74 hb74 (Nat.le_of_ble_eq_true (by kernel_rfl)) (fun ⟨x0, _⟩ h hwf K q =>
  (snd74 _).1 x0 _ (top74 x0 hwf.1.1) K q)
end
noncomputable section
def ext75 : Ext := [(113, S113)]
theorem ext75Ok : ExtOk Tryz.prog ext75 := ⟨⟨ca113, con113⟩, trivial⟩
noncomputable def b75 : Code := bodyOf Tryz.f75
theorem hb75 : Tryz.f75.body = some b75 := by kernel_rfl
def sig75 : List AT := [AT.p YA4]
def tys75 : List Ty := [Ty.bool]
def kds75 : List RK := []
def oks75 : List AT := owns sig75
def P75 (x0 : Int × Int × Int × Unit) : Prop := True
def g75_0 (x0 : Int × Int × Int × Unit) : Bool := (if (g113_0 x0.1 1000 10000000) = true then (if (g113_0 x0.2.1 100 1000000) = true then g113_0 x0.2.2.1 0 500 else false) else false)
theorem at75 (x0 : Int × Int × Int × Unit) (h : P75 x0) (K : Ctx) (q : Nat → Value) : AtV Tryz.prog 75 (PostR kds75 oks75 [⟨Ty.bool, g75_0 x0⟩] [] [] q K) 22 K q [] [.code b75] (entE 0 0 sig75 (x0, ())) (entL sig75 (x0, ())) := by
  unfold P75 at h
  unfold g75_0
  by_cases b0 : (g113_0 x0.1 1000 10000000) = true
  · try simp only [if_pos b0] at h ⊢
    by_cases b1 : (g113_0 x0.2.1 100 1000000) = true
    · try simp only [if_pos b1] at h ⊢
      exact AtV.ret Tryz.func75 tabOk ext75Ok mixed false [] tys75 [true, true] (a1 trivial (a1 b0 (a1 trivial (a1 b1 (a1 trivial trivial))))) (by kernel_rfl)
    · try simp only [if_neg b1] at h ⊢
      replace b1 := Bool.eq_false_iff.2 b1
      exact AtV.ret Tryz.func75 tabOk ext75Ok mixed false [] tys75 [true, false] (a1 trivial (a1 b0 (a1 trivial (a1 b1 trivial)))) (by kernel_rfl)
  · try simp only [if_neg b0] at h ⊢
    replace b0 := Bool.eq_false_iff.2 b0
    exact AtV.ret Tryz.func75 tabOk ext75Ok mixed false [] tys75 [false, false] (a1 trivial (a1 b0 (a1 (rfl : false = false) trivial))) (by kernel_rfl)
def S75 : Am.Spec := { sig := sig75, pre := fun ⟨x0, _⟩ => P75 x0, res := fun ⟨x0, _⟩ => [⟨Ty.bool, g75_0 x0⟩], kds := kds75 }
theorem con75 : Contract Tryz.prog 75 S75 := contract_of Tryz.func75 hb75 (Nat.le_of_ble_eq_true (by kernel_rfl)) (fun ⟨x0, _⟩ h _ K q => at75 x0 h K q)
end
noncomputable section
def ext76 : Ext := [(113, S113)]
theorem ext76Ok : ExtOk Tryz.prog ext76 := ⟨⟨ca113, con113⟩, trivial⟩
noncomputable def b76 : Code := bodyOf Tryz.f76
theorem hb76 : Tryz.f76.body = some b76 := by kernel_rfl
def sig76 : List AT := [AT.p YA4]
def tys76 : List Ty := [Ty.bool]
def kds76 : List RK := []
def oks76 : List AT := owns sig76
def P76 (x0 : Int × Int × Int × Unit) : Prop := True
def g76_0 (x0 : Int × Int × Int × Unit) : Bool := (if (x0.1 == 0) = true then (if (x0.2.1 == 0) = true then x0.2.2.1 == 0 else false) else (if (x0.1 == 2) = true then (if (x0.2.1 == 0) = true then x0.2.2.1 == 0 else false) else (if (x0.1 == 1) = true then (if (g113_0 x0.2.1 0 2) = true then g113_0 x0.2.2.1 0 3 else false) else (if (x0.1 == 3) = true then (if (g113_0 x0.2.1 0 2) = true then g113_0 x0.2.2.1 0 3 else false) else false))))
theorem at76 (x0 : Int × Int × Int × Unit) (h : P76 x0) (K : Ctx) (q : Nat → Value) : AtV Tryz.prog 76 (PostR kds76 oks76 [⟨Ty.bool, g76_0 x0⟩] [] [] q K) 53 K q [] [.code b76] (entE 0 0 sig76 (x0, ())) (entL sig76 (x0, ())) := by
  unfold P76 at h
  unfold g76_0
  by_cases b0 : (x0.1 == 0) = true
  · try simp only [if_pos b0] at h ⊢
    by_cases b1 : (x0.2.1 == 0) = true
    · try simp only [if_pos b1] at h ⊢
      exact AtV.ret Tryz.func76 tabOk ext76Ok mixed false [] tys76 [true, true, true] (a1 b0 (a1 (rfl : true = true) (a1 b1 trivial))) (by kernel_rfl)
    · try simp only [if_neg b1] at h ⊢
      replace b1 := Bool.eq_false_iff.2 b1
      exact AtV.ret Tryz.func76 tabOk ext76Ok mixed false [] tys76 [true, true, false] (a1 b0 (a1 (rfl : true = true) (a1 b1 trivial))) (by kernel_rfl)
  · try simp only [if_neg b0] at h ⊢
    replace b0 := Bool.eq_false_iff.2 b0
    by_cases b1 : (x0.1 == 2) = true
    · try simp only [if_pos b1] at h ⊢
      by_cases b2 : (x0.2.1 == 0) = true
      · try simp only [if_pos b2] at h ⊢
        exact AtV.ret Tryz.func76 tabOk ext76Ok mixed false [] tys76 [false, true, true] (a1 b0 (a1 b1 (a1 b2 trivial))) (by kernel_rfl)
      · try simp only [if_neg b2] at h ⊢
        replace b2 := Bool.eq_false_iff.2 b2
        exact AtV.ret Tryz.func76 tabOk ext76Ok mixed false [] tys76 [false, true, false] (a1 b0 (a1 b1 (a1 b2 trivial))) (by kernel_rfl)
    · try simp only [if_neg b1] at h ⊢
      replace b1 := Bool.eq_false_iff.2 b1
      by_cases b2 : (x0.1 == 1) = true
      · try simp only [if_pos b2] at h ⊢
        by_cases b3 : (g113_0 x0.2.1 0 2) = true
        · try simp only [if_pos b3] at h ⊢
          exact AtV.ret Tryz.func76 tabOk ext76Ok mixed false [] tys76 [false, false, true, true, true] (a1 b0 (a1 b1 (a1 b2 (a1 (rfl : true = true) (a1 trivial (a1 b3 (a1 trivial trivial))))))) (by kernel_rfl)
        · try simp only [if_neg b3] at h ⊢
          replace b3 := Bool.eq_false_iff.2 b3
          exact AtV.ret Tryz.func76 tabOk ext76Ok mixed false [] tys76 [false, false, true, true, false] (a1 b0 (a1 b1 (a1 b2 (a1 (rfl : true = true) (a1 trivial (a1 b3 trivial)))))) (by kernel_rfl)
      · try simp only [if_neg b2] at h ⊢
        replace b2 := Bool.eq_false_iff.2 b2
        by_cases b3 : (x0.1 == 3) = true
        · try simp only [if_pos b3] at h ⊢
          by_cases b4 : (g113_0 x0.2.1 0 2) = true
          · try simp only [if_pos b4] at h ⊢
            exact AtV.ret Tryz.func76 tabOk ext76Ok mixed false [] tys76 [false, false, false, true, true] (a1 b0 (a1 b1 (a1 b2 (a1 b3 (a1 trivial (a1 b4 (a1 trivial trivial))))))) (by kernel_rfl)
          · try simp only [if_neg b4] at h ⊢
            replace b4 := Bool.eq_false_iff.2 b4
            exact AtV.ret Tryz.func76 tabOk ext76Ok mixed false [] tys76 [false, false, false, true, false] (a1 b0 (a1 b1 (a1 b2 (a1 b3 (a1 trivial (a1 b4 trivial)))))) (by kernel_rfl)
        · try simp only [if_neg b3] at h ⊢
          replace b3 := Bool.eq_false_iff.2 b3
          exact AtV.ret Tryz.func76 tabOk ext76Ok mixed false [] tys76 [false, false, false, false, false] (a1 b0 (a1 b1 (a1 b2 (a1 b3 (a1 (rfl : false = false) trivial))))) (by kernel_rfl)
def S76 : Am.Spec := { sig := sig76, pre := fun ⟨x0, _⟩ => P76 x0, res := fun ⟨x0, _⟩ => [⟨Ty.bool, g76_0 x0⟩], kds := kds76 }
theorem con76 : Contract Tryz.prog 76 S76 := contract_of Tryz.func76 hb76 (Nat.le_of_ble_eq_true (by kernel_rfl)) (fun ⟨x0, _⟩ h _ K q => at76 x0 h K q)
end
noncomputable section
def ext139 : Ext := [(113, S113)]
theorem ext139Ok : ExtOk Tryz.prog ext139 := ⟨⟨ca113, con113⟩, trivial⟩
noncomputable def b139 : Code := bodyOf Tryz.f139
theorem hb139 : Tryz.f139.body = some b139 := by kernel_rfl
def sig139 : List AT := [AT.v (Ty.int .i64)]
def tys139 : List Ty := [Ty.bool]
def kds139 : List RK := []
def oks139 : List AT := owns sig139
def P139 (x0 : Int) : Prop := True
def g139_0 (x0 : Int) : Bool := g113_0 x0 0 1440
theorem at139 (x0 : Int) (h : P139 x0) (K : Ctx) (q : Nat → Value) : AtV Tryz.prog 139 (PostR kds139 oks139 [⟨Ty.bool, g139_0 x0⟩] [] [] q K) 5 K q [] [.code b139] (entE 0 0 sig139 (x0, ())) (entL sig139 (x0, ())) := by
  unfold P139 at h
  unfold g139_0
  exact AtV.ret Tryz.func139 tabOk ext139Ok mixed false [] tys139 [] (a1 trivial trivial) (by kernel_rfl)
def S139 : Am.Spec := { sig := sig139, pre := fun ⟨x0, _⟩ => P139 x0, res := fun ⟨x0, _⟩ => [⟨Ty.bool, g139_0 x0⟩], kds := kds139 }
theorem con139 : Contract Tryz.prog 139 S139 := contract_of Tryz.func139 hb139 (Nat.le_of_ble_eq_true (by kernel_rfl)) (fun ⟨x0, _⟩ h _ K q => at139 x0 h K q)
end
noncomputable section
def ext116 : Ext := [(137, S137), (139, S139)]
theorem ext116Ok : ExtOk Tryz.prog ext116 := ⟨⟨ca137, con137⟩, ⟨ca139, con139⟩, trivial⟩
noncomputable def b116 : Code := bodyOf Tryz.f116
theorem hb116 : Tryz.f116.body = some b116 := by kernel_rfl
def sig116 : List AT := [AT.p YA5]
def tys116 : List Ty := [Ty.bool]
def kds116 : List RK := []
def oks116 : List AT := owns sig116
def P116 (x0 : ByteArray × Int × Int × Unit) : Prop := True
def g116_0 (x0 : ByteArray × Int × Int × Unit) : Bool := (if (g137_0 x0.1) = true then (if (g139_0 x0.2.1) = true then (if (g139_0 x0.2.2.1) = true then decide (x0.2.1 < x0.2.2.1) else false) else false) else false)
theorem at116 (x0 : ByteArray × Int × Int × Unit) (h : P116 x0) (K : Ctx) (q : Nat → Value) : AtV Tryz.prog 116 (PostR kds116 oks116 [⟨Ty.bool, g116_0 x0⟩] [] [] q K) 33 K q [] [.code b116] (entE 0 0 sig116 (x0, ())) (entL sig116 (x0, ())) := by
  unfold P116 at h
  unfold g116_0
  by_cases b0 : (g137_0 x0.1) = true
  · try simp only [if_pos b0] at h ⊢
    by_cases b1 : (g139_0 x0.2.1) = true
    · try simp only [if_pos b1] at h ⊢
      by_cases b2 : (g139_0 x0.2.2.1) = true
      · try simp only [if_pos b2] at h ⊢
        exact AtV.ret Tryz.func116 tabOk ext116Ok mixed false [] tys116 [true, true, true] (a1 trivial (a1 b0 (a1 trivial (a1 b1 (a1 trivial (a1 b2 trivial)))))) (by kernel_rfl)
      · try simp only [if_neg b2] at h ⊢
        replace b2 := Bool.eq_false_iff.2 b2
        exact AtV.ret Tryz.func116 tabOk ext116Ok mixed false [] tys116 [true, true, false] (a1 trivial (a1 b0 (a1 trivial (a1 b1 (a1 trivial (a1 b2 trivial)))))) (by kernel_rfl)
    · try simp only [if_neg b1] at h ⊢
      replace b1 := Bool.eq_false_iff.2 b1
      exact AtV.ret Tryz.func116 tabOk ext116Ok mixed false [] tys116 [true, false, false] (a1 trivial (a1 b0 (a1 trivial (a1 b1 (a1 (rfl : false = false) trivial))))) (by kernel_rfl)
  · try simp only [if_neg b0] at h ⊢
    replace b0 := Bool.eq_false_iff.2 b0
    exact AtV.ret Tryz.func116 tabOk ext116Ok mixed false [] tys116 [false, false, false] (a1 trivial (a1 b0 (a1 (rfl : false = false) (a1 (rfl : false = false) trivial)))) (by kernel_rfl)
def S116 : Am.Spec := { sig := sig116, pre := fun ⟨x0, _⟩ => P116 x0, res := fun ⟨x0, _⟩ => [⟨Ty.bool, g116_0 x0⟩], kds := kds116 }
theorem con116 : Contract Tryz.prog 116 S116 := contract_of Tryz.func116 hb116 (Nat.le_of_ble_eq_true (by kernel_rfl)) (fun ⟨x0, _⟩ h _ K q => at116 x0 h K q)
end
noncomputable section
def ext77 : Ext := [(116, S116)]
theorem ext77Ok : ExtOk Tryz.prog ext77 := ⟨⟨ca116, con116⟩, trivial⟩
noncomputable def b77 : Code := bodyOf Tryz.f77
theorem hb77 : Tryz.f77.body = some b77 := by kernel_rfl
def sig77 : List AT := [AT.v (Ty.sl YA5)]
def tys77 : List Ty := [Ty.bool]
def kds77 : List RK := []
def oks77 : List AT := owns sig77
def E77_2 (v3 : Int) (x0 : List TyB1) : Env := [(0, PV.a (Atom.sl YA5 x0)), (3, PV.a (Atom.val (Value.int .i64 v3)))]
def L77_2 (v3 : Int) (x0 : List TyB1) : Heap := []
mutual
def R77 : Nat → List TyB1 → List Dyn → Prop
  | 0, _, _ => False
  | n + 1, x0, ds => (R77_2 n (0) (x0) ds)
def R77_2 : Nat → Int → List TyB1 → List Dyn → Prop
  | 0, _, _, _ => False
  | n + 1, v3, x0, ds => (if (decide (v3 < (↑(List.length x0) : Int))) = true then ((0 ≤ v3) ∧ (v3 < (↑(List.length x0) : Int)) ∧ (if (!g116_0 (List.getD x0 (Int.toNat v3) (ByteArray.empty, 0, 0, ()))) = true then (ds = [Dyn.mk Ty.bool false]) else (if (decide (v3 > 0)) = true then ((InR .i64 (v3 - 1)) ∧ ((0 ≤ v3 - 1) ∧ (v3 - 1 < (↑(List.length x0) : Int)) ∧ ((0 ≤ v3) ∧ (v3 < (↑(List.length x0) : Int)) ∧ (if (!Op.bytesLess (ByteArray.toList (List.getD x0 (Int.toNat (v3 - 1)) (ByteArray.empty, 0, 0, ())).1) (ByteArray.toList (List.getD x0 (Int.toNat v3) (ByteArray.empty, 0, 0, ())).1)) = true then (ds = [Dyn.mk Ty.bool false]) else ((InR .i64 (v3 + 1)) ∧ (R77_2 n (v3 + 1) (x0) ds)))))) else ((InR .i64 (v3 + 1)) ∧ (R77_2 n (v3 + 1) (x0) ds))))) else (ds = [Dyn.mk Ty.bool (decide ((↑(List.length x0) : Int) ≤ 12))]))
end
theorem snd77 : ∀ n, (∀ (x0 : List TyB1) ds, R77 n x0 ds → ∀ K q, AtV Tryz.prog 77 (PostR kds77 oks77 ds [] [] q K) 36 K q [] [.code b77] (entE 0 0 sig77 (x0, ())) (entL sig77 (x0, ()))) ∧ (∀ (v3 : Int) (x0 : List TyB1) ds, R77_2 n v3 x0 ds → ∀ K q, AtV Tryz.prog 77 (PostR kds77 oks77 ds [] [] q K) 36 K q [] (cutAt b77 2) (E77_2 v3 x0) (L77_2 v3 x0)) := by
  intro n
  induction n with
  | zero => exact ⟨fun _ _ h => by simp only [R77] at h, fun _ _ _ h => by simp only [R77_2] at h⟩
  | succ n ih =>
  obtain ⟨ih, ih2⟩ := ih
  refine ⟨?_, ?_⟩
  · intro x0 ds h K q
    rw [R77] at h
    exact AtV.go tabOk ext77Ok mixed false [] [] [0, 3] [] [] trivial (ih2 _ _ _ h K q) (by kernel_rfl)
  · intro v3 x0 ds h K q
    rw [R77_2] at h
    by_cases b0 : (decide (v3 < (↑(List.length x0) : Int))) = true
    · rw [if_pos b0] at h
      obtain ⟨s0, s1, h⟩ := h
      by_cases b1 : (!g116_0 (List.getD x0 (Int.toNat v3) (ByteArray.empty, 0, 0, ()))) = true
      · rw [if_pos b1] at h
        subst h
        exact AtV.ret Tryz.func77 tabOk ext77Ok mixed false [] tys77 [true, true, true] (a1 b0 (a1 s0 (a1 s1 (a1 trivial (a1 b1 (a1 (rfl : true = true) trivial)))))) (by kernel_rfl)
      · rw [if_neg b1] at h
        replace b1 := Bool.eq_false_iff.2 b1
        by_cases b2 : (decide (v3 > 0)) = true
        · rw [if_pos b2] at h
          obtain ⟨s2, h⟩ := h
          obtain ⟨s3, s4, h⟩ := h
          obtain ⟨s5, s6, h⟩ := h
          by_cases b3 : (!Op.bytesLess (ByteArray.toList (List.getD x0 (Int.toNat (v3 - 1)) (ByteArray.empty, 0, 0, ())).1) (ByteArray.toList (List.getD x0 (Int.toNat v3) (ByteArray.empty, 0, 0, ())).1)) = true
          · rw [if_pos b3] at h
            subst h
            exact AtV.ret Tryz.func77 tabOk ext77Ok mixed false [] tys77 [true, false, true, true] (a1 b0 (a1 s0 (a1 s1 (a1 trivial (a1 b1 (a1 b2 (a1 s2 (a1 s3 (a1 s4 (a1 s5 (a1 s6 (a1 b3 trivial)))))))))))) (by kernel_rfl)
          · rw [if_neg b3] at h
            replace b3 := Bool.eq_false_iff.2 b3
            obtain ⟨s7, h⟩ := h
            exact AtV.go tabOk ext77Ok mixed false [] [] [0, 3] [] [true, false, true, false] (a1 b0 (a1 s0 (a1 s1 (a1 trivial (a1 b1 (a1 b2 (a1 s2 (a1 s3 (a1 s4 (a1 s5 (a1 s6 (a1 b3 (a1 s7 trivial))))))))))))) (ih2 _ _ _ h K q) (by kernel_rfl)
        · rw [if_neg b2] at h
          replace b2 := Bool.eq_false_iff.2 b2
          obtain ⟨s2, h⟩ := h
          exact AtV.go tabOk ext77Ok mixed false [] [] [0, 3] [] [true, false, false, false] (a1 b0 (a1 s0 (a1 s1 (a1 trivial (a1 b1 (a1 b2 (a1 (rfl : false = false) (a1 s2 trivial)))))))) (ih2 _ _ _ h K q) (by kernel_rfl)
    · rw [if_neg b0] at h
      replace b0 := Bool.eq_false_iff.2 b0
      subst h
      exact AtV.ret Tryz.func77 tabOk ext77Ok mixed false [] tys77 [false] (a1 b0 trivial) (by kernel_rfl)
def ok77 (x0 : List TyB1) (i : Nat) (x : TyB1) : Bool :=
  g116_0 x && (i == 0 || Op.bytesLess (ByteArray.toList (x0.getD (i - 1) (ByteArray.empty, (0 : Int), (0 : Int), ())).1) (ByteArray.toList x.1))
def g77_0 (x0 : List TyB1) : Bool := allI (ok77 x0) 0 x0 && decide (x0.length ≤ 12)
def P77 (x0 : List TyB1) : Prop := True
theorem step77 (n i : Nat) (x0 : List TyB1) (hm : x0.length ≤ maxLen) (hi : i < x0.length) (ds : List Dyn) :
    (if ok77 x0 i (x0.getD i (ByteArray.empty, (0 : Int), (0 : Int), ())) = true then R77_2 n ((i : Int) + 1) x0 ds else ds = [⟨.bool, false⟩]) → R77_2 (n + 1) (i : Int) x0 ds := by
  intro h
  have hu := inR_up hm hi
  rw [R77_2, if_pos (by simp; omega)]
  refine ⟨by omega, by omega, ?_⟩
  simp only [Int.toNat_natCast]
  unfold ok77 at h
  cases h1 : g116_0 (x0.getD i (ByteArray.empty, (0 : Int), (0 : Int), ())) with
  | false =>
    rw [h1] at h
    rw [if_pos (by rfl)]
    simpa using h
  | true =>
    rw [h1] at h
    rw [if_neg (by simp)]
    by_cases h0 : (i : Int) > 0
    · rw [if_pos (by simpa using h0)]
      have hi0 : (i == 0) = false := by simp; omega
      have e : ((i : Int) - 1).toNat = i - 1 := by omega
      refine ⟨by rw [i64_iff]; have : maxLen ≤ 9223372036854775807 := by decide
                 omega, by omega, by omega, by omega, by omega, ?_⟩
      rw [e]
      by_cases h2 : Op.bytesLess (ByteArray.toList (x0.getD (i - 1) (ByteArray.empty, (0 : Int), (0 : Int), ())).1) (ByteArray.toList (x0.getD i (ByteArray.empty, (0 : Int), (0 : Int), ())).1) = true
      · rw [h2, hi0] at h
        rw [if_neg (by rw [h2]; simp)]
        exact ⟨hu, by simpa using h⟩
      · have h2 := Bool.eq_false_iff.2 h2
        rw [h2, hi0] at h
        rw [if_pos (by rw [h2]; rfl)]
        simpa using h
    · rw [if_neg (by simpa using h0)]
      have hi0 : (i == 0) = true := by simp; omega
      rw [hi0] at h
      exact ⟨hu, by simpa using h⟩
theorem top77 (x0 : List TyB1) (hw : x0.length ≤ maxLen) : R77 (x0.length + 1 + 1) x0 [⟨.bool, g77_0 x0⟩] := by
  rw [R77]
  have key := loop_testI x0 (ByteArray.empty, (0 : Int), (0 : Int), ()) (ok77 x0) [(⟨.bool, false⟩ : Dyn)] [⟨.bool, decide (x0.length ≤ 12)⟩] (fun n i ds => R77_2 n i x0 ds) (fun n => ?_) (fun n i hi hok ds hr => ?_) (fun n i hi hok => ?_)
  · unfold g77_0
    cases h : allI (ok77 x0) 0 x0 with
    | true => rw [if_pos h] at key; simpa using key
    | false => rw [if_neg (by rw [h]; simp)] at key; simpa using key
  · rw [R77_2, if_neg (by simp)]
    have hc : decide ((x0.length : Int) ≤ 12) = decide (x0.length ≤ 12) := by
      congr 1; exact propext ⟨fun h => by omega, fun h => by omega⟩
    rw [hc]
  · exact step77 n i x0 hw hi ds (by rw [if_pos hok]; exact hr)
  · exact step77 n i x0 hw hi _ (by rw [if_neg (by rw [hok]; simp)])
def S77 : Am.Spec := { sig := sig77, pre := fun ⟨x0, _⟩ => P77 x0, res := fun ⟨x0, _⟩ => [⟨Ty.bool, g77_0 x0⟩] }
theorem con77 : Contract Tryz.prog 77 S77 := contract_of Tryz.func77 hb77 (Nat.le_of_ble_eq_true (by kernel_rfl)) (fun ⟨x0, _⟩ h hwf K q =>
  (snd77 _).1 x0 _ (top77 x0 hwf.1.1) K q)
end
noncomputable section
def ext78 : Ext := [(113, S113)]
theorem ext78Ok : ExtOk Tryz.prog ext78 := ⟨⟨ca113, con113⟩, trivial⟩
noncomputable def b78 : Code := bodyOf Tryz.f78
theorem hb78 : Tryz.f78.body = some b78 := by kernel_rfl
def sig78 : List AT := [AT.p YA2]
def tys78 : List Ty := [Ty.bool]
def kds78 : List RK := []
def oks78 : List AT := owns sig78
def P78 (x0 : Int × Int × Int × Int × Unit) : Prop := True
def g78_0 (x0 : Int × Int × Int × Int × Unit) : Bool := (if (g113_0 x0.1 1 20000) = true then (if (g113_0 x0.2.1 1 1000) = true then (if (g113_0 x0.2.2.1 0 10000000) = true then g113_0 x0.2.2.2.1 0 1000 else false) else false) else false)
theorem at78 (x0 : Int × Int × Int × Int × Unit) (h : P78 x0) (K : Ctx) (q : Nat → Value) : AtV Tryz.prog 78 (PostR kds78 oks78 [⟨Ty.bool, g78_0 x0⟩] [] [] q K) 29 K q [] [.code b78] (entE 0 0 sig78 (x0, ())) (entL sig78 (x0, ())) := by
  unfold P78 at h
  unfold g78_0
  by_cases b0 : (g113_0 x0.1 1 20000) = true
  · try simp only [if_pos b0] at h ⊢
    by_cases b1 : (g113_0 x0.2.1 1 1000) = true
    · try simp only [if_pos b1] at h ⊢
      by_cases b2 : (g113_0 x0.2.2.1 0 10000000) = true
      · try simp only [if_pos b2] at h ⊢
        exact AtV.ret Tryz.func78 tabOk ext78Ok mixed false [] tys78 [true, true, true] (a1 trivial (a1 b0 (a1 trivial (a1 b1 (a1 trivial (a1 b2 (a1 trivial trivial))))))) (by kernel_rfl)
      · try simp only [if_neg b2] at h ⊢
        replace b2 := Bool.eq_false_iff.2 b2
        exact AtV.ret Tryz.func78 tabOk ext78Ok mixed false [] tys78 [true, true, false] (a1 trivial (a1 b0 (a1 trivial (a1 b1 (a1 trivial (a1 b2 trivial)))))) (by kernel_rfl)
    · try simp only [if_neg b1] at h ⊢
      replace b1 := Bool.eq_false_iff.2 b1
      exact AtV.ret Tryz.func78 tabOk ext78Ok mixed false [] tys78 [true, false, false] (a1 trivial (a1 b0 (a1 trivial (a1 b1 (a1 (rfl : false = false) trivial))))) (by kernel_rfl)
  · try simp only [if_neg b0] at h ⊢
    replace b0 := Bool.eq_false_iff.2 b0
    exact AtV.ret Tryz.func78 tabOk ext78Ok mixed false [] tys78 [false, false, false] (a1 trivial (a1 b0 (a1 (rfl : false = false) (a1 (rfl : false = false) trivial)))) (by kernel_rfl)
def S78 : Am.Spec := { sig := sig78, pre := fun ⟨x0, _⟩ => P78 x0, res := fun ⟨x0, _⟩ => [⟨Ty.bool, g78_0 x0⟩], kds := kds78 }
theorem con78 : Contract Tryz.prog 78 S78 := contract_of Tryz.func78 hb78 (Nat.le_of_ble_eq_true (by kernel_rfl)) (fun ⟨x0, _⟩ h _ K q => at78 x0 h K q)
end
noncomputable section
def ext117 : Ext := [(137, S137), (113, S113)]
theorem ext117Ok : ExtOk Tryz.prog ext117 := ⟨⟨ca137, con137⟩, ⟨ca113, con113⟩, trivial⟩
noncomputable def b117 : Code := bodyOf Tryz.f117
theorem hb117 : Tryz.f117.body = some b117 := by kernel_rfl
def sig117 : List AT := [AT.p YA3]
def tys117 : List Ty := [Ty.bool]
def kds117 : List RK := []
def oks117 : List AT := owns sig117
def P117 (x0 : ByteArray × Int × Int × Int × Unit) : Prop := True
def g117_0 (x0 : ByteArray × Int × Int × Int × Unit) : Bool := (if (g137_0 x0.1) = true then (if (g113_0 x0.2.1 0 100000) = true then (if (g113_0 x0.2.2.1 1 1000) = true then g113_0 x0.2.2.2.1 1 400 else false) else false) else false)
theorem at117 (x0 : ByteArray × Int × Int × Int × Unit) (h : P117 x0) (K : Ctx) (q : Nat → Value) : AtV Tryz.prog 117 (PostR kds117 oks117 [⟨Ty.bool, g117_0 x0⟩] [] [] q K) 29 K q [] [.code b117] (entE 0 0 sig117 (x0, ())) (entL sig117 (x0, ())) := by
  unfold P117 at h
  unfold g117_0
  by_cases b0 : (g137_0 x0.1) = true
  · try simp only [if_pos b0] at h ⊢
    by_cases b1 : (g113_0 x0.2.1 0 100000) = true
    · try simp only [if_pos b1] at h ⊢
      by_cases b2 : (g113_0 x0.2.2.1 1 1000) = true
      · try simp only [if_pos b2] at h ⊢
        exact AtV.ret Tryz.func117 tabOk ext117Ok mixed false [] tys117 [true, true, true] (a1 trivial (a1 b0 (a1 trivial (a1 b1 (a1 trivial (a1 b2 (a1 trivial trivial))))))) (by kernel_rfl)
      · try simp only [if_neg b2] at h ⊢
        replace b2 := Bool.eq_false_iff.2 b2
        exact AtV.ret Tryz.func117 tabOk ext117Ok mixed false [] tys117 [true, true, false] (a1 trivial (a1 b0 (a1 trivial (a1 b1 (a1 trivial (a1 b2 trivial)))))) (by kernel_rfl)
    · try simp only [if_neg b1] at h ⊢
      replace b1 := Bool.eq_false_iff.2 b1
      exact AtV.ret Tryz.func117 tabOk ext117Ok mixed false [] tys117 [true, false, false] (a1 trivial (a1 b0 (a1 trivial (a1 b1 (a1 (rfl : false = false) trivial))))) (by kernel_rfl)
  · try simp only [if_neg b0] at h ⊢
    replace b0 := Bool.eq_false_iff.2 b0
    exact AtV.ret Tryz.func117 tabOk ext117Ok mixed false [] tys117 [false, false, false] (a1 trivial (a1 b0 (a1 (rfl : false = false) (a1 (rfl : false = false) trivial)))) (by kernel_rfl)
def S117 : Am.Spec := { sig := sig117, pre := fun ⟨x0, _⟩ => P117 x0, res := fun ⟨x0, _⟩ => [⟨Ty.bool, g117_0 x0⟩], kds := kds117 }
theorem con117 : Contract Tryz.prog 117 S117 := contract_of Tryz.func117 hb117 (Nat.le_of_ble_eq_true (by kernel_rfl)) (fun ⟨x0, _⟩ h _ K q => at117 x0 h K q)
end
noncomputable section
def ext79 : Ext := [(117, S117)]
theorem ext79Ok : ExtOk Tryz.prog ext79 := ⟨⟨ca117, con117⟩, trivial⟩
noncomputable def b79 : Code := bodyOf Tryz.f79
theorem hb79 : Tryz.f79.body = some b79 := by kernel_rfl
def sig79 : List AT := [AT.v (Ty.sl YA3)]
def tys79 : List Ty := [Ty.bool]
def kds79 : List RK := []
def oks79 : List AT := owns sig79
def E79_2 (v3 : Int) (x0 : List TyB0) : Env := [(0, PV.a (Atom.sl YA3 x0)), (3, PV.a (Atom.val (Value.int .i64 v3)))]
def L79_2 (v3 : Int) (x0 : List TyB0) : Heap := []
mutual
def R79 : Nat → List TyB0 → List Dyn → Prop
  | 0, _, _ => False
  | n + 1, x0, ds => (R79_2 n (0) (x0) ds)
def R79_2 : Nat → Int → List TyB0 → List Dyn → Prop
  | 0, _, _, _ => False
  | n + 1, v3, x0, ds => (if (decide (v3 < (↑(List.length x0) : Int))) = true then ((0 ≤ v3) ∧ (v3 < (↑(List.length x0) : Int)) ∧ (if (!g117_0 (List.getD x0 (Int.toNat v3) (ByteArray.empty, 0, 0, 0, ()))) = true then (ds = [Dyn.mk Ty.bool false]) else (if (decide (v3 > 0)) = true then ((InR .i64 (v3 - 1)) ∧ ((0 ≤ v3 - 1) ∧ (v3 - 1 < (↑(List.length x0) : Int)) ∧ ((0 ≤ v3) ∧ (v3 < (↑(List.length x0) : Int)) ∧ (if (!Op.bytesLess (ByteArray.toList (List.getD x0 (Int.toNat (v3 - 1)) (ByteArray.empty, 0, 0, 0, ())).1) (ByteArray.toList (List.getD x0 (Int.toNat v3) (ByteArray.empty, 0, 0, 0, ())).1)) = true then (ds = [Dyn.mk Ty.bool false]) else ((InR .i64 (v3 + 1)) ∧ (R79_2 n (v3 + 1) (x0) ds)))))) else ((InR .i64 (v3 + 1)) ∧ (R79_2 n (v3 + 1) (x0) ds))))) else (ds = [Dyn.mk Ty.bool (decide ((↑(List.length x0) : Int) ≤ 8))]))
end
theorem snd79 : ∀ n, (∀ (x0 : List TyB0) ds, R79 n x0 ds → ∀ K q, AtV Tryz.prog 79 (PostR kds79 oks79 ds [] [] q K) 36 K q [] [.code b79] (entE 0 0 sig79 (x0, ())) (entL sig79 (x0, ()))) ∧ (∀ (v3 : Int) (x0 : List TyB0) ds, R79_2 n v3 x0 ds → ∀ K q, AtV Tryz.prog 79 (PostR kds79 oks79 ds [] [] q K) 36 K q [] (cutAt b79 2) (E79_2 v3 x0) (L79_2 v3 x0)) := by
  intro n
  induction n with
  | zero => exact ⟨fun _ _ h => by simp only [R79] at h, fun _ _ _ h => by simp only [R79_2] at h⟩
  | succ n ih =>
  obtain ⟨ih, ih2⟩ := ih
  refine ⟨?_, ?_⟩
  · intro x0 ds h K q
    rw [R79] at h
    exact AtV.go tabOk ext79Ok mixed false [] [] [0, 3] [] [] trivial (ih2 _ _ _ h K q) (by kernel_rfl)
  · intro v3 x0 ds h K q
    rw [R79_2] at h
    by_cases b0 : (decide (v3 < (↑(List.length x0) : Int))) = true
    · rw [if_pos b0] at h
      obtain ⟨s0, s1, h⟩ := h
      by_cases b1 : (!g117_0 (List.getD x0 (Int.toNat v3) (ByteArray.empty, 0, 0, 0, ()))) = true
      · rw [if_pos b1] at h
        subst h
        exact AtV.ret Tryz.func79 tabOk ext79Ok mixed false [] tys79 [true, true, true] (a1 b0 (a1 s0 (a1 s1 (a1 trivial (a1 b1 (a1 (rfl : true = true) trivial)))))) (by kernel_rfl)
      · rw [if_neg b1] at h
        replace b1 := Bool.eq_false_iff.2 b1
        by_cases b2 : (decide (v3 > 0)) = true
        · rw [if_pos b2] at h
          obtain ⟨s2, h⟩ := h
          obtain ⟨s3, s4, h⟩ := h
          obtain ⟨s5, s6, h⟩ := h
          by_cases b3 : (!Op.bytesLess (ByteArray.toList (List.getD x0 (Int.toNat (v3 - 1)) (ByteArray.empty, 0, 0, 0, ())).1) (ByteArray.toList (List.getD x0 (Int.toNat v3) (ByteArray.empty, 0, 0, 0, ())).1)) = true
          · rw [if_pos b3] at h
            subst h
            exact AtV.ret Tryz.func79 tabOk ext79Ok mixed false [] tys79 [true, false, true, true] (a1 b0 (a1 s0 (a1 s1 (a1 trivial (a1 b1 (a1 b2 (a1 s2 (a1 s3 (a1 s4 (a1 s5 (a1 s6 (a1 b3 trivial)))))))))))) (by kernel_rfl)
          · rw [if_neg b3] at h
            replace b3 := Bool.eq_false_iff.2 b3
            obtain ⟨s7, h⟩ := h
            exact AtV.go tabOk ext79Ok mixed false [] [] [0, 3] [] [true, false, true, false] (a1 b0 (a1 s0 (a1 s1 (a1 trivial (a1 b1 (a1 b2 (a1 s2 (a1 s3 (a1 s4 (a1 s5 (a1 s6 (a1 b3 (a1 s7 trivial))))))))))))) (ih2 _ _ _ h K q) (by kernel_rfl)
        · rw [if_neg b2] at h
          replace b2 := Bool.eq_false_iff.2 b2
          obtain ⟨s2, h⟩ := h
          exact AtV.go tabOk ext79Ok mixed false [] [] [0, 3] [] [true, false, false, false] (a1 b0 (a1 s0 (a1 s1 (a1 trivial (a1 b1 (a1 b2 (a1 (rfl : false = false) (a1 s2 trivial)))))))) (ih2 _ _ _ h K q) (by kernel_rfl)
    · rw [if_neg b0] at h
      replace b0 := Bool.eq_false_iff.2 b0
      subst h
      exact AtV.ret Tryz.func79 tabOk ext79Ok mixed false [] tys79 [false] (a1 b0 trivial) (by kernel_rfl)
def ok79 (x0 : List TyB0) (i : Nat) (x : TyB0) : Bool :=
  g117_0 x && (i == 0 || Op.bytesLess (ByteArray.toList (x0.getD (i - 1) (ByteArray.empty, (0 : Int), (0 : Int), (0 : Int), ())).1) (ByteArray.toList x.1))
def g79_0 (x0 : List TyB0) : Bool := allI (ok79 x0) 0 x0 && decide (x0.length ≤ 8)
def P79 (x0 : List TyB0) : Prop := True
theorem step79 (n i : Nat) (x0 : List TyB0) (hm : x0.length ≤ maxLen) (hi : i < x0.length) (ds : List Dyn) :
    (if ok79 x0 i (x0.getD i (ByteArray.empty, (0 : Int), (0 : Int), (0 : Int), ())) = true then R79_2 n ((i : Int) + 1) x0 ds else ds = [⟨.bool, false⟩]) → R79_2 (n + 1) (i : Int) x0 ds := by
  intro h
  have hu := inR_up hm hi
  rw [R79_2, if_pos (by simp; omega)]
  refine ⟨by omega, by omega, ?_⟩
  simp only [Int.toNat_natCast]
  unfold ok79 at h
  cases h1 : g117_0 (x0.getD i (ByteArray.empty, (0 : Int), (0 : Int), (0 : Int), ())) with
  | false =>
    rw [h1] at h
    rw [if_pos (by rfl)]
    simpa using h
  | true =>
    rw [h1] at h
    rw [if_neg (by simp)]
    by_cases h0 : (i : Int) > 0
    · rw [if_pos (by simpa using h0)]
      have hi0 : (i == 0) = false := by simp; omega
      have e : ((i : Int) - 1).toNat = i - 1 := by omega
      refine ⟨by rw [i64_iff]; have : maxLen ≤ 9223372036854775807 := by decide
                 omega, by omega, by omega, by omega, by omega, ?_⟩
      rw [e]
      by_cases h2 : Op.bytesLess (ByteArray.toList (x0.getD (i - 1) (ByteArray.empty, (0 : Int), (0 : Int), (0 : Int), ())).1) (ByteArray.toList (x0.getD i (ByteArray.empty, (0 : Int), (0 : Int), (0 : Int), ())).1) = true
      · rw [h2, hi0] at h
        rw [if_neg (by rw [h2]; simp)]
        exact ⟨hu, by simpa using h⟩
      · have h2 := Bool.eq_false_iff.2 h2
        rw [h2, hi0] at h
        rw [if_pos (by rw [h2]; rfl)]
        simpa using h
    · rw [if_neg (by simpa using h0)]
      have hi0 : (i == 0) = true := by simp; omega
      rw [hi0] at h
      exact ⟨hu, by simpa using h⟩
theorem top79 (x0 : List TyB0) (hw : x0.length ≤ maxLen) : R79 (x0.length + 1 + 1) x0 [⟨.bool, g79_0 x0⟩] := by
  rw [R79]
  have key := loop_testI x0 (ByteArray.empty, (0 : Int), (0 : Int), (0 : Int), ()) (ok79 x0) [(⟨.bool, false⟩ : Dyn)] [⟨.bool, decide (x0.length ≤ 8)⟩] (fun n i ds => R79_2 n i x0 ds) (fun n => ?_) (fun n i hi hok ds hr => ?_) (fun n i hi hok => ?_)
  · unfold g79_0
    cases h : allI (ok79 x0) 0 x0 with
    | true => rw [if_pos h] at key; simpa using key
    | false => rw [if_neg (by rw [h]; simp)] at key; simpa using key
  · rw [R79_2, if_neg (by simp)]
    have hc : decide ((x0.length : Int) ≤ 8) = decide (x0.length ≤ 8) := by
      congr 1; exact propext ⟨fun h => by omega, fun h => by omega⟩
    rw [hc]
  · exact step79 n i x0 hw hi ds (by rw [if_pos hok]; exact hr)
  · exact step79 n i x0 hw hi _ (by rw [if_neg (by rw [hok]; simp)])
def S79 : Am.Spec := { sig := sig79, pre := fun ⟨x0, _⟩ => P79 x0, res := fun ⟨x0, _⟩ => [⟨Ty.bool, g79_0 x0⟩] }
theorem con79 : Contract Tryz.prog 79 S79 := contract_of Tryz.func79 hb79 (Nat.le_of_ble_eq_true (by kernel_rfl)) (fun ⟨x0, _⟩ h hwf K q =>
  (snd79 _).1 x0 _ (top79 x0 hwf.1.1) K q)
end
noncomputable section
def ext159 : Ext := [(113, S113)]
theorem ext159Ok : ExtOk Tryz.prog ext159 := ⟨⟨ca113, con113⟩, trivial⟩
noncomputable def b159 : Code := bodyOf Tryz.f159
theorem hb159 : Tryz.f159.body = some b159 := by kernel_rfl
def sig159 : List AT := [AT.v (Ty.int .i64)]
def tys159 : List Ty := [Ty.bool]
def kds159 : List RK := []
def oks159 : List AT := owns sig159
def P159 (x0 : Int) : Prop := True
def g159_0 (x0 : Int) : Bool := g113_0 x0 0 36524
theorem at159 (x0 : Int) (h : P159 x0) (K : Ctx) (q : Nat → Value) : AtV Tryz.prog 159 (PostR kds159 oks159 [⟨Ty.bool, g159_0 x0⟩] [] [] q K) 5 K q [] [.code b159] (entE 0 0 sig159 (x0, ())) (entL sig159 (x0, ())) := by
  unfold P159 at h
  unfold g159_0
  exact AtV.ret Tryz.func159 tabOk ext159Ok mixed false [] tys159 [] (a1 trivial trivial) (by kernel_rfl)
def S159 : Am.Spec := { sig := sig159, pre := fun ⟨x0, _⟩ => P159 x0, res := fun ⟨x0, _⟩ => [⟨Ty.bool, g159_0 x0⟩], kds := kds159 }
theorem con159 : Contract Tryz.prog 159 S159 := contract_of Tryz.func159 hb159 (Nat.le_of_ble_eq_true (by kernel_rfl)) (fun ⟨x0, _⟩ h _ K q => at159 x0 h K q)
end
noncomputable section
def ext160 : Ext := [(113, S113)]
theorem ext160Ok : ExtOk Tryz.prog ext160 := ⟨⟨ca113, con113⟩, trivial⟩
noncomputable def b160 : Code := bodyOf Tryz.f160
theorem hb160 : Tryz.f160.body = some b160 := by kernel_rfl
def sig160 : List AT := [AT.v (Ty.int .i64)]
def tys160 : List Ty := [Ty.bool]
def kds160 : List RK := []
def oks160 : List AT := owns sig160
def P160 (x0 : Int) : Prop := True
def g160_0 (x0 : Int) : Bool := g113_0 x0 0 24000
theorem at160 (x0 : Int) (h : P160 x0) (K : Ctx) (q : Nat → Value) : AtV Tryz.prog 160 (PostR kds160 oks160 [⟨Ty.bool, g160_0 x0⟩] [] [] q K) 5 K q [] [.code b160] (entE 0 0 sig160 (x0, ())) (entL sig160 (x0, ())) := by
  unfold P160 at h
  unfold g160_0
  exact AtV.ret Tryz.func160 tabOk ext160Ok mixed false [] tys160 [] (a1 trivial trivial) (by kernel_rfl)
def S160 : Am.Spec := { sig := sig160, pre := fun ⟨x0, _⟩ => P160 x0, res := fun ⟨x0, _⟩ => [⟨Ty.bool, g160_0 x0⟩], kds := kds160 }
theorem con160 : Contract Tryz.prog 160 S160 := contract_of Tryz.func160 hb160 (Nat.le_of_ble_eq_true (by kernel_rfl)) (fun ⟨x0, _⟩ h _ K q => at160 x0 h K q)
end
noncomputable section
def ext140 : Ext := [(159, S159), (160, S160), (113, S113)]
theorem ext140Ok : ExtOk Tryz.prog ext140 := ⟨⟨ca159, con159⟩, ⟨ca160, con160⟩, ⟨ca113, con113⟩, trivial⟩
noncomputable def b140 : Code := bodyOf Tryz.f140
theorem hb140 : Tryz.f140.body = some b140 := by kernel_rfl
def sig140 : List AT := [AT.p YA4]
def tys140 : List Ty := [Ty.bool]
def kds140 : List RK := []
def oks140 : List AT := owns sig140
def P140 (x0 : Int × Int × Int × Unit) : Prop := True
def g140_0 (x0 : Int × Int × Int × Unit) : Bool := (if (g159_0 x0.1) = true then (if (g160_0 x0.2.1) = true then g113_0 x0.2.2.1 0 1000 else false) else false)
theorem at140 (x0 : Int × Int × Int × Unit) (h : P140 x0) (K : Ctx) (q : Nat → Value) : AtV Tryz.prog 140 (PostR kds140 oks140 [⟨Ty.bool, g140_0 x0⟩] [] [] q K) 22 K q [] [.code b140] (entE 0 0 sig140 (x0, ())) (entL sig140 (x0, ())) := by
  unfold P140 at h
  unfold g140_0
  by_cases b0 : (g159_0 x0.1) = true
  · try simp only [if_pos b0] at h ⊢
    by_cases b1 : (g160_0 x0.2.1) = true
    · try simp only [if_pos b1] at h ⊢
      exact AtV.ret Tryz.func140 tabOk ext140Ok mixed false [] tys140 [true, true] (a1 trivial (a1 b0 (a1 trivial (a1 b1 (a1 trivial trivial))))) (by kernel_rfl)
    · try simp only [if_neg b1] at h ⊢
      replace b1 := Bool.eq_false_iff.2 b1
      exact AtV.ret Tryz.func140 tabOk ext140Ok mixed false [] tys140 [true, false] (a1 trivial (a1 b0 (a1 trivial (a1 b1 trivial)))) (by kernel_rfl)
  · try simp only [if_neg b0] at h ⊢
    replace b0 := Bool.eq_false_iff.2 b0
    exact AtV.ret Tryz.func140 tabOk ext140Ok mixed false [] tys140 [false, false] (a1 trivial (a1 b0 (a1 (rfl : false = false) trivial))) (by kernel_rfl)
def S140 : Am.Spec := { sig := sig140, pre := fun ⟨x0, _⟩ => P140 x0, res := fun ⟨x0, _⟩ => [⟨Ty.bool, g140_0 x0⟩], kds := kds140 }
theorem con140 : Contract Tryz.prog 140 S140 := contract_of Tryz.func140 hb140 (Nat.le_of_ble_eq_true (by kernel_rfl)) (fun ⟨x0, _⟩ h _ K q => at140 x0 h K q)
end
noncomputable section
def ext118 : Ext := [(140, S140)]
theorem ext118Ok : ExtOk Tryz.prog ext118 := ⟨⟨ca140, con140⟩, trivial⟩
noncomputable def b118 : Code := bodyOf Tryz.f118
theorem hb118 : Tryz.f118.body = some b118 := by kernel_rfl
def sig118 : List AT := [AT.v (Ty.sl YA4)]
def tys118 : List Ty := [Ty.bool]
def kds118 : List RK := []
def oks118 : List AT := owns sig118
def E118_2 (v3 : Int) (x0 : List TyB2) : Env := [(0, PV.a (Atom.sl YA4 x0)), (3, PV.a (Atom.val (Value.int .i64 v3)))]
def L118_2 (v3 : Int) (x0 : List TyB2) : Heap := []
mutual
def R118 : Nat → List TyB2 → List Dyn → Prop
  | 0, _, _ => False
  | n + 1, x0, ds => (R118_2 n (0) (x0) ds)
def R118_2 : Nat → Int → List TyB2 → List Dyn → Prop
  | 0, _, _, _ => False
  | n + 1, v3, x0, ds => (if (decide (v3 < (↑(List.length x0) : Int))) = true then ((0 ≤ v3) ∧ (v3 < (↑(List.length x0) : Int)) ∧ (if (!g140_0 (List.getD x0 (Int.toNat v3) (0, 0, 0, ()))) = true then (ds = [Dyn.mk Ty.bool false]) else (if (decide (v3 > 0)) = true then ((InR .i64 (v3 - 1)) ∧ ((0 ≤ v3 - 1) ∧ (v3 - 1 < (↑(List.length x0) : Int)) ∧ ((0 ≤ v3) ∧ (v3 < (↑(List.length x0) : Int)) ∧ (if (decide ((List.getD x0 (Int.toNat (v3 - 1)) (0, 0, 0, ())).1 ≥ (List.getD x0 (Int.toNat v3) (0, 0, 0, ())).1)) = true then (ds = [Dyn.mk Ty.bool false]) else ((InR .i64 (v3 - 1)) ∧ ((0 ≤ v3 - 1) ∧ (v3 - 1 < (↑(List.length x0) : Int)) ∧ ((0 ≤ v3) ∧ (v3 < (↑(List.length x0) : Int)) ∧ (if (decide ((List.getD x0 (Int.toNat (v3 - 1)) (0, 0, 0, ())).2.1 > (List.getD x0 (Int.toNat v3) (0, 0, 0, ())).2.1)) = true then (ds = [Dyn.mk Ty.bool false]) else ((InR .i64 (v3 - 1)) ∧ ((0 ≤ v3 - 1) ∧ (v3 - 1 < (↑(List.length x0) : Int)) ∧ ((0 ≤ v3) ∧ (v3 < (↑(List.length x0) : Int)) ∧ (if (decide ((List.getD x0 (Int.toNat (v3 - 1)) (0, 0, 0, ())).2.2.1 > (List.getD x0 (Int.toNat v3) (0, 0, 0, ())).2.2.1)) = true then (ds = [Dyn.mk Ty.bool false]) else ((InR .i64 (v3 + 1)) ∧ (R118_2 n (v3 + 1) (x0) ds)))))))))))))) else ((InR .i64 (v3 + 1)) ∧ (R118_2 n (v3 + 1) (x0) ds))))) else (ds = [Dyn.mk Ty.bool true]))
end
theorem snd118 : ∀ n, (∀ (x0 : List TyB2) ds, R118 n x0 ds → ∀ K q, AtV Tryz.prog 118 (PostR kds118 oks118 ds [] [] q K) 59 K q [] [.code b118] (entE 0 0 sig118 (x0, ())) (entL sig118 (x0, ()))) ∧ (∀ (v3 : Int) (x0 : List TyB2) ds, R118_2 n v3 x0 ds → ∀ K q, AtV Tryz.prog 118 (PostR kds118 oks118 ds [] [] q K) 59 K q [] (cutAt b118 2) (E118_2 v3 x0) (L118_2 v3 x0)) := by
  intro n
  induction n with
  | zero => exact ⟨fun _ _ h => by simp only [R118] at h, fun _ _ _ h => by simp only [R118_2] at h⟩
  | succ n ih =>
  obtain ⟨ih, ih2⟩ := ih
  refine ⟨?_, ?_⟩
  · intro x0 ds h K q
    rw [R118] at h
    exact AtV.go tabOk ext118Ok mixed false [] [] [0, 3] [] [] trivial (ih2 _ _ _ h K q) (by kernel_rfl)
  · intro v3 x0 ds h K q
    rw [R118_2] at h
    by_cases b0 : (decide (v3 < (↑(List.length x0) : Int))) = true
    · rw [if_pos b0] at h
      obtain ⟨s0, s1, h⟩ := h
      by_cases b1 : (!g140_0 (List.getD x0 (Int.toNat v3) (0, 0, 0, ()))) = true
      · rw [if_pos b1] at h
        subst h
        exact AtV.ret Tryz.func118 tabOk ext118Ok mixed false [] tys118 [true, true] (a1 b0 (a1 s0 (a1 s1 (a1 trivial (a1 b1 trivial))))) (by kernel_rfl)
      · rw [if_neg b1] at h
        replace b1 := Bool.eq_false_iff.2 b1
        by_cases b2 : (decide (v3 > 0)) = true
        · rw [if_pos b2] at h
          obtain ⟨s2, h⟩ := h
          obtain ⟨s3, s4, h⟩ := h
          obtain ⟨s5, s6, h⟩ := h
          by_cases b3 : (decide ((List.getD x0 (Int.toNat (v3 - 1)) (0, 0, 0, ())).1 ≥ (List.getD x0 (Int.toNat v3) (0, 0, 0, ())).1)) = true
          · rw [if_pos b3] at h
            subst h
            exact AtV.ret Tryz.func118 tabOk ext118Ok mixed false [] tys118 [true, false, true, true, true, true] (a1 b0 (a1 s0 (a1 s1 (a1 trivial (a1 b1 (a1 b2 (a1 s2 (a1 s3 (a1 s4 (a1 s5 (a1 s6 (a1 b3 (a1 (rfl : true = true) (a1 (rfl : true = true) trivial)))))))))))))) (by kernel_rfl)
          · rw [if_neg b3] at h
            replace b3 := Bool.eq_false_iff.2 b3
            obtain ⟨s7, h⟩ := h
            obtain ⟨s8, s9, h⟩ := h
            obtain ⟨s10, s11, h⟩ := h
            by_cases b4 : (decide ((List.getD x0 (Int.toNat (v3 - 1)) (0, 0, 0, ())).2.1 > (List.getD x0 (Int.toNat v3) (0, 0, 0, ())).2.1)) = true
            · rw [if_pos b4] at h
              subst h
              exact AtV.ret Tryz.func118 tabOk ext118Ok mixed false [] tys118 [true, false, true, false, true, true] (a1 b0 (a1 s0 (a1 s1 (a1 trivial (a1 b1 (a1 b2 (a1 s2 (a1 s3 (a1 s4 (a1 s5 (a1 s6 (a1 b3 (a1 s7 (a1 s8 (a1 s9 (a1 s10 (a1 s11 (a1 b4 (a1 (rfl : true = true) trivial))))))))))))))))))) (by kernel_rfl)
            · rw [if_neg b4] at h
              replace b4 := Bool.eq_false_iff.2 b4
              obtain ⟨s12, h⟩ := h
              obtain ⟨s13, s14, h⟩ := h
              obtain ⟨s15, s16, h⟩ := h
              by_cases b5 : (decide ((List.getD x0 (Int.toNat (v3 - 1)) (0, 0, 0, ())).2.2.1 > (List.getD x0 (Int.toNat v3) (0, 0, 0, ())).2.2.1)) = true
              · rw [if_pos b5] at h
                subst h
                exact AtV.ret Tryz.func118 tabOk ext118Ok mixed false [] tys118 [true, false, true, false, false, true] (a1 b0 (a1 s0 (a1 s1 (a1 trivial (a1 b1 (a1 b2 (a1 s2 (a1 s3 (a1 s4 (a1 s5 (a1 s6 (a1 b3 (a1 s7 (a1 s8 (a1 s9 (a1 s10 (a1 s11 (a1 b4 (a1 s12 (a1 s13 (a1 s14 (a1 s15 (a1 s16 (a1 b5 trivial)))))))))))))))))))))))) (by kernel_rfl)
              · rw [if_neg b5] at h
                replace b5 := Bool.eq_false_iff.2 b5
                obtain ⟨s17, h⟩ := h
                exact AtV.go tabOk ext118Ok mixed false [] [] [0, 3] [] [true, false, true, false, false, false] (a1 b0 (a1 s0 (a1 s1 (a1 trivial (a1 b1 (a1 b2 (a1 s2 (a1 s3 (a1 s4 (a1 s5 (a1 s6 (a1 b3 (a1 s7 (a1 s8 (a1 s9 (a1 s10 (a1 s11 (a1 b4 (a1 s12 (a1 s13 (a1 s14 (a1 s15 (a1 s16 (a1 b5 (a1 s17 trivial))))))))))))))))))))))))) (ih2 _ _ _ h K q) (by kernel_rfl)
        · rw [if_neg b2] at h
          replace b2 := Bool.eq_false_iff.2 b2
          obtain ⟨s2, h⟩ := h
          exact AtV.go tabOk ext118Ok mixed false [] [] [0, 3] [] [true, false, false, false] (a1 b0 (a1 s0 (a1 s1 (a1 trivial (a1 b1 (a1 b2 (a1 (rfl : false = false) (a1 s2 trivial)))))))) (ih2 _ _ _ h K q) (by kernel_rfl)
    · rw [if_neg b0] at h
      replace b0 := Bool.eq_false_iff.2 b0
      subst h
      exact AtV.ret Tryz.func118 tabOk ext118Ok mixed false [] tys118 [false] (a1 b0 trivial) (by kernel_rfl)
def ord118 (y x : TyB2) : Bool := decide (y.1 < x.1) && decide (y.2.1 ≤ x.2.1) && decide (y.2.2.1 ≤ x.2.2.1)
def ok118 (x0 : List TyB2) (i : Nat) (x : TyB2) : Bool := g140_0 x && (i == 0 || ord118 (x0.getD (i - 1) ((0 : Int), (0 : Int), (0 : Int), ())) x)
def g118_0 (x0 : List TyB2) : Bool := allI (ok118 x0) 0 x0
def P118 (x0 : List TyB2) : Prop := True
theorem step118 (n i : Nat) (x0 : List TyB2) (hm : x0.length ≤ maxLen) (hi : i < x0.length) (ds : List Dyn)
    (h : if ok118 x0 i (x0.getD i ((0 : Int), (0 : Int), (0 : Int), ())) = true then R118_2 n ((i : Int) + 1) x0 ds else ds = [⟨.bool, false⟩]) : R118_2 (n + 1) (i : Int) x0 ds := by
  have hu := inR_up hm hi
  have hmx : maxLen ≤ 9223372036854775807 := by decide
  rw [R118_2, if_pos (by simp; omega)]
  refine ⟨by omega, by omega, ?_⟩
  simp only [Int.toNat_natCast]
  unfold ok118 ord118 at h
  by_cases hv : g140_0 (x0.getD i ((0 : Int), (0 : Int), (0 : Int), ())) = true
  case neg => rw [Bool.eq_false_iff.2 hv] at h; rw [if_pos (by rw [Bool.eq_false_iff.2 hv]; rfl)]; simpa using h
  rw [if_neg (by rw [hv]; simp)]
  rw [hv] at h
  by_cases h0 : (i : Int) > 0
  case neg =>
    rw [if_neg (by simpa using h0)]
    have hi0 : (i == 0) = true := by simp; omega
    rw [hi0] at h
    exact ⟨hu, by simpa using h⟩
  rw [if_pos (by simpa using h0)]
  have hi0 : (i == 0) = false := by simp; omega
  have e : ((i : Int) - 1).toNat = i - 1 := by omega
  have hd : InR .i64 ((i : Int) - 1) := by rw [i64_iff]; omega
  rw [hi0] at h
  simp only [e]
  refine ⟨hd, by omega, by omega, by omega, by omega, ?_⟩
  by_cases c0 : (x0.getD (i - 1) ((0 : Int), (0 : Int), (0 : Int), ())).1 ≥ (x0.getD i ((0 : Int), (0 : Int), (0 : Int), ())).1
  case pos =>
    rw [if_pos (decide_eq_true c0)]
    have : decide ((x0.getD (i - 1) ((0 : Int), (0 : Int), (0 : Int), ())).1 < (x0.getD i ((0 : Int), (0 : Int), (0 : Int), ())).1) = false := decide_eq_false (by omega)
    rw [this] at h
    simpa using h
  rw [if_neg (by simpa using c0)]
  refine ⟨hd, by omega, by omega, by omega, by omega, ?_⟩
  by_cases c1 : (x0.getD (i - 1) ((0 : Int), (0 : Int), (0 : Int), ())).2.1 > (x0.getD i ((0 : Int), (0 : Int), (0 : Int), ())).2.1
  case pos =>
    rw [if_pos (decide_eq_true c1)]
    have : decide ((x0.getD (i - 1) ((0 : Int), (0 : Int), (0 : Int), ())).2.1 ≤ (x0.getD i ((0 : Int), (0 : Int), (0 : Int), ())).2.1) = false := decide_eq_false (by omega)
    rw [this] at h
    simpa using h
  rw [if_neg (by simpa using c1)]
  refine ⟨hd, by omega, by omega, by omega, by omega, ?_⟩
  by_cases c2 : (x0.getD (i - 1) ((0 : Int), (0 : Int), (0 : Int), ())).2.2.1 > (x0.getD i ((0 : Int), (0 : Int), (0 : Int), ())).2.2.1
  case pos =>
    rw [if_pos (decide_eq_true c2)]
    have : decide ((x0.getD (i - 1) ((0 : Int), (0 : Int), (0 : Int), ())).2.2.1 ≤ (x0.getD i ((0 : Int), (0 : Int), (0 : Int), ())).2.2.1) = false := decide_eq_false (by omega)
    rw [this] at h
    simpa using h
  rw [if_neg (by simpa using c2)]
  have d0 : decide ((x0.getD (i - 1) ((0 : Int), (0 : Int), (0 : Int), ())).1 < (x0.getD i ((0 : Int), (0 : Int), (0 : Int), ())).1) = true := decide_eq_true (by omega)
  have d1 : decide ((x0.getD (i - 1) ((0 : Int), (0 : Int), (0 : Int), ())).2.1 ≤ (x0.getD i ((0 : Int), (0 : Int), (0 : Int), ())).2.1) = true := decide_eq_true (by omega)
  have d2 : decide ((x0.getD (i - 1) ((0 : Int), (0 : Int), (0 : Int), ())).2.2.1 ≤ (x0.getD i ((0 : Int), (0 : Int), (0 : Int), ())).2.2.1) = true := decide_eq_true (by omega)
  rw [d0, d1, d2] at h
  exact ⟨hu, by simpa using h⟩
theorem top118 (x0 : List TyB2) (hw : x0.length ≤ maxLen) : R118 (x0.length + 1 + 1) x0 [⟨.bool, g118_0 x0⟩] := by
  rw [R118]
  have key := loop_testI x0 ((0 : Int), (0 : Int), (0 : Int), ()) (ok118 x0) [(⟨.bool, false⟩ : Dyn)] [⟨.bool, true⟩] (fun n i ds => R118_2 n i x0 ds) (fun n => ?_) (fun n i hi hok ds hr => ?_) (fun n i hi hok => ?_)
  · unfold g118_0
    cases h : allI (ok118 x0) 0 x0 with
    | true => rw [if_pos h] at key; simpa using key
    | false => rw [if_neg (by rw [h]; simp)] at key; simpa using key
  · rw [R118_2, if_neg (by simp)]
  · exact step118 n i x0 hw hi ds (by rw [if_pos hok]; exact hr)
  · exact step118 n i x0 hw hi _ (by rw [if_neg (by rw [hok]; simp)])
def S118 : Am.Spec := { sig := sig118, pre := fun ⟨x0, _⟩ => P118 x0, res := fun ⟨x0, _⟩ => [⟨Ty.bool, g118_0 x0⟩] }
theorem con118 : Contract Tryz.prog 118 S118 := contract_of Tryz.func118 hb118 (Nat.le_of_ble_eq_true (by kernel_rfl)) (fun ⟨x0, _⟩ h hwf K q =>
  (snd118 _).1 x0 _ (top118 x0 hwf.1.1) K q)
end
noncomputable section
def ext80 : Ext := [(118, S118)]
theorem ext80Ok : ExtOk Tryz.prog ext80 := ⟨⟨ca118, con118⟩, trivial⟩
noncomputable def b80 : Code := bodyOf Tryz.f80
theorem hb80 : Tryz.f80.body = some b80 := by kernel_rfl
def sig80 : List AT := [AT.v (Ty.sl YA4)]
def tys80 : List Ty := [Ty.bool]
def kds80 : List RK := []
def oks80 : List AT := owns sig80
def P80 (x0 : List TyB2) : Prop := True
def g80_0 (x0 : List TyB2) : Bool := (if (decide ((↑(List.length x0) : Int) ≤ 24)) = true then g118_0 x0 else false)
theorem at80 (x0 : List TyB2) (h : P80 x0) (K : Ctx) (q : Nat → Value) : AtV Tryz.prog 80 (PostR kds80 oks80 [⟨Ty.bool, g80_0 x0⟩] [] [] q K) 10 K q [] [.code b80] (entE 0 0 sig80 (x0, ())) (entL sig80 (x0, ())) := by
  unfold P80 at h
  unfold g80_0
  by_cases b0 : (decide ((↑(List.length x0) : Int) ≤ 24)) = true
  · try simp only [if_pos b0] at h ⊢
    exact AtV.ret Tryz.func80 tabOk ext80Ok mixed false [] tys80 [true] (a1 b0 (a1 trivial trivial)) (by kernel_rfl)
  · try simp only [if_neg b0] at h ⊢
    replace b0 := Bool.eq_false_iff.2 b0
    exact AtV.ret Tryz.func80 tabOk ext80Ok mixed false [] tys80 [false] (a1 b0 trivial) (by kernel_rfl)
def S80 : Am.Spec := { sig := sig80, pre := fun ⟨x0, _⟩ => P80 x0, res := fun ⟨x0, _⟩ => [⟨Ty.bool, g80_0 x0⟩], kds := kds80 }
theorem con80 : Contract Tryz.prog 80 S80 := contract_of Tryz.func80 hb80 (Nat.le_of_ble_eq_true (by kernel_rfl)) (fun ⟨x0, _⟩ h _ K q => at80 x0 h K q)
end
noncomputable section
def ext141 : Ext := [(113, S113)]
theorem ext141Ok : ExtOk Tryz.prog ext141 := ⟨⟨ca113, con113⟩, trivial⟩
noncomputable def b141 : Code := bodyOf Tryz.f141
theorem hb141 : Tryz.f141.body = some b141 := by kernel_rfl
def sig141 : List AT := [AT.v (Ty.int .i64)]
def tys141 : List Ty := [Ty.bool]
def kds141 : List RK := []
def oks141 : List AT := owns sig141
def P141 (x0 : Int) : Prop := True
def g141_0 (x0 : Int) : Bool := g113_0 x0 0 7
theorem at141 (x0 : Int) (h : P141 x0) (K : Ctx) (q : Nat → Value) : AtV Tryz.prog 141 (PostR kds141 oks141 [⟨Ty.bool, g141_0 x0⟩] [] [] q K) 5 K q [] [.code b141] (entE 0 0 sig141 (x0, ())) (entL sig141 (x0, ())) := by
  unfold P141 at h
  unfold g141_0
  exact AtV.ret Tryz.func141 tabOk ext141Ok mixed false [] tys141 [] (a1 trivial trivial) (by kernel_rfl)
def S141 : Am.Spec := { sig := sig141, pre := fun ⟨x0, _⟩ => P141 x0, res := fun ⟨x0, _⟩ => [⟨Ty.bool, g141_0 x0⟩], kds := kds141 }
theorem con141 : Contract Tryz.prog 141 S141 := contract_of Tryz.func141 hb141 (Nat.le_of_ble_eq_true (by kernel_rfl)) (fun ⟨x0, _⟩ h _ K q => at141 x0 h K q)
end
noncomputable section
def ext142 : Ext := [(113, S113)]
theorem ext142Ok : ExtOk Tryz.prog ext142 := ⟨⟨ca113, con113⟩, trivial⟩
noncomputable def b142 : Code := bodyOf Tryz.f142
theorem hb142 : Tryz.f142.body = some b142 := by kernel_rfl
def sig142 : List AT := [AT.v (Ty.int .i64)]
def tys142 : List Ty := [Ty.bool]
def kds142 : List RK := []
def oks142 : List AT := owns sig142
def P142 (x0 : Int) : Prop := True
def g142_0 (x0 : Int) : Bool := g113_0 x0 0 1000
theorem at142 (x0 : Int) (h : P142 x0) (K : Ctx) (q : Nat → Value) : AtV Tryz.prog 142 (PostR kds142 oks142 [⟨Ty.bool, g142_0 x0⟩] [] [] q K) 5 K q [] [.code b142] (entE 0 0 sig142 (x0, ())) (entL sig142 (x0, ())) := by
  unfold P142 at h
  unfold g142_0
  exact AtV.ret Tryz.func142 tabOk ext142Ok mixed false [] tys142 [] (a1 trivial trivial) (by kernel_rfl)
def S142 : Am.Spec := { sig := sig142, pre := fun ⟨x0, _⟩ => P142 x0, res := fun ⟨x0, _⟩ => [⟨Ty.bool, g142_0 x0⟩], kds := kds142 }
theorem con142 : Contract Tryz.prog 142 S142 := contract_of Tryz.func142 hb142 (Nat.le_of_ble_eq_true (by kernel_rfl)) (fun ⟨x0, _⟩ h _ K q => at142 x0 h K q)
end
noncomputable section
def ext119 : Ext := [(137, S137), (141, S141), (142, S142)]
theorem ext119Ok : ExtOk Tryz.prog ext119 := ⟨⟨ca137, con137⟩, ⟨ca141, con141⟩, ⟨ca142, con142⟩, trivial⟩
noncomputable def b119 : Code := bodyOf Tryz.f119
theorem hb119 : Tryz.f119.body = some b119 := by kernel_rfl
def sig119 : List AT := [AT.p YA5]
def tys119 : List Ty := [Ty.bool]
def kds119 : List RK := []
def oks119 : List AT := owns sig119
def P119 (x0 : ByteArray × Int × Int × Unit) : Prop := True
def g119_0 (x0 : ByteArray × Int × Int × Unit) : Bool := (if (g137_0 x0.1) = true then (if (g141_0 x0.2.1) = true then g142_0 x0.2.2.1 else false) else false)
theorem at119 (x0 : ByteArray × Int × Int × Unit) (h : P119 x0) (K : Ctx) (q : Nat → Value) : AtV Tryz.prog 119 (PostR kds119 oks119 [⟨Ty.bool, g119_0 x0⟩] [] [] q K) 22 K q [] [.code b119] (entE 0 0 sig119 (x0, ())) (entL sig119 (x0, ())) := by
  unfold P119 at h
  unfold g119_0
  by_cases b0 : (g137_0 x0.1) = true
  · try simp only [if_pos b0] at h ⊢
    by_cases b1 : (g141_0 x0.2.1) = true
    · try simp only [if_pos b1] at h ⊢
      exact AtV.ret Tryz.func119 tabOk ext119Ok mixed false [] tys119 [true, true] (a1 trivial (a1 b0 (a1 trivial (a1 b1 (a1 trivial trivial))))) (by kernel_rfl)
    · try simp only [if_neg b1] at h ⊢
      replace b1 := Bool.eq_false_iff.2 b1
      exact AtV.ret Tryz.func119 tabOk ext119Ok mixed false [] tys119 [true, false] (a1 trivial (a1 b0 (a1 trivial (a1 b1 trivial)))) (by kernel_rfl)
  · try simp only [if_neg b0] at h ⊢
    replace b0 := Bool.eq_false_iff.2 b0
    exact AtV.ret Tryz.func119 tabOk ext119Ok mixed false [] tys119 [false, false] (a1 trivial (a1 b0 (a1 (rfl : false = false) trivial))) (by kernel_rfl)
def S119 : Am.Spec := { sig := sig119, pre := fun ⟨x0, _⟩ => P119 x0, res := fun ⟨x0, _⟩ => [⟨Ty.bool, g119_0 x0⟩], kds := kds119 }
theorem con119 : Contract Tryz.prog 119 S119 := contract_of Tryz.func119 hb119 (Nat.le_of_ble_eq_true (by kernel_rfl)) (fun ⟨x0, _⟩ h _ K q => at119 x0 h K q)
end
noncomputable section
def ext81 : Ext := [(119, S119)]
theorem ext81Ok : ExtOk Tryz.prog ext81 := ⟨⟨ca119, con119⟩, trivial⟩
noncomputable def b81 : Code := bodyOf Tryz.f81
theorem hb81 : Tryz.f81.body = some b81 := by kernel_rfl
def sig81 : List AT := [AT.v (Ty.sl YA5)]
def tys81 : List Ty := [Ty.bool]
def kds81 : List RK := []
def oks81 : List AT := owns sig81
def E81_2 (v3 : Int) (x0 : List TyB1) : Env := [(0, PV.a (Atom.sl YA5 x0)), (3, PV.a (Atom.val (Value.int .i64 v3)))]
def L81_2 (v3 : Int) (x0 : List TyB1) : Heap := []
mutual
def R81 : Nat → List TyB1 → List Dyn → Prop
  | 0, _, _ => False
  | n + 1, x0, ds => (R81_2 n (0) (x0) ds)
def R81_2 : Nat → Int → List TyB1 → List Dyn → Prop
  | 0, _, _, _ => False
  | n + 1, v3, x0, ds => (if (decide (v3 < (↑(List.length x0) : Int))) = true then ((0 ≤ v3) ∧ (v3 < (↑(List.length x0) : Int)) ∧ (if (!g119_0 (List.getD x0 (Int.toNat v3) (ByteArray.empty, 0, 0, ()))) = true then (ds = [Dyn.mk Ty.bool false]) else (if (decide (v3 > 0)) = true then ((InR .i64 (v3 - 1)) ∧ ((0 ≤ v3 - 1) ∧ (v3 - 1 < (↑(List.length x0) : Int)) ∧ ((0 ≤ v3) ∧ (v3 < (↑(List.length x0) : Int)) ∧ (if (!Op.bytesLess (ByteArray.toList (List.getD x0 (Int.toNat (v3 - 1)) (ByteArray.empty, 0, 0, ())).1) (ByteArray.toList (List.getD x0 (Int.toNat v3) (ByteArray.empty, 0, 0, ())).1)) = true then (ds = [Dyn.mk Ty.bool false]) else ((InR .i64 (v3 + 1)) ∧ (R81_2 n (v3 + 1) (x0) ds)))))) else ((InR .i64 (v3 + 1)) ∧ (R81_2 n (v3 + 1) (x0) ds))))) else (ds = [Dyn.mk Ty.bool (decide ((↑(List.length x0) : Int) ≤ 10))]))
end
theorem snd81 : ∀ n, (∀ (x0 : List TyB1) ds, R81 n x0 ds → ∀ K q, AtV Tryz.prog 81 (PostR kds81 oks81 ds [] [] q K) 36 K q [] [.code b81] (entE 0 0 sig81 (x0, ())) (entL sig81 (x0, ()))) ∧ (∀ (v3 : Int) (x0 : List TyB1) ds, R81_2 n v3 x0 ds → ∀ K q, AtV Tryz.prog 81 (PostR kds81 oks81 ds [] [] q K) 36 K q [] (cutAt b81 2) (E81_2 v3 x0) (L81_2 v3 x0)) := by
  intro n
  induction n with
  | zero => exact ⟨fun _ _ h => by simp only [R81] at h, fun _ _ _ h => by simp only [R81_2] at h⟩
  | succ n ih =>
  obtain ⟨ih, ih2⟩ := ih
  refine ⟨?_, ?_⟩
  · intro x0 ds h K q
    rw [R81] at h
    exact AtV.go tabOk ext81Ok mixed false [] [] [0, 3] [] [] trivial (ih2 _ _ _ h K q) (by kernel_rfl)
  · intro v3 x0 ds h K q
    rw [R81_2] at h
    by_cases b0 : (decide (v3 < (↑(List.length x0) : Int))) = true
    · rw [if_pos b0] at h
      obtain ⟨s0, s1, h⟩ := h
      by_cases b1 : (!g119_0 (List.getD x0 (Int.toNat v3) (ByteArray.empty, 0, 0, ()))) = true
      · rw [if_pos b1] at h
        subst h
        exact AtV.ret Tryz.func81 tabOk ext81Ok mixed false [] tys81 [true, true, true] (a1 b0 (a1 s0 (a1 s1 (a1 trivial (a1 b1 (a1 (rfl : true = true) trivial)))))) (by kernel_rfl)
      · rw [if_neg b1] at h
        replace b1 := Bool.eq_false_iff.2 b1
        by_cases b2 : (decide (v3 > 0)) = true
        · rw [if_pos b2] at h
          obtain ⟨s2, h⟩ := h
          obtain ⟨s3, s4, h⟩ := h
          obtain ⟨s5, s6, h⟩ := h
          by_cases b3 : (!Op.bytesLess (ByteArray.toList (List.getD x0 (Int.toNat (v3 - 1)) (ByteArray.empty, 0, 0, ())).1) (ByteArray.toList (List.getD x0 (Int.toNat v3) (ByteArray.empty, 0, 0, ())).1)) = true
          · rw [if_pos b3] at h
            subst h
            exact AtV.ret Tryz.func81 tabOk ext81Ok mixed false [] tys81 [true, false, true, true] (a1 b0 (a1 s0 (a1 s1 (a1 trivial (a1 b1 (a1 b2 (a1 s2 (a1 s3 (a1 s4 (a1 s5 (a1 s6 (a1 b3 trivial)))))))))))) (by kernel_rfl)
          · rw [if_neg b3] at h
            replace b3 := Bool.eq_false_iff.2 b3
            obtain ⟨s7, h⟩ := h
            exact AtV.go tabOk ext81Ok mixed false [] [] [0, 3] [] [true, false, true, false] (a1 b0 (a1 s0 (a1 s1 (a1 trivial (a1 b1 (a1 b2 (a1 s2 (a1 s3 (a1 s4 (a1 s5 (a1 s6 (a1 b3 (a1 s7 trivial))))))))))))) (ih2 _ _ _ h K q) (by kernel_rfl)
        · rw [if_neg b2] at h
          replace b2 := Bool.eq_false_iff.2 b2
          obtain ⟨s2, h⟩ := h
          exact AtV.go tabOk ext81Ok mixed false [] [] [0, 3] [] [true, false, false, false] (a1 b0 (a1 s0 (a1 s1 (a1 trivial (a1 b1 (a1 b2 (a1 (rfl : false = false) (a1 s2 trivial)))))))) (ih2 _ _ _ h K q) (by kernel_rfl)
    · rw [if_neg b0] at h
      replace b0 := Bool.eq_false_iff.2 b0
      subst h
      exact AtV.ret Tryz.func81 tabOk ext81Ok mixed false [] tys81 [false] (a1 b0 trivial) (by kernel_rfl)
def ok81 (x0 : List TyB1) (i : Nat) (x : TyB1) : Bool :=
  g119_0 x && (i == 0 || Op.bytesLess (ByteArray.toList (x0.getD (i - 1) (ByteArray.empty, (0 : Int), (0 : Int), ())).1) (ByteArray.toList x.1))
def g81_0 (x0 : List TyB1) : Bool := allI (ok81 x0) 0 x0 && decide (x0.length ≤ 10)
def P81 (x0 : List TyB1) : Prop := True
theorem step81 (n i : Nat) (x0 : List TyB1) (hm : x0.length ≤ maxLen) (hi : i < x0.length) (ds : List Dyn) :
    (if ok81 x0 i (x0.getD i (ByteArray.empty, (0 : Int), (0 : Int), ())) = true then R81_2 n ((i : Int) + 1) x0 ds else ds = [⟨.bool, false⟩]) → R81_2 (n + 1) (i : Int) x0 ds := by
  intro h
  have hu := inR_up hm hi
  rw [R81_2, if_pos (by simp; omega)]
  refine ⟨by omega, by omega, ?_⟩
  simp only [Int.toNat_natCast]
  unfold ok81 at h
  cases h1 : g119_0 (x0.getD i (ByteArray.empty, (0 : Int), (0 : Int), ())) with
  | false =>
    rw [h1] at h
    rw [if_pos (by rfl)]
    simpa using h
  | true =>
    rw [h1] at h
    rw [if_neg (by simp)]
    by_cases h0 : (i : Int) > 0
    · rw [if_pos (by simpa using h0)]
      have hi0 : (i == 0) = false := by simp; omega
      have e : ((i : Int) - 1).toNat = i - 1 := by omega
      refine ⟨by rw [i64_iff]; have : maxLen ≤ 9223372036854775807 := by decide
                 omega, by omega, by omega, by omega, by omega, ?_⟩
      rw [e]
      by_cases h2 : Op.bytesLess (ByteArray.toList (x0.getD (i - 1) (ByteArray.empty, (0 : Int), (0 : Int), ())).1) (ByteArray.toList (x0.getD i (ByteArray.empty, (0 : Int), (0 : Int), ())).1) = true
      · rw [h2, hi0] at h
        rw [if_neg (by rw [h2]; simp)]
        exact ⟨hu, by simpa using h⟩
      · have h2 := Bool.eq_false_iff.2 h2
        rw [h2, hi0] at h
        rw [if_pos (by rw [h2]; rfl)]
        simpa using h
    · rw [if_neg (by simpa using h0)]
      have hi0 : (i == 0) = true := by simp; omega
      rw [hi0] at h
      exact ⟨hu, by simpa using h⟩
theorem top81 (x0 : List TyB1) (hw : x0.length ≤ maxLen) : R81 (x0.length + 1 + 1) x0 [⟨.bool, g81_0 x0⟩] := by
  rw [R81]
  have key := loop_testI x0 (ByteArray.empty, (0 : Int), (0 : Int), ()) (ok81 x0) [(⟨.bool, false⟩ : Dyn)] [⟨.bool, decide (x0.length ≤ 10)⟩] (fun n i ds => R81_2 n i x0 ds) (fun n => ?_) (fun n i hi hok ds hr => ?_) (fun n i hi hok => ?_)
  · unfold g81_0
    cases h : allI (ok81 x0) 0 x0 with
    | true => rw [if_pos h] at key; simpa using key
    | false => rw [if_neg (by rw [h]; simp)] at key; simpa using key
  · rw [R81_2, if_neg (by simp)]
    have hc : decide ((x0.length : Int) ≤ 10) = decide (x0.length ≤ 10) := by
      congr 1; exact propext ⟨fun h => by omega, fun h => by omega⟩
    rw [hc]
  · exact step81 n i x0 hw hi ds (by rw [if_pos hok]; exact hr)
  · exact step81 n i x0 hw hi _ (by rw [if_neg (by rw [hok]; simp)])
def S81 : Am.Spec := { sig := sig81, pre := fun ⟨x0, _⟩ => P81 x0, res := fun ⟨x0, _⟩ => [⟨Ty.bool, g81_0 x0⟩] }
theorem con81 : Contract Tryz.prog 81 S81 := contract_of Tryz.func81 hb81 (Nat.le_of_ble_eq_true (by kernel_rfl)) (fun ⟨x0, _⟩ h hwf K q =>
  (snd81 _).1 x0 _ (top81 x0 hwf.1.1) K q)
end
noncomputable section
def ext120 : Ext := [(137, S137), (141, S141), (142, S142)]
theorem ext120Ok : ExtOk Tryz.prog ext120 := ⟨⟨ca137, con137⟩, ⟨ca141, con141⟩, ⟨ca142, con142⟩, trivial⟩
noncomputable def b120 : Code := bodyOf Tryz.f120
theorem hb120 : Tryz.f120.body = some b120 := by kernel_rfl
def sig120 : List AT := [AT.p YA5]
def tys120 : List Ty := [Ty.bool]
def kds120 : List RK := []
def oks120 : List AT := owns sig120
def P120 (x0 : ByteArray × Int × Int × Unit) : Prop := True
def g120_0 (x0 : ByteArray × Int × Int × Unit) : Bool := (if (g137_0 x0.1) = true then (if (g141_0 x0.2.1) = true then g142_0 x0.2.2.1 else false) else false)
theorem at120 (x0 : ByteArray × Int × Int × Unit) (h : P120 x0) (K : Ctx) (q : Nat → Value) : AtV Tryz.prog 120 (PostR kds120 oks120 [⟨Ty.bool, g120_0 x0⟩] [] [] q K) 22 K q [] [.code b120] (entE 0 0 sig120 (x0, ())) (entL sig120 (x0, ())) := by
  unfold P120 at h
  unfold g120_0
  by_cases b0 : (g137_0 x0.1) = true
  · try simp only [if_pos b0] at h ⊢
    by_cases b1 : (g141_0 x0.2.1) = true
    · try simp only [if_pos b1] at h ⊢
      exact AtV.ret Tryz.func120 tabOk ext120Ok mixed false [] tys120 [true, true] (a1 trivial (a1 b0 (a1 trivial (a1 b1 (a1 trivial trivial))))) (by kernel_rfl)
    · try simp only [if_neg b1] at h ⊢
      replace b1 := Bool.eq_false_iff.2 b1
      exact AtV.ret Tryz.func120 tabOk ext120Ok mixed false [] tys120 [true, false] (a1 trivial (a1 b0 (a1 trivial (a1 b1 trivial)))) (by kernel_rfl)
  · try simp only [if_neg b0] at h ⊢
    replace b0 := Bool.eq_false_iff.2 b0
    exact AtV.ret Tryz.func120 tabOk ext120Ok mixed false [] tys120 [false, false] (a1 trivial (a1 b0 (a1 (rfl : false = false) trivial))) (by kernel_rfl)
def S120 : Am.Spec := { sig := sig120, pre := fun ⟨x0, _⟩ => P120 x0, res := fun ⟨x0, _⟩ => [⟨Ty.bool, g120_0 x0⟩], kds := kds120 }
theorem con120 : Contract Tryz.prog 120 S120 := contract_of Tryz.func120 hb120 (Nat.le_of_ble_eq_true (by kernel_rfl)) (fun ⟨x0, _⟩ h _ K q => at120 x0 h K q)
end
noncomputable section
def ext82 : Ext := [(120, S120)]
theorem ext82Ok : ExtOk Tryz.prog ext82 := ⟨⟨ca120, con120⟩, trivial⟩
noncomputable def b82 : Code := bodyOf Tryz.f82
theorem hb82 : Tryz.f82.body = some b82 := by kernel_rfl
def sig82 : List AT := [AT.v (Ty.sl YA5)]
def tys82 : List Ty := [Ty.bool]
def kds82 : List RK := []
def oks82 : List AT := owns sig82
def E82_2 (v3 : Int) (x0 : List TyB1) : Env := [(0, PV.a (Atom.sl YA5 x0)), (3, PV.a (Atom.val (Value.int .i64 v3)))]
def L82_2 (v3 : Int) (x0 : List TyB1) : Heap := []
mutual
def R82 : Nat → List TyB1 → List Dyn → Prop
  | 0, _, _ => False
  | n + 1, x0, ds => (R82_2 n (0) (x0) ds)
def R82_2 : Nat → Int → List TyB1 → List Dyn → Prop
  | 0, _, _, _ => False
  | n + 1, v3, x0, ds => (if (decide (v3 < (↑(List.length x0) : Int))) = true then ((0 ≤ v3) ∧ (v3 < (↑(List.length x0) : Int)) ∧ (if (!g120_0 (List.getD x0 (Int.toNat v3) (ByteArray.empty, 0, 0, ()))) = true then (ds = [Dyn.mk Ty.bool false]) else (if (decide (v3 > 0)) = true then ((InR .i64 (v3 - 1)) ∧ ((0 ≤ v3 - 1) ∧ (v3 - 1 < (↑(List.length x0) : Int)) ∧ ((0 ≤ v3) ∧ (v3 < (↑(List.length x0) : Int)) ∧ (if (!Op.bytesLess (ByteArray.toList (List.getD x0 (Int.toNat (v3 - 1)) (ByteArray.empty, 0, 0, ())).1) (ByteArray.toList (List.getD x0 (Int.toNat v3) (ByteArray.empty, 0, 0, ())).1)) = true then (ds = [Dyn.mk Ty.bool false]) else ((InR .i64 (v3 + 1)) ∧ (R82_2 n (v3 + 1) (x0) ds)))))) else ((InR .i64 (v3 + 1)) ∧ (R82_2 n (v3 + 1) (x0) ds))))) else (ds = [Dyn.mk Ty.bool (decide ((↑(List.length x0) : Int) ≤ 8))]))
end
theorem snd82 : ∀ n, (∀ (x0 : List TyB1) ds, R82 n x0 ds → ∀ K q, AtV Tryz.prog 82 (PostR kds82 oks82 ds [] [] q K) 36 K q [] [.code b82] (entE 0 0 sig82 (x0, ())) (entL sig82 (x0, ()))) ∧ (∀ (v3 : Int) (x0 : List TyB1) ds, R82_2 n v3 x0 ds → ∀ K q, AtV Tryz.prog 82 (PostR kds82 oks82 ds [] [] q K) 36 K q [] (cutAt b82 2) (E82_2 v3 x0) (L82_2 v3 x0)) := by
  intro n
  induction n with
  | zero => exact ⟨fun _ _ h => by simp only [R82] at h, fun _ _ _ h => by simp only [R82_2] at h⟩
  | succ n ih =>
  obtain ⟨ih, ih2⟩ := ih
  refine ⟨?_, ?_⟩
  · intro x0 ds h K q
    rw [R82] at h
    exact AtV.go tabOk ext82Ok mixed false [] [] [0, 3] [] [] trivial (ih2 _ _ _ h K q) (by kernel_rfl)
  · intro v3 x0 ds h K q
    rw [R82_2] at h
    by_cases b0 : (decide (v3 < (↑(List.length x0) : Int))) = true
    · rw [if_pos b0] at h
      obtain ⟨s0, s1, h⟩ := h
      by_cases b1 : (!g120_0 (List.getD x0 (Int.toNat v3) (ByteArray.empty, 0, 0, ()))) = true
      · rw [if_pos b1] at h
        subst h
        exact AtV.ret Tryz.func82 tabOk ext82Ok mixed false [] tys82 [true, true, true] (a1 b0 (a1 s0 (a1 s1 (a1 trivial (a1 b1 (a1 (rfl : true = true) trivial)))))) (by kernel_rfl)
      · rw [if_neg b1] at h
        replace b1 := Bool.eq_false_iff.2 b1
        by_cases b2 : (decide (v3 > 0)) = true
        · rw [if_pos b2] at h
          obtain ⟨s2, h⟩ := h
          obtain ⟨s3, s4, h⟩ := h
          obtain ⟨s5, s6, h⟩ := h
          by_cases b3 : (!Op.bytesLess (ByteArray.toList (List.getD x0 (Int.toNat (v3 - 1)) (ByteArray.empty, 0, 0, ())).1) (ByteArray.toList (List.getD x0 (Int.toNat v3) (ByteArray.empty, 0, 0, ())).1)) = true
          · rw [if_pos b3] at h
            subst h
            exact AtV.ret Tryz.func82 tabOk ext82Ok mixed false [] tys82 [true, false, true, true] (a1 b0 (a1 s0 (a1 s1 (a1 trivial (a1 b1 (a1 b2 (a1 s2 (a1 s3 (a1 s4 (a1 s5 (a1 s6 (a1 b3 trivial)))))))))))) (by kernel_rfl)
          · rw [if_neg b3] at h
            replace b3 := Bool.eq_false_iff.2 b3
            obtain ⟨s7, h⟩ := h
            exact AtV.go tabOk ext82Ok mixed false [] [] [0, 3] [] [true, false, true, false] (a1 b0 (a1 s0 (a1 s1 (a1 trivial (a1 b1 (a1 b2 (a1 s2 (a1 s3 (a1 s4 (a1 s5 (a1 s6 (a1 b3 (a1 s7 trivial))))))))))))) (ih2 _ _ _ h K q) (by kernel_rfl)
        · rw [if_neg b2] at h
          replace b2 := Bool.eq_false_iff.2 b2
          obtain ⟨s2, h⟩ := h
          exact AtV.go tabOk ext82Ok mixed false [] [] [0, 3] [] [true, false, false, false] (a1 b0 (a1 s0 (a1 s1 (a1 trivial (a1 b1 (a1 b2 (a1 (rfl : false = false) (a1 s2 trivial)))))))) (ih2 _ _ _ h K q) (by kernel_rfl)
    · rw [if_neg b0] at h
      replace b0 := Bool.eq_false_iff.2 b0
      subst h
      exact AtV.ret Tryz.func82 tabOk ext82Ok mixed false [] tys82 [false] (a1 b0 trivial) (by kernel_rfl)
def ok82 (x0 : List TyB1) (i : Nat) (x : TyB1) : Bool :=
  g120_0 x && (i == 0 || Op.bytesLess (ByteArray.toList (x0.getD (i - 1) (ByteArray.empty, (0 : Int), (0 : Int), ())).1) (ByteArray.toList x.1))
def g82_0 (x0 : List TyB1) : Bool := allI (ok82 x0) 0 x0 && decide (x0.length ≤ 8)
def P82 (x0 : List TyB1) : Prop := True
theorem step82 (n i : Nat) (x0 : List TyB1) (hm : x0.length ≤ maxLen) (hi : i < x0.length) (ds : List Dyn) :
    (if ok82 x0 i (x0.getD i (ByteArray.empty, (0 : Int), (0 : Int), ())) = true then R82_2 n ((i : Int) + 1) x0 ds else ds = [⟨.bool, false⟩]) → R82_2 (n + 1) (i : Int) x0 ds := by
  intro h
  have hu := inR_up hm hi
  rw [R82_2, if_pos (by simp; omega)]
  refine ⟨by omega, by omega, ?_⟩
  simp only [Int.toNat_natCast]
  unfold ok82 at h
  cases h1 : g120_0 (x0.getD i (ByteArray.empty, (0 : Int), (0 : Int), ())) with
  | false =>
    rw [h1] at h
    rw [if_pos (by rfl)]
    simpa using h
  | true =>
    rw [h1] at h
    rw [if_neg (by simp)]
    by_cases h0 : (i : Int) > 0
    · rw [if_pos (by simpa using h0)]
      have hi0 : (i == 0) = false := by simp; omega
      have e : ((i : Int) - 1).toNat = i - 1 := by omega
      refine ⟨by rw [i64_iff]; have : maxLen ≤ 9223372036854775807 := by decide
                 omega, by omega, by omega, by omega, by omega, ?_⟩
      rw [e]
      by_cases h2 : Op.bytesLess (ByteArray.toList (x0.getD (i - 1) (ByteArray.empty, (0 : Int), (0 : Int), ())).1) (ByteArray.toList (x0.getD i (ByteArray.empty, (0 : Int), (0 : Int), ())).1) = true
      · rw [h2, hi0] at h
        rw [if_neg (by rw [h2]; simp)]
        exact ⟨hu, by simpa using h⟩
      · have h2 := Bool.eq_false_iff.2 h2
        rw [h2, hi0] at h
        rw [if_pos (by rw [h2]; rfl)]
        simpa using h
    · rw [if_neg (by simpa using h0)]
      have hi0 : (i == 0) = true := by simp; omega
      rw [hi0] at h
      exact ⟨hu, by simpa using h⟩
theorem top82 (x0 : List TyB1) (hw : x0.length ≤ maxLen) : R82 (x0.length + 1 + 1) x0 [⟨.bool, g82_0 x0⟩] := by
  rw [R82]
  have key := loop_testI x0 (ByteArray.empty, (0 : Int), (0 : Int), ()) (ok82 x0) [(⟨.bool, false⟩ : Dyn)] [⟨.bool, decide (x0.length ≤ 8)⟩] (fun n i ds => R82_2 n i x0 ds) (fun n => ?_) (fun n i hi hok ds hr => ?_) (fun n i hi hok => ?_)
  · unfold g82_0
    cases h : allI (ok82 x0) 0 x0 with
    | true => rw [if_pos h] at key; simpa using key
    | false => rw [if_neg (by rw [h]; simp)] at key; simpa using key
  · rw [R82_2, if_neg (by simp)]
    have hc : decide ((x0.length : Int) ≤ 8) = decide (x0.length ≤ 8) := by
      congr 1; exact propext ⟨fun h => by omega, fun h => by omega⟩
    rw [hc]
  · exact step82 n i x0 hw hi ds (by rw [if_pos hok]; exact hr)
  · exact step82 n i x0 hw hi _ (by rw [if_neg (by rw [hok]; simp)])
def S82 : Am.Spec := { sig := sig82, pre := fun ⟨x0, _⟩ => P82 x0, res := fun ⟨x0, _⟩ => [⟨Ty.bool, g82_0 x0⟩] }
theorem con82 : Contract Tryz.prog 82 S82 := contract_of Tryz.func82 hb82 (Nat.le_of_ble_eq_true (by kernel_rfl)) (fun ⟨x0, _⟩ h hwf K q =>
  (snd82 _).1 x0 _ (top82 x0 hwf.1.1) K q)
end
end Go.Proofs.YtiddfgaccfnofaaGreatDoor
