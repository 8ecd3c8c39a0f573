/- Several texts in one: the functions that this law reaches, and their laws. -/
import Derived.Test.YtnclnmljkoicdaaGreatDoorZ3A
import Derived.Test.YtnclnmljkoicdaaGreatDoorZ3B
import Derived.Test.YtnclnmljkoicdaaGreatDoorZ3C
import Derived.Test.YtnclnmljkoicdaaGreatDoorZ3D
import Derived.Lib.ItoaNum
set_option linter.unusedVariables false
set_option linter.unusedSimpArgs false
set_option maxRecDepth 100000
namespace Go.Proofs.YtnclnmljkoicdaaGreatDoor
open Go Go.Am Go.Proofs
noncomputable section
def ext124 : Ext := [(122, S122)]
theorem ext124Ok : ExtOk Tryz.prog ext124 := ⟨⟨ca122, con122⟩, trivial⟩
noncomputable def b124 : Code := bodyOf Tryz.f124
theorem hb124 : Tryz.f124.body = some b124 := by kernel_rfl
def sig124 : List AT := [AT.v (Ty.str)]
def tys124 : List Ty := [Ty.bool]
def kds124 : List RK := []
def oks124 : List AT := owns sig124
def E124_2 (v3 : Int) (x0 : ByteArray) : Env := [(0, PV.a (Atom.val (Value.string x0))), (3, PV.a (Atom.val (Value.int .i64 v3)))]
def L124_2 (v3 : Int) (x0 : ByteArray) : Heap := []
mutual
def R124 : Nat → ByteArray → List Dyn → Prop
  | 0, _, _ => False
  | n + 1, x0, ds => (R124_2 n (0) (x0) ds)
def R124_2 : Nat → Int → ByteArray → List Dyn → Prop
  | 0, _, _, _ => False
  | n + 1, v3, x0, ds => (if (decide (v3 < (↑(ByteArray.size x0) : Int))) = true then ((0 ≤ v3) ∧ (v3 < (↑(ByteArray.size x0) : Int)) ∧ (if (!g122_0 (↑(UInt8.toNat (List.getD (Array.toList (ByteArray.data x0)) (Int.toNat v3) 0)) : Int)) = true then ((0 ≤ v3) ∧ (v3 < (↑(ByteArray.size x0) : Int)) ∧ (if (decide ((↑(UInt8.toNat (List.getD (Array.toList (ByteArray.data x0)) (Int.toNat v3) 0)) : Int) < 97)) = true then (ds = [Dyn.mk Ty.bool false]) else ((0 ≤ v3) ∧ (v3 < (↑(ByteArray.size x0) : Int)) ∧ (if (decide ((↑(UInt8.toNat (List.getD (Array.toList (ByteArray.data x0)) (Int.toNat v3) 0)) : Int) > 122)) = true then (ds = [Dyn.mk Ty.bool false]) else ((InR .i64 (v3 + 1)) ∧ (R124_2 n (v3 + 1) (x0) ds)))))) else ((InR .i64 (v3 + 1)) ∧ (R124_2 n (v3 + 1) (x0) ds)))) else (ds = [Dyn.mk Ty.bool (decide ((↑(ByteArray.size x0) : Int) > 0))]))
end
theorem snd124 : ∀ n, (∀ (x0 : ByteArray) ds, R124 n x0 ds → ∀ K q, AtV Tryz.prog 124 (PostR kds124 oks124 ds [] [] q K) 30 K q [] [.code b124] (entE 0 0 sig124 (x0, ())) (entL sig124 (x0, ()))) ∧ (∀ (v3 : Int) (x0 : ByteArray) ds, R124_2 n v3 x0 ds → ∀ K q, AtV Tryz.prog 124 (PostR kds124 oks124 ds [] [] q K) 30 K q [] (cutAt b124 2) (E124_2 v3 x0) (L124_2 v3 x0)) := by
  intro n
  induction n with
  | zero => exact ⟨fun _ _ h => by simp only [R124] at h, fun _ _ _ h => by simp only [R124_2] at h⟩
  | succ n ih =>
  obtain ⟨ih, ih2⟩ := ih
  refine ⟨?_, ?_⟩
  · intro x0 ds h K q
    rw [R124] at h
    exact AtV.go tabOk ext124Ok mixed false [] [] [0, 3] [] [] trivial (ih2 _ _ _ h K q) (by kernel_rfl)
  · intro v3 x0 ds h K q
    rw [R124_2] at h
    by_cases b0 : (decide (v3 < (↑(ByteArray.size x0) : Int))) = true
    · rw [if_pos b0] at h
      obtain ⟨s0, s1, h⟩ := h
      by_cases b1 : (!g122_0 (↑(UInt8.toNat (List.getD (Array.toList (ByteArray.data x0)) (Int.toNat v3) 0)) : Int)) = true
      · rw [if_pos b1] at h
        obtain ⟨s2, s3, h⟩ := h
        by_cases b2 : (decide ((↑(UInt8.toNat (List.getD (Array.toList (ByteArray.data x0)) (Int.toNat v3) 0)) : Int) < 97)) = true
        · rw [if_pos b2] at h
          subst h
          exact AtV.ret Tryz.func124 tabOk ext124Ok mixed false [] tys124 [true, true, true, true] (a1 b0 (a1 s0 (a1 s1 (a1 trivial (a1 b1 (a1 s2 (a1 s3 (a1 b2 (a1 (rfl : true = true) trivial))))))))) (by kernel_rfl)
        · rw [if_neg b2] at h
          replace b2 := Bool.eq_false_iff.2 b2
          obtain ⟨s4, s5, h⟩ := h
          by_cases b3 : (decide ((↑(UInt8.toNat (List.getD (Array.toList (ByteArray.data x0)) (Int.toNat v3) 0)) : Int) > 122)) = true
          · rw [if_pos b3] at h
            subst h
            exact AtV.ret Tryz.func124 tabOk ext124Ok mixed false [] tys124 [true, true, false, true] (a1 b0 (a1 s0 (a1 s1 (a1 trivial (a1 b1 (a1 s2 (a1 s3 (a1 b2 (a1 s4 (a1 s5 (a1 b3 trivial))))))))))) (by kernel_rfl)
          · rw [if_neg b3] at h
            replace b3 := Bool.eq_false_iff.2 b3
            obtain ⟨s6, h⟩ := h
            exact AtV.go tabOk ext124Ok mixed false [] [] [0, 3] [] [true, true, false, false] (a1 b0 (a1 s0 (a1 s1 (a1 trivial (a1 b1 (a1 s2 (a1 s3 (a1 b2 (a1 s4 (a1 s5 (a1 b3 (a1 s6 trivial)))))))))))) (ih2 _ _ _ h K q) (by kernel_rfl)
      · rw [if_neg b1] at h
        replace b1 := Bool.eq_false_iff.2 b1
        obtain ⟨s2, h⟩ := h
        exact AtV.go tabOk ext124Ok mixed false [] [] [0, 3] [] [true, false, false] (a1 b0 (a1 s0 (a1 s1 (a1 trivial (a1 b1 (a1 (rfl : false = false) (a1 s2 trivial))))))) (ih2 _ _ _ h K q) (by kernel_rfl)
    · rw [if_neg b0] at h
      replace b0 := Bool.eq_false_iff.2 b0
      subst h
      exact AtV.ret Tryz.func124 tabOk ext124Ok mixed false [] tys124 [false] (a1 b0 trivial) (by kernel_rfl)
def ok124 (b : Int) : Bool := g122_0 b || (decide (97 ≤ b) && decide (b ≤ 122))
def g124_0 (x0 : ByteArray) : Bool := (bytesOf x0).all ok124 && decide ((x0.size : Int) > 0)
def P124 (x0 : ByteArray) : Prop := True
theorem top124 (x0 : ByteArray) (hw : Wf .str x0) : R124 (x0.size + 1 + 1) x0 [⟨.bool, g124_0 x0⟩] := by
  have hl := bytesOf_length x0
  rw [R124]
  have key := loop_test (bytesOf x0) 0 ok124 [(⟨.bool, false⟩ : Dyn)] [⟨.bool, decide ((x0.size : Int) > 0)⟩] (fun n i ds => R124_2 n i x0 ds) (fun n => ?_) (fun n i hi hok ds hr => ?_) (fun n i hi hok => ?_)
  · rw [hl] at key
    unfold g124_0
    cases h : (bytesOf x0).all ok124 <;> rw [h] at key <;> simpa using key
  · show R124_2 (n + 1) ((bytesOf x0).length : Int) x0 _
    rw [R124_2, hl, if_neg (by simp)]
  · have hu := inR_up (xs := bytesOf x0) (by rw [hl]; exact hw) hi
    rw [R124_2, if_pos (by simp; omega)]
    simp only [Int.toNat_natCast, byte_get]
    generalize (bytesOf x0).getD i 0 = c at *
    unfold ok124 at hok
    refine ⟨by omega, by omega, ?_⟩
    by_cases hd : g122_0 c = true
    · rw [if_neg (by rw [hd]; simp)]
      exact ⟨hu, hr⟩
    · rw [Bool.eq_false_iff.2 hd] at hok
      simp only [Bool.false_or, Bool.and_eq_true, decide_eq_true_eq] at hok
      rw [if_pos (by rw [Bool.eq_false_iff.2 hd]; rfl)]
      refine ⟨by omega, by omega, ?_⟩
      rw [if_neg (by simp only [decide_eq_true_eq]; omega)]
      refine ⟨by omega, by omega, ?_⟩
      rw [if_neg (by simp only [decide_eq_true_eq]; omega)]
      exact ⟨hu, hr⟩
  · rw [R124_2, if_pos (by simp; omega)]
    simp only [Int.toNat_natCast, byte_get]
    generalize (bytesOf x0).getD i 0 = c at *
    unfold ok124 at hok
    refine ⟨by omega, by omega, ?_⟩
    simp only [Bool.or_eq_false_iff] at hok
    obtain ⟨hd, h2⟩ := hok
    rw [if_pos (by rw [hd]; rfl)]
    refine ⟨by omega, by omega, ?_⟩
    by_cases h1 : c < 97
    · rw [if_pos (by simpa using h1)] <;> trivial
    · rw [if_neg (by simpa using h1)]
      refine ⟨by omega, by omega, ?_⟩
      rw [if_pos (by
        simp only [Bool.and_eq_false_iff, decide_eq_false_iff_not] at h2
        simp only [decide_eq_true_eq]; omega)] <;> trivial
def S124 : Am.Spec := { sig := sig124, pre := fun ⟨x0, _⟩ => P124 x0, res := fun ⟨x0, _⟩ => [⟨Ty.bool, g124_0 x0⟩] }
theorem con124 : Contract Tryz.prog 124 S124 := contract_of Tryz.func124 hb124 (Nat.le_of_ble_eq_true (by kernel_rfl)) (fun ⟨x0, _⟩ h hwf K q =>
  (snd124 _).1 x0 _ (top124 x0 hwf.1) K q)
end
noncomputable section
def ext102 : Ext := [(123, S123), (124, S124)]
theorem ext102Ok : ExtOk Tryz.prog ext102 := ⟨⟨ca123, con123⟩, ⟨ca124, con124⟩, trivial⟩
noncomputable def b102 : Code := bodyOf Tryz.f102
theorem hb102 : Tryz.f102.body = some b102 := by kernel_rfl
def sig102 : List AT := [AT.v (Ty.str)]
def tys102 : List Ty := [Ty.bool]
def kds102 : List RK := []
def oks102 : List AT := owns sig102
def E102_5 (v4 : Int) (x0 : ByteArray) : Env := [(3, PV.a (Atom.osl 0 Option.none)), (4, PV.a (Atom.val (Value.int .i64 v4)))]
def L102_5 (v4 : Int) (x0 : ByteArray) : Heap := [Option.some (Arr.mk Ty.str (g123_0 x0 32) false Option.none Option.none)]
mutual
def R102 : Nat → ByteArray → List Dyn → Prop
  | 0, _, _ => False
  | n + 1, x0, ds => (if ((↑(ByteArray.size x0) : Int) == 0) = true then (ds = [Dyn.mk Ty.bool false]) else (if (decide ((↑(ByteArray.size x0) : Int) > 40)) = true then (ds = [Dyn.mk Ty.bool false]) else ((P123 x0 32) ∧ (R102_5 n (0) (x0) ds))))
def R102_5 : Nat → Int → ByteArray → List Dyn → Prop
  | 0, _, _, _ => False
  | n + 1, v4, x0, ds => (if (decide (v4 < (↑(List.length (g123_0 x0 32)) : Int))) = true then ((0 ≤ v4) ∧ (v4 < (↑(List.length (g123_0 x0 32)) : Int)) ∧ (if (!g124_0 (List.getD (g123_0 x0 32) (Int.toNat v4) ByteArray.empty)) = true then (ds = [Dyn.mk Ty.bool false]) else ((InR .i64 (v4 + 1)) ∧ (R102_5 n (v4 + 1) (x0) ds)))) else (ds = [Dyn.mk Ty.bool true]))
end
theorem snd102 : ∀ n, (∀ (x0 : ByteArray) ds, R102 n x0 ds → ∀ K q, AtV Tryz.prog 102 (PostR kds102 oks102 ds [] [] q K) 27 K q [] [.code b102] (entE 0 0 sig102 (x0, ())) (entL sig102 (x0, ()))) ∧ (∀ (v4 : Int) (x0 : ByteArray) ds, R102_5 n v4 x0 ds → ∀ K q, AtV Tryz.prog 102 (PostR kds102 oks102 ds [] [] q K) 27 K q [] (cutAt b102 5) (E102_5 v4 x0) (L102_5 v4 x0)) := by
  intro n
  induction n with
  | zero => exact ⟨fun _ _ h => by simp only [R102] at h, fun _ _ _ h => by simp only [R102_5] at h⟩
  | succ n ih =>
  obtain ⟨ih, ih5⟩ := ih
  refine ⟨?_, ?_⟩
  · intro x0 ds h K q
    rw [R102] at h
    by_cases b0 : ((↑(ByteArray.size x0) : Int) == 0) = true
    · rw [if_pos b0] at h
      subst h
      exact AtV.ret Tryz.func102 tabOk ext102Ok mixed false [] tys102 [true, true] (a1 b0 (a1 (rfl : true = true) trivial)) (by kernel_rfl)
    · rw [if_neg b0] at h
      replace b0 := Bool.eq_false_iff.2 b0
      by_cases b1 : (decide ((↑(ByteArray.size x0) : Int) > 40)) = true
      · rw [if_pos b1] at h
        subst h
        exact AtV.ret Tryz.func102 tabOk ext102Ok mixed false [] tys102 [false, true] (a1 b0 (a1 b1 trivial)) (by kernel_rfl)
      · rw [if_neg b1] at h
        replace b1 := Bool.eq_false_iff.2 b1
        obtain ⟨s0, h⟩ := h
        exact AtV.go tabOk ext102Ok mixed false [] [] [3, 4] [0] [false, false] (a1 b0 (a1 b1 (a1 s0 trivial))) (ih5 _ _ _ h K q) (by kernel_rfl)
  · intro v4 x0 ds h K q
    rw [R102_5] at h
    by_cases b0 : (decide (v4 < (↑(List.length (g123_0 x0 32)) : Int))) = true
    · rw [if_pos b0] at h
      obtain ⟨s0, s1, h⟩ := h
      by_cases b1 : (!g124_0 (List.getD (g123_0 x0 32) (Int.toNat v4) ByteArray.empty)) = true
      · rw [if_pos b1] at h
        subst h
        exact AtV.ret Tryz.func102 tabOk ext102Ok mixed false [] tys102 [true, true] (a1 b0 (a1 s0 (a1 s1 (a1 trivial (a1 b1 trivial))))) (by kernel_rfl)
      · rw [if_neg b1] at h
        replace b1 := Bool.eq_false_iff.2 b1
        obtain ⟨s2, h⟩ := h
        exact AtV.go tabOk ext102Ok mixed false [] [] [3, 4] [0] [true, false] (a1 b0 (a1 s0 (a1 s1 (a1 trivial (a1 b1 (a1 s2 trivial)))))) (ih5 _ _ _ h K q) (by kernel_rfl)
    · rw [if_neg b0] at h
      replace b0 := Bool.eq_false_iff.2 b0
      subst h
      exact AtV.ret Tryz.func102 tabOk ext102Ok mixed false [] tys102 [false] (a1 b0 trivial) (by kernel_rfl)
def g102_0 (x0 : ByteArray) : Bool := !(((x0.size : Nat) : Int) == 0) && !decide (((x0.size : Nat) : Int) > 40) && (g123_0 x0 32).all g124_0
def P102 (x0 : ByteArray) : Prop := True
theorem top102 (x0 : ByteArray) : ∃ n, R102 n x0 [⟨.bool, g102_0 x0⟩] := by
  unfold g102_0
  by_cases h0 : (((x0.size : Nat) : Int) == 0) = true
  · refine ⟨1, ?_⟩
    rw [R102, if_pos h0, h0]; rfl
  by_cases h1 : ((x0.size : Nat) : Int) > 40
  · refine ⟨1, ?_⟩
    rw [R102, if_neg h0, if_pos (decide_eq_true h1), Bool.eq_false_iff.2 h0, decide_eq_true h1]; rfl
  · have hl : (g123_0 x0 32).length = x0.data.toList.count 32 + 1 := by
      show (bss (splitC (32 : UInt8) x0.data.toList)).length = _
      unfold bss
      rw [List.length_map, splitC_length]
    have hc : x0.data.toList.count (32 : UInt8) ≤ x0.size := List.count_le_length
    have hmx : 1000 ≤ maxLen := by decide
    have key := loop_test (g123_0 x0 32) ByteArray.empty g124_0 [(⟨.bool, false⟩ : Dyn)] [⟨.bool, true⟩] (fun n i ds => R102_5 n i x0 ds) (fun n => ?_) (fun n i hi hok ds hr => ?_) (fun n i hi hok => ?_)
    · refine ⟨(g123_0 x0 32).length + 1 + 1, ?_⟩
      rw [R102, if_neg h0, if_neg (by simpa using h1), Bool.eq_false_iff.2 h0, decide_eq_false h1]
      refine ⟨⟨by omega, by omega, by omega⟩, ?_⟩
      · cases h : (g123_0 x0 32).all g124_0 <;> rw [h] at key <;> exact key
    · rw [R102_5, if_neg (by simp)]
    · rw [R102_5, if_pos (by simp; omega)]
      simp only [Int.toNat_natCast]
      refine ⟨by omega, by omega, ?_⟩
      rw [if_neg (by rw [hok]; simp)]
      exact ⟨by rw [i64_iff]; omega, hr⟩
    · rw [R102_5, if_pos (by simp; omega)]
      simp only [Int.toNat_natCast]
      refine ⟨by omega, by omega, ?_⟩
      rw [if_pos (by rw [hok]; rfl)] <;> trivial
def S102 : Am.Spec := { sig := sig102, pre := fun ⟨x0, _⟩ => P102 x0, res := fun ⟨x0, _⟩ => [⟨Ty.bool, g102_0 x0⟩] }
theorem con102 : Contract Tryz.prog 102 S102 := contract_of Tryz.func102 hb102 (Nat.le_of_ble_eq_true (by kernel_rfl)) (fun ⟨x0, _⟩ h hwf K q =>
  let ⟨n, hn⟩ := top102 x0
  (snd102 n).1 x0 _ hn K q)
end
noncomputable section
def ext83 : Ext := [(78, S78), (74, S74), (102, S102)]
theorem ext83Ok : ExtOk Tryz.prog ext83 := ⟨⟨ca78, con78⟩, ⟨ca74, con74⟩, ⟨ca102, con102⟩, trivial⟩
noncomputable def b83 : Code := bodyOf Tryz.f83
theorem hb83 : Tryz.f83.body = some b83 := by kernel_rfl
def sig83 : List AT := [AT.p YA6]
def tys83 : List Ty := [Ty.bool]
def kds83 : List RK := []
def oks83 : List AT := owns sig83
def P83 (x0 : Int × Int × ByteArray × Int × Unit) : Prop := True
def g83_0 (x0 : Int × Int × ByteArray × Int × Unit) : Bool := (if (g78_0 x0.1) = true then (if (g74_0 x0.2.1 0 1439) = true then (if (g102_0 x0.2.2.1) = true then g74_0 x0.2.2.2.1 0 65535 else false) else false) else false)
theorem at83 (x0 : Int × Int × ByteArray × Int × Unit) (h : P83 x0) (K : Ctx) (q : Nat → Value) : AtV Tryz.prog 83 (PostR kds83 oks83 [⟨Ty.bool, g83_0 x0⟩] [] [] q K) 29 K q [] [.code b83] (entE 0 0 sig83 (x0, ())) (entL sig83 (x0, ())) := by
  unfold P83 at h
  unfold g83_0
  by_cases b0 : (g78_0 x0.1) = true
  · try simp only [if_pos b0] at h ⊢
    by_cases b1 : (g74_0 x0.2.1 0 1439) = true
    · try simp only [if_pos b1] at h ⊢
      by_cases b2 : (g102_0 x0.2.2.1) = true
      · try simp only [if_pos b2] at h ⊢
        exact AtV.ret Tryz.func83 tabOk ext83Ok mixed false [] tys83 [true, true, true] (a1 trivial (a1 b0 (a1 trivial (a1 b1 (a1 trivial (a1 b2 (a1 trivial trivial))))))) (by kernel_rfl)
      · try simp only [if_neg b2] at h ⊢
        replace b2 := Bool.eq_false_iff.2 b2
        exact AtV.ret Tryz.func83 tabOk ext83Ok mixed false [] tys83 [true, true, false] (a1 trivial (a1 b0 (a1 trivial (a1 b1 (a1 trivial (a1 b2 trivial)))))) (by kernel_rfl)
    · try simp only [if_neg b1] at h ⊢
      replace b1 := Bool.eq_false_iff.2 b1
      exact AtV.ret Tryz.func83 tabOk ext83Ok mixed false [] tys83 [true, false, false] (a1 trivial (a1 b0 (a1 trivial (a1 b1 (a1 (rfl : false = false) trivial))))) (by kernel_rfl)
  · try simp only [if_neg b0] at h ⊢
    replace b0 := Bool.eq_false_iff.2 b0
    exact AtV.ret Tryz.func83 tabOk ext83Ok mixed false [] tys83 [false, false, false] (a1 trivial (a1 b0 (a1 (rfl : false = false) (a1 (rfl : false = false) trivial)))) (by kernel_rfl)
def S83 : Am.Spec := { sig := sig83, pre := fun ⟨x0, _⟩ => P83 x0, res := fun ⟨x0, _⟩ => [⟨Ty.bool, g83_0 x0⟩], kds := kds83 }
theorem con83 : Contract Tryz.prog 83 S83 := contract_of Tryz.func83 hb83 (Nat.le_of_ble_eq_true (by kernel_rfl)) (fun ⟨x0, _⟩ h _ K q => at83 x0 h K q)
end
noncomputable section
def ext57 : Ext := [(83, S83)]
theorem ext57Ok : ExtOk Tryz.prog ext57 := ⟨⟨ca83, con83⟩, trivial⟩
noncomputable def b57 : Code := bodyOf Tryz.f57
theorem hb57 : Tryz.f57.body = some b57 := by kernel_rfl
def sig57 : List AT := [AT.v (Ty.sl YA6)]
def tys57 : List Ty := [Ty.bool]
def kds57 : List RK := []
def oks57 : List AT := owns sig57
def E57_2 (v3 : Int) (x0 : List TyB2) : Env := [(0, PV.a (Atom.sl YA6 x0)), (3, PV.a (Atom.val (Value.int .i64 v3)))]
def L57_2 (v3 : Int) (x0 : List TyB2) : Heap := []
mutual
def R57 : Nat → List TyB2 → List Dyn → Prop
  | 0, _, _ => False
  | n + 1, x0, ds => (R57_2 n (0) (x0) ds)
def R57_2 : Nat → Int → List TyB2 → List Dyn → Prop
  | 0, _, _, _ => False
  | n + 1, v3, x0, ds => (if (decide (v3 < (↑(List.length x0) : Int))) = true then ((0 ≤ v3) ∧ (v3 < (↑(List.length x0) : Int)) ∧ (if (!g83_0 (List.getD x0 (Int.toNat v3) (0, 0, ByteArray.empty, 0, ()))) = true then (ds = [Dyn.mk Ty.bool false]) else (if (decide (v3 > 0)) = true then ((InR .i64 (v3 - 1)) ∧ ((0 ≤ v3 - 1) ∧ (v3 - 1 < (↑(List.length x0) : Int)) ∧ (if (decide ((List.getD x0 (Int.toNat (v3 - 1)) (0, 0, ByteArray.empty, 0, ())).1 > (List.getD x0 (Int.toNat v3) (0, 0, ByteArray.empty, 0, ())).1)) = true then (ds = [Dyn.mk Ty.bool false]) else ((InR .i64 (v3 - 1)) ∧ ((0 ≤ v3 - 1) ∧ (v3 - 1 < (↑(List.length x0) : Int)) ∧ (if ((List.getD x0 (Int.toNat (v3 - 1)) (0, 0, ByteArray.empty, 0, ())).1 == (List.getD x0 (Int.toNat v3) (0, 0, ByteArray.empty, 0, ())).1) = true then ((InR .i64 (v3 - 1)) ∧ ((0 ≤ v3 - 1) ∧ (v3 - 1 < (↑(List.length x0) : Int)) ∧ (if (decide ((List.getD x0 (Int.toNat (v3 - 1)) (0, 0, ByteArray.empty, 0, ())).2.1 > (List.getD x0 (Int.toNat v3) (0, 0, ByteArray.empty, 0, ())).2.1)) = true then (ds = [Dyn.mk Ty.bool false]) else ((InR .i64 (v3 + 1)) ∧ (R57_2 n (v3 + 1) (x0) ds))))) else ((InR .i64 (v3 + 1)) ∧ (R57_2 n (v3 + 1) (x0) ds)))))))) else ((InR .i64 (v3 + 1)) ∧ (R57_2 n (v3 + 1) (x0) ds))))) else (ds = [Dyn.mk Ty.bool (decide ((↑(List.length x0) : Int) ≤ 40))]))
end
theorem snd57 : ∀ n, (∀ (x0 : List TyB2) ds, R57 n x0 ds → ∀ K q, AtV Tryz.prog 57 (PostR kds57 oks57 ds [] [] q K) 61 K q [] [.code b57] (entE 0 0 sig57 (x0, ())) (entL sig57 (x0, ()))) ∧ (∀ (v3 : Int) (x0 : List TyB2) ds, R57_2 n v3 x0 ds → ∀ K q, AtV Tryz.prog 57 (PostR kds57 oks57 ds [] [] q K) 61 K q [] (cutAt b57 2) (E57_2 v3 x0) (L57_2 v3 x0)) := by
  intro n
  induction n with
  | zero => exact ⟨fun _ _ h => by simp only [R57] at h, fun _ _ _ h => by simp only [R57_2] at h⟩
  | succ n ih =>
  obtain ⟨ih, ih2⟩ := ih
  refine ⟨?_, ?_⟩
  · intro x0 ds h K q
    rw [R57] at h
    exact AtV.go tabOk ext57Ok mixed false [] [] [0, 3] [] [] trivial (ih2 _ _ _ h K q) (by kernel_rfl)
  · intro v3 x0 ds h K q
    rw [R57_2] at h
    by_cases b0 : (decide (v3 < (↑(List.length x0) : Int))) = true
    · rw [if_pos b0] at h
      obtain ⟨s0, s1, h⟩ := h
      by_cases b1 : (!g83_0 (List.getD x0 (Int.toNat v3) (0, 0, ByteArray.empty, 0, ()))) = true
      · rw [if_pos b1] at h
        subst h
        exact AtV.ret Tryz.func57 tabOk ext57Ok mixed false [] tys57 [true, true] (a1 b0 (a1 s0 (a1 s1 (a1 trivial (a1 b1 trivial))))) (by kernel_rfl)
      · rw [if_neg b1] at h
        replace b1 := Bool.eq_false_iff.2 b1
        by_cases b2 : (decide (v3 > 0)) = true
        · rw [if_pos b2] at h
          obtain ⟨s2, h⟩ := h
          obtain ⟨s3, s4, h⟩ := h
          by_cases b3 : (decide ((List.getD x0 (Int.toNat (v3 - 1)) (0, 0, ByteArray.empty, 0, ())).1 > (List.getD x0 (Int.toNat v3) (0, 0, ByteArray.empty, 0, ())).1)) = true
          · rw [if_pos b3] at h
            subst h
            exact AtV.ret Tryz.func57 tabOk ext57Ok mixed false [] tys57 [true, false, true, true, true] (a1 b0 (a1 s0 (a1 s1 (a1 trivial (a1 b1 (a1 b2 (a1 s2 (a1 s3 (a1 s4 (a1 b3 (a1 (rfl : true = true) trivial))))))))))) (by kernel_rfl)
          · rw [if_neg b3] at h
            replace b3 := Bool.eq_false_iff.2 b3
            obtain ⟨s5, h⟩ := h
            obtain ⟨s6, s7, h⟩ := h
            by_cases b4 : ((List.getD x0 (Int.toNat (v3 - 1)) (0, 0, ByteArray.empty, 0, ())).1 == (List.getD x0 (Int.toNat v3) (0, 0, ByteArray.empty, 0, ())).1) = true
            · rw [if_pos b4] at h
              obtain ⟨s8, h⟩ := h
              obtain ⟨s9, s10, h⟩ := h
              by_cases b5 : (decide ((List.getD x0 (Int.toNat (v3 - 1)) (0, 0, ByteArray.empty, 0, ())).2.1 > (List.getD x0 (Int.toNat v3) (0, 0, ByteArray.empty, 0, ())).2.1)) = true
              · rw [if_pos b5] at h
                subst h
                exact AtV.ret Tryz.func57 tabOk ext57Ok mixed false [] tys57 [true, false, true, false, true, true] (a1 b0 (a1 s0 (a1 s1 (a1 trivial (a1 b1 (a1 b2 (a1 s2 (a1 s3 (a1 s4 (a1 b3 (a1 s5 (a1 s6 (a1 s7 (a1 b4 (a1 s8 (a1 s9 (a1 s10 (a1 b5 trivial)))))))))))))))))) (by kernel_rfl)
              · rw [if_neg b5] at h
                replace b5 := Bool.eq_false_iff.2 b5
                obtain ⟨s11, h⟩ := h
                exact AtV.go tabOk ext57Ok mixed false [] [] [0, 3] [] [true, false, true, false, true, false] (a1 b0 (a1 s0 (a1 s1 (a1 trivial (a1 b1 (a1 b2 (a1 s2 (a1 s3 (a1 s4 (a1 b3 (a1 s5 (a1 s6 (a1 s7 (a1 b4 (a1 s8 (a1 s9 (a1 s10 (a1 b5 (a1 s11 trivial))))))))))))))))))) (ih2 _ _ _ h K q) (by kernel_rfl)
            · rw [if_neg b4] at h
              replace b4 := Bool.eq_false_iff.2 b4
              obtain ⟨s8, h⟩ := h
              exact AtV.go tabOk ext57Ok mixed false [] [] [0, 3] [] [true, false, true, false, false, false] (a1 b0 (a1 s0 (a1 s1 (a1 trivial (a1 b1 (a1 b2 (a1 s2 (a1 s3 (a1 s4 (a1 b3 (a1 s5 (a1 s6 (a1 s7 (a1 b4 (a1 (rfl : false = false) (a1 s8 trivial)))))))))))))))) (ih2 _ _ _ h K q) (by kernel_rfl)
        · rw [if_neg b2] at h
          replace b2 := Bool.eq_false_iff.2 b2
          obtain ⟨s2, h⟩ := h
          exact AtV.go tabOk ext57Ok mixed false [] [] [0, 3] [] [true, false, false, false] (a1 b0 (a1 s0 (a1 s1 (a1 trivial (a1 b1 (a1 b2 (a1 (rfl : false = false) (a1 s2 trivial)))))))) (ih2 _ _ _ h K q) (by kernel_rfl)
    · rw [if_neg b0] at h
      replace b0 := Bool.eq_false_iff.2 b0
      subst h
      exact AtV.ret Tryz.func57 tabOk ext57Ok mixed false [] tys57 [false] (a1 b0 trivial) (by kernel_rfl)
def bad57 (y x : TyB2) : Bool := if decide (y.1 > x.1) = true then true else (if (y.1 == x.1) = true then decide (y.2.1 > x.2.1) else false)
def ok57 (x0 : List TyB2) (i : Nat) (x : TyB2) : Bool := g83_0 x && (i == 0 || !bad57 (x0.getD (i - 1) ((0 : Int), (0 : Int), ByteArray.empty, (0 : Int), ())) x)
def g57_0 (x0 : List TyB2) : Bool := allI (ok57 x0) 0 x0 && decide ((x0.length : Int) ≤ 40)
def P57 (x0 : List TyB2) : Prop := True
theorem step57 (n i : Nat) (x0 : List TyB2) (hm : x0.length ≤ maxLen) (hi : i < x0.length) (ds : List Dyn)
    (h : if ok57 x0 i (x0.getD i ((0 : Int), (0 : Int), ByteArray.empty, (0 : Int), ())) = true then R57_2 n ((i : Int) + 1) x0 ds else ds = [⟨.bool, false⟩]) : R57_2 (n + 1) (i : Int) x0 ds := by
  have hu := inR_up hm hi
  have hmx : maxLen ≤ 9223372036854775807 := by decide
  rw [R57_2, if_pos (by simp only [decide_eq_true_eq]; omega)]
  simp only [Int.toNat_natCast]
  refine ⟨by omega, by omega, ?_⟩
  unfold ok57 at h
  by_cases hv : g83_0 (x0.getD i ((0 : Int), (0 : Int), ByteArray.empty, (0 : Int), ())) = true
  case neg => rw [Bool.eq_false_iff.2 hv] at h; rw [if_pos (by rw [Bool.eq_false_iff.2 hv]; rfl)]; simpa using h
  rw [if_neg (by rw [hv]; simp)]
  rw [hv] at h
  by_cases h0 : (i : Int) > 0
  case neg =>
    rw [if_neg (by simpa using h0)]
    have hi0 : (i == 0) = true := by simp; omega
    rw [hi0] at h
    exact ⟨hu, by simpa using h⟩
  rw [if_pos (by simpa using h0)]
  have hi0 : (i == 0) = false := by simp; omega
  have e : ((i : Int) - 1).toNat = i - 1 := by omega
  have hd : InR .i64 ((i : Int) - 1) := by rw [i64_iff]; omega
  rw [hi0] at h
  simp only [e]
  refine ⟨hd, by omega, by omega, ?_⟩
  by_cases c0 : (x0.getD (i - 1) ((0 : Int), (0 : Int), ByteArray.empty, (0 : Int), ())).1 > (x0.getD i ((0 : Int), (0 : Int), ByteArray.empty, (0 : Int), ())).1
  · rw [if_pos (decide_eq_true c0)]
    have : bad57 (x0.getD (i - 1) ((0 : Int), (0 : Int), ByteArray.empty, (0 : Int), ())) (x0.getD i ((0 : Int), (0 : Int), ByteArray.empty, (0 : Int), ())) = true := by unfold bad57; rw [if_pos (decide_eq_true c0)]
    rw [this] at h
    simpa using h
  · rw [if_neg (by simpa using c0)]
    refine ⟨hd, by omega, by omega, ?_⟩
    by_cases c1 : ((x0.getD (i - 1) ((0 : Int), (0 : Int), ByteArray.empty, (0 : Int), ())).1 == (x0.getD i ((0 : Int), (0 : Int), ByteArray.empty, (0 : Int), ())).1) = true
    · rw [if_pos c1]
      refine ⟨hd, by omega, by omega, ?_⟩
      have eb : bad57 (x0.getD (i - 1) ((0 : Int), (0 : Int), ByteArray.empty, (0 : Int), ())) (x0.getD i ((0 : Int), (0 : Int), ByteArray.empty, (0 : Int), ())) = decide ((x0.getD (i - 1) ((0 : Int), (0 : Int), ByteArray.empty, (0 : Int), ())).2.1 > (x0.getD i ((0 : Int), (0 : Int), ByteArray.empty, (0 : Int), ())).2.1) := by unfold bad57; rw [if_neg (by simpa using c0), if_pos c1]
      rw [eb] at h
      by_cases c2 : (x0.getD (i - 1) ((0 : Int), (0 : Int), ByteArray.empty, (0 : Int), ())).2.1 > (x0.getD i ((0 : Int), (0 : Int), ByteArray.empty, (0 : Int), ())).2.1
      · rw [if_pos (decide_eq_true c2)]
        rw [decide_eq_true c2] at h
        simpa using h
      · rw [if_neg (by simpa using c2)]
        rw [decide_eq_false c2] at h
        exact ⟨hu, by simpa using h⟩
    · rw [if_neg c1]
      have eb : bad57 (x0.getD (i - 1) ((0 : Int), (0 : Int), ByteArray.empty, (0 : Int), ())) (x0.getD i ((0 : Int), (0 : Int), ByteArray.empty, (0 : Int), ())) = false := by unfold bad57; rw [if_neg (by simpa using c0), if_neg c1]
      rw [eb] at h
      exact ⟨hu, by simpa using h⟩
theorem top57 (x0 : List TyB2) (hw : x0.length ≤ maxLen) : R57 (x0.length + 1 + 1) x0 [⟨.bool, g57_0 x0⟩] := by
  rw [R57]
  have key := loop_testI x0 ((0 : Int), (0 : Int), ByteArray.empty, (0 : Int), ()) (ok57 x0) [(⟨.bool, false⟩ : Dyn)] [⟨.bool, decide ((x0.length : Int) ≤ 40)⟩] (fun n i ds => R57_2 n i x0 ds) (fun n => ?_) (fun n i hi hok ds hr => ?_) (fun n i hi hok => ?_)
  · unfold g57_0
    cases h : allI (ok57 x0) 0 x0 with
    | true => rw [if_pos h] at key; simpa using key
    | false => rw [if_neg (by rw [h]; simp)] at key; simpa using key
  · rw [R57_2, if_neg (by simp)]
  · exact step57 n i x0 hw hi ds (by rw [if_pos hok]; exact hr)
  · exact step57 n i x0 hw hi _ (by rw [if_neg (by rw [hok]; simp)])
def S57 : Am.Spec := { sig := sig57, pre := fun ⟨x0, _⟩ => P57 x0, res := fun ⟨x0, _⟩ => [⟨Ty.bool, g57_0 x0⟩] }
theorem con57 : Contract Tryz.prog 57 S57 := contract_of Tryz.func57 hb57 (Nat.le_of_ble_eq_true (by kernel_rfl)) (fun ⟨x0, _⟩ h hwf K q =>
  (snd57 _).1 x0 _ (top57 x0 hwf.1.1) K q)
end
noncomputable section
def ext18 : Ext := [(49, S49), (50, S50), (51, S51), (52, S52), (53, S53), (54, S54), (55, S55), (56, S56), (57, S57)]
theorem ext18Ok : ExtOk Tryz.prog ext18 := ⟨⟨ca49, con49⟩, ⟨ca50, con50⟩, ⟨ca51, con51⟩, ⟨ca52, con52⟩, ⟨ca53, con53⟩, ⟨ca54, con54⟩, ⟨ca55, con55⟩, ⟨ca56, con56⟩, ⟨ca57, con57⟩, trivial⟩
noncomputable def b18 : Code := bodyOf Tryz.f18
theorem hb18 : Tryz.f18.body = some b18 := by kernel_rfl
def sig18 : List AT := [AT.p YA0]
def tys18 : List Ty := [Ty.bool]
def kds18 : List RK := []
def oks18 : List AT := owns sig18
def P18 (x0 : TyA0) : Prop := True
def g18_0 (x0 : TyA0) : Bool := (if (!g49_0 x0.1) = true then false else (if (!g50_0 x0.2.1) = true then false else (if (!g51_0 x0.2.2.1) = true then false else (if (!g52_0 x0.2.2.2.1) = true then false else (if (!g53_0 x0.2.2.2.2.1) = true then false else (if (!g54_0 x0.2.2.2.2.2.1) = true then false else (if (g55_0 x0.2.2.2.2.2.2.1 x0.2.2.2.2.2.2.2.1 x0.2.2.2.2.2.2.2.2.1 != 0) = true then false else (if (g56_0 x0.2.2.2.2.2.2.2.2.2.1 x0.2.2.2.2.2.2.2.2.2.2.1 == 0) = true then g57_0 x0.2.2.2.2.2.2.2.2.2.2.2.1 else false))))))))
theorem at18 (x0 : TyA0) (h : P18 x0) (K : Ctx) (q : Nat → Value) : AtV Tryz.prog 18 (PostR kds18 oks18 [⟨Ty.bool, g18_0 x0⟩] [] [] q K) 76 K q [] [.code b18] (entE 0 0 sig18 (x0, ())) (entL sig18 (x0, ())) := by
  unfold P18 at h
  unfold g18_0
  by_cases b0 : (!g49_0 x0.1) = true
  · try simp only [if_pos b0] at h ⊢
    exact AtV.ret Tryz.func18 tabOk ext18Ok mixed false [] tys18 [true, true, true, true] (a1 trivial (a1 b0 (a1 (rfl : true = true) (a1 (rfl : true = true) (a1 (rfl : true = true) trivial))))) (by kernel_rfl)
  · try simp only [if_neg b0] at h ⊢
    replace b0 := Bool.eq_false_iff.2 b0
    by_cases b1 : (!g50_0 x0.2.1) = true
    · try simp only [if_pos b1] at h ⊢
      exact AtV.ret Tryz.func18 tabOk ext18Ok mixed false [] tys18 [false, true, true, true] (a1 trivial (a1 b0 (a1 trivial (a1 b1 (a1 (rfl : true = true) (a1 (rfl : true = true) trivial)))))) (by kernel_rfl)
    · try simp only [if_neg b1] at h ⊢
      replace b1 := Bool.eq_false_iff.2 b1
      by_cases b2 : (!g51_0 x0.2.2.1) = true
      · try simp only [if_pos b2] at h ⊢
        exact AtV.ret Tryz.func18 tabOk ext18Ok mixed false [] tys18 [false, false, true, true] (a1 trivial (a1 b0 (a1 trivial (a1 b1 (a1 trivial (a1 b2 (a1 (rfl : true = true) trivial))))))) (by kernel_rfl)
      · try simp only [if_neg b2] at h ⊢
        replace b2 := Bool.eq_false_iff.2 b2
        by_cases b3 : (!g52_0 x0.2.2.2.1) = true
        · try simp only [if_pos b3] at h ⊢
          exact AtV.ret Tryz.func18 tabOk ext18Ok mixed false [] tys18 [false, false, false, true] (a1 trivial (a1 b0 (a1 trivial (a1 b1 (a1 trivial (a1 b2 (a1 trivial (a1 b3 trivial)))))))) (by kernel_rfl)
        · try simp only [if_neg b3] at h ⊢
          replace b3 := Bool.eq_false_iff.2 b3
          by_cases b4 : (!g53_0 x0.2.2.2.2.1) = true
          · try simp only [if_pos b4] at h ⊢
            exact AtV.ret Tryz.func18 tabOk ext18Ok mixed false [] tys18 [false, false, false, false, true, true, true] (a1 trivial (a1 b0 (a1 trivial (a1 b1 (a1 trivial (a1 b2 (a1 trivial (a1 b3 (a1 trivial (a1 b4 (a1 (rfl : true = true) (a1 (rfl : true = true) trivial)))))))))))) (by kernel_rfl)
          · try simp only [if_neg b4] at h ⊢
            replace b4 := Bool.eq_false_iff.2 b4
            by_cases b5 : (!g54_0 x0.2.2.2.2.2.1) = true
            · try simp only [if_pos b5] at h ⊢
              exact AtV.ret Tryz.func18 tabOk ext18Ok mixed false [] tys18 [false, false, false, false, false, true, true] (a1 trivial (a1 b0 (a1 trivial (a1 b1 (a1 trivial (a1 b2 (a1 trivial (a1 b3 (a1 trivial (a1 b4 (a1 trivial (a1 b5 (a1 (rfl : true = true) trivial))))))))))))) (by kernel_rfl)
            · try simp only [if_neg b5] at h ⊢
              replace b5 := Bool.eq_false_iff.2 b5
              by_cases b6 : (g55_0 x0.2.2.2.2.2.2.1 x0.2.2.2.2.2.2.2.1 x0.2.2.2.2.2.2.2.2.1 != 0) = true
              · try simp only [if_pos b6] at h ⊢
                exact AtV.ret Tryz.func18 tabOk ext18Ok mixed false [] tys18 [false, false, false, false, false, false, true] (a1 trivial (a1 b0 (a1 trivial (a1 b1 (a1 trivial (a1 b2 (a1 trivial (a1 b3 (a1 trivial (a1 b4 (a1 trivial (a1 b5 (a1 trivial (a1 b6 trivial)))))))))))))) (by kernel_rfl)
              · try simp only [if_neg b6] at h ⊢
                replace b6 := Bool.eq_false_iff.2 b6
                by_cases b7 : (g56_0 x0.2.2.2.2.2.2.2.2.2.1 x0.2.2.2.2.2.2.2.2.2.2.1 == 0) = true
                · try simp only [if_pos b7] at h ⊢
                  exact AtV.ret Tryz.func18 tabOk ext18Ok mixed false [] tys18 [false, false, false, false, false, false, false, true] (a1 trivial (a1 b0 (a1 trivial (a1 b1 (a1 trivial (a1 b2 (a1 trivial (a1 b3 (a1 trivial (a1 b4 (a1 trivial (a1 b5 (a1 trivial (a1 b6 (a1 trivial (a1 b7 (a1 trivial trivial))))))))))))))))) (by kernel_rfl)
                · try simp only [if_neg b7] at h ⊢
                  replace b7 := Bool.eq_false_iff.2 b7
                  exact AtV.ret Tryz.func18 tabOk ext18Ok mixed false [] tys18 [false, false, false, false, false, false, false, false] (a1 trivial (a1 b0 (a1 trivial (a1 b1 (a1 trivial (a1 b2 (a1 trivial (a1 b3 (a1 trivial (a1 b4 (a1 trivial (a1 b5 (a1 trivial (a1 b6 (a1 trivial (a1 b7 trivial)))))))))))))))) (by kernel_rfl)
def S18 : Am.Spec := { sig := sig18, pre := fun ⟨x0, _⟩ => P18 x0, res := fun ⟨x0, _⟩ => [⟨Ty.bool, g18_0 x0⟩], kds := kds18 }
theorem con18 : Contract Tryz.prog 18 S18 := contract_of Tryz.func18 hb18 (Nat.le_of_ble_eq_true (by kernel_rfl)) (fun ⟨x0, _⟩ h _ K q => at18 x0 h K q)
end
noncomputable section
def ext59 : Ext := []
theorem ext59Ok : ExtOk Tryz.prog ext59 := trivial
noncomputable def b59 : Code := bodyOf Tryz.f59
theorem hb59 : Tryz.f59.body = some b59 := by kernel_rfl
def sig59 : List AT := [AT.v (Ty.int .i64)]
def tys59 : List Ty := [Ty.str]
def kds59 : List RK := []
def oks59 : List AT := owns sig59
def E59_5 (v4 : Int) (h0 : List Int) (x0 : Int) : Env := [(0, PV.a (Atom.val (Value.int .i64 x0))), (3, PV.a (Atom.osl 0 Option.none)), (4, PV.a (Atom.val (Value.int .i64 v4)))]
def L59_5 (v4 : Int) (h0 : List Int) (x0 : Int) : Heap := [Option.some (Arr.mk (Ty.int .u8) h0 false Option.none Option.none)]
def E59_15 (v7 : Int) (h0 : List Int) (h1 : List Int) : Env := [(3, PV.a (Atom.osl 0 Option.none)), (6, PV.a (Atom.osl 1 Option.none)), (7, PV.a (Atom.val (Value.int .i64 v7)))]
def L59_15 (v7 : Int) (h0 : List Int) (h1 : List Int) : Heap := [Option.some (Arr.mk (Ty.int .u8) h0 false Option.none Option.none), Option.some (Arr.mk (Ty.int .u8) h1 false Option.none Option.none)]
mutual
def R59 : Nat → Int → List Dyn → Prop
  | 0, _, _ => False
  | n + 1, x0, ds => (if (x0 == 0) = true then (ds = [Dyn.mk Ty.str (ByteArray.mk #[48])]) else (R59_5 n (x0) ([]) (x0) ds))
def R59_5 : Nat → Int → List Int → Int → List Dyn → Prop
  | 0, _, _, _, _ => False
  | n + 1, v4, h0, x0, ds => (if (v4 != 0) = true then ((InR .i64 (Int.tmod v4 10)) ∧ (if (decide (Int.tmod v4 10 < 0)) = true then ((InR .i64 (0 - Int.tmod v4 10)) ∧ ((InR .i64 (48 + (0 - Int.tmod v4 10))) ∧ ((InR .u8 (48 + (0 - Int.tmod v4 10))) ∧ (((List.length h0 + 1) * 1 ≤ 140737488355328) ∧ ((InR .i64 (Int.tdiv v4 10)) ∧ (R59_5 n (Int.tdiv v4 10) (h0 ++ [48 + (0 - Int.tmod v4 10)]) (x0) ds)))))) else ((InR .i64 (48 + Int.tmod v4 10)) ∧ ((InR .u8 (48 + Int.tmod v4 10)) ∧ (((List.length h0 + 1) * 1 ≤ 140737488355328) ∧ ((InR .i64 (Int.tdiv v4 10)) ∧ (R59_5 n (Int.tdiv v4 10) (h0 ++ [48 + Int.tmod v4 10]) (x0) ds))))))) else (if (decide (x0 < 0)) = true then (((List.length h0 + 1) * 1 ≤ 140737488355328) ∧ ((InR .i64 ((↑(List.length (h0 ++ [45])) : Int) - 1)) ∧ (R59_15 n ((↑(List.length (h0 ++ [45])) : Int) - 1) (h0 ++ [45]) ([]) ds))) else ((InR .i64 ((↑(List.length h0) : Int) - 1)) ∧ (R59_15 n ((↑(List.length h0) : Int) - 1) (h0) ([]) ds))))
def R59_15 : Nat → Int → List Int → List Int → List Dyn → Prop
  | 0, _, _, _, _ => False
  | n + 1, v7, h0, h1, ds => (if (decide (v7 ≥ 0)) = true then ((0 ≤ v7) ∧ (v7 < (↑(List.length h0) : Int)) ∧ (((List.length h1 + 1) * 1 ≤ 140737488355328) ∧ ((InR .i64 (v7 - 1)) ∧ (R59_15 n (v7 - 1) (h0) (h1 ++ [List.getD h0 (Int.toNat v7) 0]) ds)))) else (ds = [Dyn.mk Ty.str (bytesStr h1)]))
end
theorem snd59 : ∀ n, (∀ (x0 : Int) ds, R59 n x0 ds → ∀ K q, AtV Tryz.prog 59 (PostR kds59 oks59 ds [] [] q K) 50 K q [] [.code b59] (entE 0 0 sig59 (x0, ())) (entL sig59 (x0, ()))) ∧ (∀ (v4 : Int) (h0 : List Int) (x0 : Int) ds, R59_5 n v4 h0 x0 ds → ∀ K q, AtV Tryz.prog 59 (PostR kds59 oks59 ds [] [] q K) 50 K q [] (cutAt b59 5) (E59_5 v4 h0 x0) (L59_5 v4 h0 x0)) ∧ (∀ (v7 : Int) (h0 : List Int) (h1 : List Int) ds, R59_15 n v7 h0 h1 ds → ∀ K q, AtV Tryz.prog 59 (PostR kds59 oks59 ds [] [] q K) 50 K q [] (cutAt b59 15) (E59_15 v7 h0 h1) (L59_15 v7 h0 h1)) := by
  intro n
  induction n with
  | zero => exact ⟨fun _ _ h => by simp only [R59] at h, fun _ _ _ _ h => by simp only [R59_5] at h, fun _ _ _ _ h => by simp only [R59_15] at h⟩
  | succ n ih =>
  obtain ⟨ih, ih5, ih15⟩ := ih
  refine ⟨?_, ?_, ?_⟩
  · intro x0 ds h K q
    rw [R59] at h
    by_cases b0 : (x0 == 0) = true
    · rw [if_pos b0] at h
      subst h
      exact AtV.ret Tryz.func59 tabOk ext59Ok mixed false [] tys59 [true] (a1 b0 trivial) (by kernel_rfl)
    · rw [if_neg b0] at h
      replace b0 := Bool.eq_false_iff.2 b0
      exact AtV.go tabOk ext59Ok mixed false [] [] [0, 3, 4] [0] [false] (a1 b0 trivial) (ih5 _ _ _ _ h K q) (by kernel_rfl)
  · intro v4 h0 x0 ds h K q
    rw [R59_5] at h
    by_cases b0 : (v4 != 0) = true
    · rw [if_pos b0] at h
      obtain ⟨s0, h⟩ := h
      by_cases b1 : (decide (Int.tmod v4 10 < 0)) = true
      · rw [if_pos b1] at h
        obtain ⟨s1, h⟩ := h
        obtain ⟨s2, h⟩ := h
        obtain ⟨s3, h⟩ := h
        obtain ⟨s4, h⟩ := h
        obtain ⟨s5, h⟩ := h
        exact AtV.go tabOk ext59Ok mixed false [] [] [0, 3, 4] [0] [true, true] (a1 b0 (a1 ((by decide) : (10 : Int) ≠ (0 : Int)) (a1 s0 (a1 b1 (a1 s1 (a1 s2 (a1 s3 (a1 s4 (a1 ((by decide) : (10 : Int) ≠ (0 : Int)) (a1 s5 trivial)))))))))) (ih5 _ _ _ _ h K q) (by kernel_rfl)
      · rw [if_neg b1] at h
        replace b1 := Bool.eq_false_iff.2 b1
        obtain ⟨s1, h⟩ := h
        obtain ⟨s2, h⟩ := h
        obtain ⟨s3, h⟩ := h
        obtain ⟨s4, h⟩ := h
        exact AtV.go tabOk ext59Ok mixed false [] [] [0, 3, 4] [0] [true, false] (a1 b0 (a1 ((by decide) : (10 : Int) ≠ (0 : Int)) (a1 s0 (a1 b1 (a1 s1 (a1 s2 (a1 s3 (a1 ((by decide) : (10 : Int) ≠ (0 : Int)) (a1 s4 trivial))))))))) (ih5 _ _ _ _ h K q) (by kernel_rfl)
    · rw [if_neg b0] at h
      replace b0 := Bool.eq_false_iff.2 b0
      by_cases b1 : (decide (x0 < 0)) = true
      · rw [if_pos b1] at h
        obtain ⟨s0, h⟩ := h
        obtain ⟨s1, h⟩ := h
        exact AtV.go tabOk ext59Ok mixed false [] [] [3, 6, 7] [0, 2] [false, true] (a1 b0 (a1 b1 (a1 s0 (a1 s1 trivial)))) (ih15 _ _ _ _ h K q) (by kernel_rfl)
      · rw [if_neg b1] at h
        replace b1 := Bool.eq_false_iff.2 b1
        obtain ⟨s0, h⟩ := h
        exact AtV.go tabOk ext59Ok mixed false [] [] [3, 6, 7] [0, 1] [false, false] (a1 b0 (a1 b1 (a1 s0 trivial))) (ih15 _ _ _ _ h K q) (by kernel_rfl)
  · intro v7 h0 h1 ds h K q
    rw [R59_15] at h
    by_cases b0 : (decide (v7 ≥ 0)) = true
    · rw [if_pos b0] at h
      obtain ⟨s0, s1, h⟩ := h
      obtain ⟨s2, h⟩ := h
      obtain ⟨s3, h⟩ := h
      exact AtV.go tabOk ext59Ok mixed false [] [] [3, 6, 7] [0, 1] [true] (a1 b0 (a1 s0 (a1 s1 (a1 s2 (a1 s3 trivial))))) (ih15 _ _ _ _ h K q) (by kernel_rfl)
    · rw [if_neg b0] at h
      replace b0 := Bool.eq_false_iff.2 b0
      subst h
      exact AtV.ret Tryz.func59 tabOk ext59Ok mixed false [] tys59 [false] (a1 b0 trivial) (by kernel_rfl)
def g59_0 (x0 : Int) : ByteArray := numB x0
def P59 (x0 : Int) : Prop := True
theorem bstr59 (xs : List Int) : bytesStr xs = ⟨⟨xs.map fun n => UInt8.ofNat n.toNat⟩⟩ := by
  have key : ∀ (xs : List Int) (s : ByteArray), (xs.foldl (fun r n => r.push (UInt8.ofNat n.toNat)) s).data.toList = s.data.toList ++ xs.map fun n => UInt8.ofNat n.toNat := by
    intro xs
    induction xs with
    | nil => intro s; simp
    | cons a r ih =>
      intro s
      rw [List.foldl_cons, ih]
      show (s.data.push _).toList ++ _ = _
      rw [Array.toList_push]
      simp
  apply ByteArray.ext
  apply Array.ext'
  have := key xs ByteArray.empty
  unfold bytesStr
  rw [this]
  rfl
theorem bstrB59 (l : List UInt8) : bytesStr (l.map fun b => (b.toNat : Int)) = ⟨⟨l⟩⟩ := by
  rw [bstr59, List.map_map]
  congr 2
  conv => rhs; rw [← List.map_id l]
  refine List.map_congr_left fun b _ => ?_
  show UInt8.ofNat ((b.toNat : Int)).toNat = b
  rw [Int.toNat_natCast, UInt8.ofNat_toNat]
def rd59 (m : Nat) : List Int := if h : m = 0 then [] else ((48 + m % 10 : Nat) : Int) :: rd59 (m / 10)
termination_by m
decreasing_by omega
theorem rd059 : rd59 0 = [] := by rw [rd59, dif_pos rfl]
theorem rds59 {m : Nat} (h : m ≠ 0) : rd59 m = ((48 + m % 10 : Nat) : Int) :: rd59 (m / 10) := by rw [rd59, dif_neg h]
theorem rdl59 : ∀ (k m : Nat), m < 10 ^ k → (rd59 m).length ≤ k
  | 0, m, h => by obtain rfl : m = 0 := by simpa using h
                  rw [rd059]; exact Nat.le_refl _
  | k + 1, m, h => by
    by_cases h0 : m = 0
    · rw [h0, rd059]; exact Nat.zero_le _
    · rw [rds59 h0, List.length_cons]
      have := rdl59 k (m / 10) (by rw [Nat.pow_succ] at h; omega)
      omega
theorem rdd59 (m : Nat) (h : m ≠ 0) : bytesStr (rd59 m).reverse = ⟨⟨Lib.decDigits m⟩⟩ := by
  have key : ∀ m : Nat, m ≠ 0 → (rd59 m).reverse = (Lib.decDigits m).map fun b => (b.toNat : Int) := by
    intro m
    induction m using Nat.strongRecOn with
    | _ m ih =>
      intro h
      rw [rds59 h, List.reverse_cons, Lib.decDigits]
      have e : (UInt8.ofNat (48 + m % 10)).toNat = 48 + m % 10 := by rw [UInt8.toNat_ofNat']; omega
      split
      · rename_i hs
        rw [show m / 10 = 0 by omega, rd059]
        have e' : (UInt8.ofNat (48 + m)).toNat = 48 + m % 10 := by rw [UInt8.toNat_ofNat']; omega
        rw [List.map_singleton, e']
        rfl
      · rw [ih (m / 10) (by omega) (by omega), List.map_append, List.map_singleton, e]
  rw [key m h]
  exact bstrB59 _
theorem back59 (h0 : List Int) : ∀ (j : Nat) (h1 : List Int), j ≤ h0.length → h1.length + j ≤ 64 → R59_15 (j + 1) ((j : Int) - 1) h0 h1 [⟨.str, bytesStr (h1 ++ (h0.take j).reverse)⟩]
  | 0, h1, _, _ => by
    rw [R59_15, if_neg (by decide)]
    simp
  | j + 1, h1, hj, hl => by
    have ih := back59 h0 j (h1 ++ [h0.getD j 0]) (by omega) (by rw [List.length_append, List.length_singleton]; omega)
    have e : ((j + 1 : Nat) : Int) - 1 = (j : Int) := by omega
    rw [R59_15, e, if_pos (by simp only [decide_eq_true_eq]; omega), Int.toNat_natCast]
    refine ⟨by omega, by omega, by omega, by rw [i64_iff]; omega, ?_⟩
    have et : (h0.take (j + 1)).reverse = h0.getD j 0 :: (h0.take j).reverse := by
      have hlt : j < h0.length := by omega
      rw [List.take_add_one, List.getElem?_eq_getElem hlt, List.reverse_append, List.getD_eq_getElem?_getD, List.getElem?_eq_getElem hlt]
      rfl
    rw [et]
    rw [List.append_assoc] at ih
    exact ih
theorem last59 (x0 : Int) (h0 : List Int) (hl : h0.length ≤ 20) : R59_5 ((if x0 < 0 then h0.length + 1 else h0.length) + 1 + 1) 0 h0 x0 [⟨.str, bytesStr ((if x0 < 0 then h0 ++ [45] else h0)).reverse⟩] := by
  rw [R59_5, if_neg (by decide)]
  by_cases hx : x0 < 0
  · have b := back59 (h0 ++ [45]) (h0.length + 1) [] (by rw [List.length_append, List.length_singleton]; omega) (by simp; omega)
    have e : (h0 ++ [(45 : Int)]).length = h0.length + 1 := by rw [List.length_append, List.length_singleton]
    rw [List.take_of_length_le (by omega)] at b
    simp only [hx, decide_true, if_true]
    rw [e]
    exact ⟨by omega, by rw [i64_iff]; omega, b⟩
  · have b := back59 h0 h0.length [] (Nat.le_refl _) (by simp; omega)
    rw [List.take_of_length_le (Nat.le_refl _)] at b
    simp only [hx, decide_false, Bool.false_eq_true, if_false]
    exact ⟨by rw [i64_iff]; omega, b⟩
theorem run59 (x0 : Int) (ds : List Dyn) (F : List Int) (K : Nat) (hF : R59_5 K 0 F x0 ds) : ∀ (m : Nat) (v : Int) (h0 : List Int), (v = (m : Int) ∨ v = -(m : Int)) → m ≤ 9223372036854775808 → InR .i64 v → h0.length + (rd59 m).length ≤ 20 → h0 ++ rd59 m = F → R59_5 ((rd59 m).length + K) v h0 x0 ds := by
  intro m
  induction m using Nat.strongRecOn with
  | _ m ih =>
    intro v h0 hv hm hi hl he
    by_cases h : m = 0
    · subst h
      obtain rfl : v = 0 := by omega
      rw [rd059] at he ⊢
      rw [List.append_nil] at he
      rw [he, List.length_nil, Nat.zero_add]
      exact hF
    · have hr := rds59 h
      rw [hr] at he hl ⊢
      rw [List.length_cons] at hl ⊢
      have hne : (v != 0) = true := by
        have : v ≠ 0 := by omega
        simpa using this
      rw [i64_iff] at hi
      have e1 : (rd59 (m / 10)).length + 1 + K = ((rd59 (m / 10)).length + K) + 1 := by omega
      have next : ∀ v', (v' = ((m / 10 : Nat) : Int) ∨ v' = -((m / 10 : Nat) : Int)) → R59_5 ((rd59 (m / 10)).length + K) v' (h0 ++ [((48 + m % 10 : Nat) : Int)]) x0 ds := fun v' hv' =>
        ih (m / 10) (by omega) v' _ hv' (by omega) (by rw [i64_iff]; omega) (by rw [List.length_append, List.length_singleton]; omega) (by rw [List.append_assoc]; exact he)
      rw [e1, R59_5, if_pos hne]
      rcases hv with rfl | rfl
      · have t1 : Int.tmod (m : Int) 10 = ((m % 10 : Nat) : Int) := rfl
        have t2 : Int.tdiv (m : Int) 10 = ((m / 10 : Nat) : Int) := rfl
        rw [t1, t2]
        refine ⟨by rw [i64_iff]; omega, ?_⟩
        rw [if_neg (by simp only [decide_eq_true_eq]; omega)]
        have e2 : 48 + ((m % 10 : Nat) : Int) = ((48 + m % 10 : Nat) : Int) := by omega
        rw [e2]
        exact ⟨by rw [i64_iff]; omega, by rw [u8_iff]; omega, by omega, by rw [i64_iff]; omega, next _ (.inl rfl)⟩
      · have t1 : Int.tmod (-(m : Int)) 10 = -((m % 10 : Nat) : Int) := by rw [Int.neg_tmod]; rfl
        have t2 : Int.tdiv (-(m : Int)) 10 = -((m / 10 : Nat) : Int) := by rw [Int.neg_tdiv]; rfl
        rw [t1, t2]
        refine ⟨by rw [i64_iff]; omega, ?_⟩
        by_cases hz : m % 10 = 0
        · rw [if_neg (by simp only [decide_eq_true_eq]; omega)]
          have e2 : 48 + -((m % 10 : Nat) : Int) = ((48 + m % 10 : Nat) : Int) := by omega
          rw [e2]
          exact ⟨by rw [i64_iff]; omega, by rw [u8_iff]; omega, by omega, by rw [i64_iff]; omega, next _ (.inr rfl)⟩
        · rw [if_pos (by simp only [decide_eq_true_eq]; omega)]
          have e2 : 48 + (0 - -((m % 10 : Nat) : Int)) = ((48 + m % 10 : Nat) : Int) := by omega
          rw [e2]
          exact ⟨by rw [i64_iff]; omega, by rw [i64_iff]; omega, by rw [u8_iff]; omega, by omega, by rw [i64_iff]; omega, next _ (.inr rfl)⟩
theorem top59 (x0 : Int) (hi : InR .i64 x0) : ∃ n, R59 n x0 [⟨.str, g59_0 x0⟩] := by
  unfold g59_0 numB Lib.itoa
  by_cases h : x0 = 0
  · subst h
    refine ⟨1, ?_⟩
    rw [R59, if_pos (by rfl), if_neg (by decide)]
    have e : Lib.decDigits (Int.toNat 0) = [48] := by rw [Lib.decDigits, dif_pos (by decide)]; rfl
    rw [e]
  · have hi' := hi
    rw [i64_iff] at hi'
    have hn : x0.natAbs ≠ 0 := by omega
    have hl := rdl59 19 x0.natAbs (by omega)
    refine ⟨(rd59 x0.natAbs).length + ((if x0 < 0 then (rd59 x0.natAbs).length + 1 else (rd59 x0.natAbs).length) + 1 + 1) + 1, ?_⟩
    rw [R59, if_neg (by simpa using h)]
    have hlast := last59 x0 (rd59 x0.natAbs) (by omega)
    have hrun := run59 x0 _ (rd59 x0.natAbs) _ hlast x0.natAbs x0 [] (by omega) (by omega) hi (by simp; omega) rfl
    have e : bytesStr (if x0 < 0 then rd59 x0.natAbs ++ [45] else rd59 x0.natAbs).reverse = ⟨(if x0 < 0 then 45 :: Lib.decDigits x0.natAbs else Lib.decDigits x0.toNat).toArray⟩ := by
      by_cases hx : x0 < 0
      · rw [if_pos hx, if_pos hx, List.reverse_append]
        show bytesStr ((45 : Int) :: (rd59 x0.natAbs).reverse) = _
        have := rdd59 x0.natAbs hn
        have e0 : bytesStr ((45 : Int) :: (rd59 x0.natAbs).reverse) = ⟨⟨45 :: (bytesStr (rd59 x0.natAbs).reverse).data.toList⟩⟩ := by rw [bstr59, bstr59]; rfl
        rw [e0, this]
      · rw [if_neg hx, if_neg hx, rdd59 x0.natAbs hn, show x0.natAbs = x0.toNat by omega]
    rw [e] at hrun
    exact hrun
def S59 : Am.Spec := { sig := sig59, pre := fun ⟨x0, _⟩ => P59 x0, res := fun ⟨x0, _⟩ => [⟨.str, g59_0 x0⟩] }
theorem con59 : Contract Tryz.prog 59 S59 := contract_of Tryz.func59 hb59 (Nat.le_of_ble_eq_true (by kernel_rfl)) (fun ⟨x0, _⟩ h hwf K q => by
  obtain ⟨n, hn⟩ := top59 x0 hwf.1
  exact (snd59 n).1 x0 _ hn K q)
end
noncomputable section
def ext104 : Ext := [(59, S59)]
theorem ext104Ok : ExtOk Tryz.prog ext104 := ⟨⟨ca59, con59⟩, trivial⟩
noncomputable def b104 : Code := bodyOf Tryz.f104
theorem hb104 : Tryz.f104.body = some b104 := by kernel_rfl
def sig104 : List AT := [AT.v (Ty.int .i64), AT.v (Ty.int .i64), AT.v (Ty.str)]
def tys104 : List Ty := [Ty.str]
def kds104 : List RK := []
def oks104 : List AT := owns sig104
def P104 (x0 : Int) (x1 : Int) (x2 : ByteArray) : Prop := ((ByteArray.size (g59_0 x0) + 1 ≤ 9223372036854775807) ∧ ((ByteArray.size (g59_0 x0 ++ ByteArray.mk #[32]) + ByteArray.size (g59_0 x1) ≤ 9223372036854775807) ∧ ((ByteArray.size (g59_0 x0 ++ ByteArray.mk #[32] ++ g59_0 x1) + 1 ≤ 9223372036854775807) ∧ ((ByteArray.size (g59_0 x0 ++ ByteArray.mk #[32] ++ g59_0 x1 ++ ByteArray.mk #[32]) + ByteArray.size x2 ≤ 9223372036854775807) ∧ True))))
def g104_0 (x0 : Int) (x1 : Int) (x2 : ByteArray) : ByteArray := g59_0 x0 ++ ByteArray.mk #[32] ++ g59_0 x1 ++ ByteArray.mk #[32] ++ x2
theorem at104 (x0 : Int) (x1 : Int) (x2 : ByteArray) (h : P104 x0 x1 x2) (K : Ctx) (q : Nat → Value) : AtV Tryz.prog 104 (PostR kds104 oks104 [⟨Ty.str, g104_0 x0 x1 x2⟩] [] [] q K) 16 K q [] [.code b104] (entE 0 0 sig104 (x0, x1, x2, ())) (entL sig104 (x0, x1, x2, ())) := by
  unfold P104 at h
  unfold g104_0
  obtain ⟨s0, h⟩ := h
  obtain ⟨s1, h⟩ := h
  obtain ⟨s2, h⟩ := h
  obtain ⟨s3, h⟩ := h
  exact AtV.ret Tryz.func104 tabOk ext104Ok mixed false [] tys104 [] (a1 trivial (a1 s0 (a1 trivial (a1 s1 (a1 s2 (a1 s3 trivial)))))) (by kernel_rfl)
def S104 : Am.Spec := { sig := sig104, pre := fun ⟨x0, x1, x2, _⟩ => P104 x0 x1 x2, res := fun ⟨x0, x1, x2, _⟩ => [⟨Ty.str, g104_0 x0 x1 x2⟩], kds := kds104 }
theorem con104 : Contract Tryz.prog 104 S104 := contract_of Tryz.func104 hb104 (Nat.le_of_ble_eq_true (by kernel_rfl)) (fun ⟨x0, x1, x2, _⟩ h _ K q => at104 x0 x1 x2 h K q)
end
noncomputable section
def ext103 : Ext := []
theorem ext103Ok : ExtOk Tryz.prog ext103 := trivial
noncomputable def b103 : Code := bodyOf Tryz.f103
theorem hb103 : Tryz.f103.body = some b103 := by kernel_rfl
def sig103 : List AT := [AT.v (Ty.str), AT.v (Ty.int .i64)]
def tys103 : List Ty := [Ty.int .i64]
def kds103 : List RK := []
def oks103 : List AT := owns sig103
def E103_2 (v5 : Int) (x0 : ByteArray) (x1 : Int) : Env := [(0, PV.a (Atom.val (Value.string x0))), (1, PV.a (Atom.val (Value.int .i64 x1))), (5, PV.a (Atom.val (Value.int .i64 v5)))]
def L103_2 (v5 : Int) (x0 : ByteArray) (x1 : Int) : Heap := []
def E103_6 (v1 : Int) (v6 : Int) (x0 : ByteArray) (v5 : Int) : Env := [(0, PV.a (Atom.val (Value.string x0))), (1, PV.a (Atom.val (Value.int .i64 v1))), (5, PV.a (Atom.val (Value.int .i64 v5))), (6, PV.a (Atom.val (Value.int .i64 v6)))]
def L103_6 (v1 : Int) (v6 : Int) (x0 : ByteArray) (v5 : Int) : Heap := []
mutual
def R103 : Nat → ByteArray → Int → List Dyn → Prop
  | 0, _, _, _ => False
  | n + 1, x0, x1, ds => (R103_2 n (0) (x0) (x1) ds)
def R103_2 : Nat → Int → ByteArray → Int → List Dyn → Prop
  | 0, _, _, _, _ => False
  | n + 1, v5, x0, x1, ds => (if (decide (v5 < (↑(ByteArray.size x0) : Int))) = true then ((0 ≤ v5) ∧ (v5 < (↑(ByteArray.size x0) : Int)) ∧ ((InR .i64 (↑(UInt8.toNat (List.getD (Array.toList (ByteArray.data x0)) (Int.toNat v5) 0)) : Int)) ∧ (R103_6 n (IntKind.wrap IntKind.i64 (↑(BitVec.toNat (BitVec.ofInt 64 x1 ^^^ BitVec.ofInt 64 (IntKind.wrap IntKind.i64 ((↑(UInt8.toNat (List.getD (Array.toList (ByteArray.data x0)) (Int.toNat v5) 0)) : Int) * 256)))) : Int)) (0) (x0) (v5) ds))) else (ds = [Dyn.mk (Ty.int .i64) x1]))
def R103_6 : Nat → Int → Int → ByteArray → Int → List Dyn → Prop
  | 0, _, _, _, _, _ => False
  | n + 1, v1, v6, x0, v5, ds => (if (decide (v6 < 8)) = true then (if (decide (IntKind.wrap IntKind.i64 (v1 * 2) > 65535)) = true then ((InR .i64 (v6 + 1)) ∧ (R103_6 n (IntKind.wrap IntKind.i64 (↑(BitVec.toNat (BitVec.ofInt 64 (IntKind.wrap IntKind.i64 (↑(BitVec.toNat (BitVec.ofInt 64 (IntKind.wrap IntKind.i64 (v1 * 2)) &&& BitVec.ofInt 64 65535)) : Int)) ^^^ BitVec.ofInt 64 4129)) : Int)) (v6 + 1) (x0) (v5) ds)) else ((InR .i64 (v6 + 1)) ∧ (R103_6 n (IntKind.wrap IntKind.i64 (v1 * 2)) (v6 + 1) (x0) (v5) ds))) else ((InR .i64 (v5 + 1)) ∧ (R103_2 n (v5 + 1) (x0) (v1) ds)))
end
theorem snd103 : ∀ n, (∀ (x0 : ByteArray) (x1 : Int) ds, R103 n x0 x1 ds → ∀ K q, AtV Tryz.prog 103 (PostR kds103 oks103 ds [] [] q K) 32 K q [] [.code b103] (entE 0 0 sig103 (x0, x1, ())) (entL sig103 (x0, x1, ()))) ∧ (∀ (v5 : Int) (x0 : ByteArray) (x1 : Int) ds, R103_2 n v5 x0 x1 ds → ∀ K q, AtV Tryz.prog 103 (PostR kds103 oks103 ds [] [] q K) 32 K q [] (cutAt b103 2) (E103_2 v5 x0 x1) (L103_2 v5 x0 x1)) ∧ (∀ (v1 : Int) (v6 : Int) (x0 : ByteArray) (v5 : Int) ds, R103_6 n v1 v6 x0 v5 ds → ∀ K q, AtV Tryz.prog 103 (PostR kds103 oks103 ds [] [] q K) 32 K q [] (cutAt b103 6) (E103_6 v1 v6 x0 v5) (L103_6 v1 v6 x0 v5)) := by
  intro n
  induction n with
  | zero => exact ⟨fun _ _ _ h => by simp only [R103] at h, fun _ _ _ _ h => by simp only [R103_2] at h, fun _ _ _ _ _ h => by simp only [R103_6] at h⟩
  | succ n ih =>
  obtain ⟨ih, ih2, ih6⟩ := ih
  refine ⟨?_, ?_, ?_⟩
  · intro x0 x1 ds h K q
    rw [R103] at h
    exact AtV.go tabOk ext103Ok mixed false [] [] [0, 1, 5] [] [] trivial (ih2 _ _ _ _ h K q) (by kernel_rfl)
  · intro v5 x0 x1 ds h K q
    rw [R103_2] at h
    by_cases b0 : (decide (v5 < (↑(ByteArray.size x0) : Int))) = true
    · rw [if_pos b0] at h
      obtain ⟨s0, s1, h⟩ := h
      obtain ⟨s2, h⟩ := h
      exact AtV.go tabOk ext103Ok mixed false [] [] [0, 1, 5, 6] [] [true] (a1 b0 (a1 s0 (a1 s1 (a1 s2 (a1 ((by decide) : (0 : Int) ≤ (8 : Int)) trivial))))) (ih6 _ _ _ _ _ h K q) (by kernel_rfl)
    · rw [if_neg b0] at h
      replace b0 := Bool.eq_false_iff.2 b0
      subst h
      exact AtV.ret Tryz.func103 tabOk ext103Ok mixed false [] tys103 [false] (a1 b0 trivial) (by kernel_rfl)
  · intro v1 v6 x0 v5 ds h K q
    rw [R103_6] at h
    by_cases b0 : (decide (v6 < 8)) = true
    · rw [if_pos b0] at h
      by_cases b1 : (decide (IntKind.wrap IntKind.i64 (v1 * 2) > 65535)) = true
      · rw [if_pos b1] at h
        obtain ⟨s0, h⟩ := h
        exact AtV.go tabOk ext103Ok mixed false [] [] [0, 1, 5, 6] [] [true, true] (a1 b0 (a1 ((by decide) : (0 : Int) ≤ (1 : Int)) (a1 b1 (a1 s0 trivial)))) (ih6 _ _ _ _ _ h K q) (by kernel_rfl)
      · rw [if_neg b1] at h
        replace b1 := Bool.eq_false_iff.2 b1
        obtain ⟨s0, h⟩ := h
        exact AtV.go tabOk ext103Ok mixed false [] [] [0, 1, 5, 6] [] [true, false] (a1 b0 (a1 ((by decide) : (0 : Int) ≤ (1 : Int)) (a1 b1 (a1 s0 trivial)))) (ih6 _ _ _ _ _ h K q) (by kernel_rfl)
    · rw [if_neg b0] at h
      replace b0 := Bool.eq_false_iff.2 b0
      obtain ⟨s0, h⟩ := h
      exact AtV.go tabOk ext103Ok mixed false [] [] [0, 1, 5] [] [false] (a1 b0 (a1 s0 trivial)) (ih2 _ _ _ _ h K q) (by kernel_rfl)
def bit103 (s : Int) : Int := if (decide (IntKind.wrap IntKind.i64 (s * 2) > 65535)) = true then (IntKind.wrap IntKind.i64 (↑(BitVec.toNat (BitVec.ofInt 64 (IntKind.wrap IntKind.i64 (↑(BitVec.toNat (BitVec.ofInt 64 (IntKind.wrap IntKind.i64 (s * 2)) &&& BitVec.ofInt 64 65535)) : Int)) ^^^ BitVec.ofInt 64 4129)) : Int)) else (IntKind.wrap IntKind.i64 (s * 2))
def bits103 : Nat → Int → Int
  | 0, s => s
  | k + 1, s => bits103 k (bit103 s)
def byte103 (s c : Int) : Int := bits103 8 (IntKind.wrap IntKind.i64 (↑(BitVec.toNat (BitVec.ofInt 64 s ^^^ BitVec.ofInt 64 (IntKind.wrap IntKind.i64 (c * 256)))) : Int))
def g103_0 (x0 : ByteArray) (x1 : Int) : Int := (bytesOf x0).foldl byte103 x1
def P103 (x0 : ByteArray) (x1 : Int) : Prop := True
theorem inner103 (x0 : ByteArray) (hm : (bytesOf x0).length ≤ maxLen) (i n : Nat) (hi : i < (bytesOf x0).length) (ds : List Dyn) : ∀ (k j : Nat) (s : Int), j + k = 8 → R103_2 n ((i : Int) + 1) x0 (bits103 k s) ds → R103_6 (n + 1 + k) s (j : Int) x0 (i : Int) ds := by
  intro k
  induction k with
  | zero =>
    intro j s hj hr
    rw [R103_6, if_neg (by simp; omega)]
    exact ⟨inR_up hm hi, hr⟩
  | succ k ih =>
    intro j s hj hr
    have e2 : (j : Int) + 1 = ((j + 1 : Nat) : Int) := by omega
    rw [show n + 1 + (k + 1) = (n + 1 + k) + 1 by omega, R103_6, if_pos (by simp; omega)]
    unfold bits103 bit103 at hr
    by_cases hc : (decide (IntKind.wrap IntKind.i64 (s * 2) > 65535)) = true
    · rw [if_pos hc] at hr ⊢
      rw [e2]
      exact ⟨by rw [i64_iff]; omega, ih (j + 1) _ (by omega) hr⟩
    · rw [if_neg hc] at hr ⊢
      rw [e2]
      exact ⟨by rw [i64_iff]; omega, ih (j + 1) _ (by omega) hr⟩
theorem run103 (x0 : ByteArray) (hm : x0.size ≤ maxLen) : ∀ (k i : Nat) (s : Int), i + k = x0.size → ∃ n, R103_2 n (i : Int) x0 s [⟨.int .i64, ((bytesOf x0).drop i).foldl byte103 s⟩] := by
  intro k
  have hl := bytesOf_length x0
  induction k with
  | zero =>
    intro i s hi
    refine ⟨1, ?_⟩
    rw [R103_2, if_neg (by simp; omega), List.drop_of_length_le (by omega)]
    rfl
  | succ k ih =>
    intro i s hi
    have hlt : i < (bytesOf x0).length := by omega
    have hcons := drop_get (bytesOf x0) i 0 hlt
    obtain ⟨n, hn⟩ := ih (i + 1) (byte103 s ((bytesOf x0).getD i 0)) (by omega)
    refine ⟨n + 1 + 8 + 1, ?_⟩
    have hb := bytesOf_range x0 _ (mem_getD (bytesOf x0) i 0 hlt)
    rw [R103_2, if_pos (by simp; omega)]
    simp only [Int.toNat_natCast, byte_get]
    rw [hcons, List.foldl_cons]
    exact ⟨by omega, by omega, by rw [i64_iff]; omega, inner103 x0 (by rw [hl]; exact hm) i n hlt _ 8 0 _ (by omega) hn⟩
theorem top103 (x0 : ByteArray) (x1 : Int) (hm : x0.size ≤ maxLen) : ∃ n, R103 n x0 x1 [⟨.int .i64, g103_0 x0 x1⟩] := by
  obtain ⟨n, hn⟩ := run103 x0 hm x0.size 0 x1 (by omega)
  refine ⟨n + 1, ?_⟩
  rw [R103]
  exact hn
def S103 : Am.Spec := { sig := sig103, pre := fun ⟨x0, x1, _⟩ => P103 x0 x1, res := fun ⟨x0, x1, _⟩ => [⟨Ty.int .i64, g103_0 x0 x1⟩] }
theorem con103 : Contract Tryz.prog 103 S103 := contract_of Tryz.func103 hb103 (Nat.le_of_ble_eq_true (by kernel_rfl)) (fun ⟨x0, x1, _⟩ h hwf K q =>
  let ⟨n, hn⟩ := top103 x0 x1 hwf.1
  (snd103 n).1 x0 x1 _ hn K q)
end
noncomputable section
def ext84 : Ext := [(104, S104), (103, S103)]
theorem ext84Ok : ExtOk Tryz.prog ext84 := ⟨⟨ca104, con104⟩, ⟨ca103, con103⟩, trivial⟩
noncomputable def b84 : Code := bodyOf Tryz.f84
theorem hb84 : Tryz.f84.body = some b84 := by kernel_rfl
def sig84 : List AT := [AT.v (Ty.int .i64), AT.v (Ty.int .i64), AT.v (Ty.int .i64), AT.v (Ty.str)]
def tys84 : List Ty := [Ty.int .i64]
def kds84 : List RK := []
def oks84 : List AT := owns sig84
def P84 (x0 : Int) (x1 : Int) (x2 : Int) (x3 : ByteArray) : Prop := ((P104 x1 x2 x3) ∧ True)
def g84_0 (x0 : Int) (x1 : Int) (x2 : Int) (x3 : ByteArray) : Int := g103_0 (g104_0 x1 x2 x3) x0
theorem at84 (x0 : Int) (x1 : Int) (x2 : Int) (x3 : ByteArray) (h : P84 x0 x1 x2 x3) (K : Ctx) (q : Nat → Value) : AtV Tryz.prog 84 (PostR kds84 oks84 [⟨Ty.int .i64, g84_0 x0 x1 x2 x3⟩] [] [] q K) 15 K q [] [.code b84] (entE 0 0 sig84 (x0, x1, x2, x3, ())) (entL sig84 (x0, x1, x2, x3, ())) := by
  unfold P84 at h
  unfold g84_0
  obtain ⟨s0, h⟩ := h
  exact AtV.ret Tryz.func84 tabOk ext84Ok mixed false [] tys84 [] (a1 s0 (a1 trivial trivial)) (by kernel_rfl)
def S84 : Am.Spec := { sig := sig84, pre := fun ⟨x0, x1, x2, x3, _⟩ => P84 x0 x1 x2 x3, res := fun ⟨x0, x1, x2, x3, _⟩ => [⟨Ty.int .i64, g84_0 x0 x1 x2 x3⟩], kds := kds84 }
theorem con84 : Contract Tryz.prog 84 S84 := contract_of Tryz.func84 hb84 (Nat.le_of_ble_eq_true (by kernel_rfl)) (fun ⟨x0, x1, x2, x3, _⟩ h _ K q => at84 x0 x1 x2 x3 h K q)
end
noncomputable section
def ext58 : Ext := [(84, S84)]
theorem ext58Ok : ExtOk Tryz.prog ext58 := ⟨⟨ca84, con84⟩, trivial⟩
noncomputable def b58 : Code := bodyOf Tryz.f58
theorem hb58 : Tryz.f58.body = some b58 := by kernel_rfl
def sig58 : List AT := [AT.v (Ty.sl YA6)]
def tys58 : List Ty := [Ty.int .i64]
def kds58 : List RK := []
def oks58 : List AT := owns sig58
def E58_3 (v3 : Int) (v4 : Int) (x0 : List TyB2) : Env := [(0, PV.a (Atom.sl YA6 x0)), (3, PV.a (Atom.val (Value.int .i64 v3))), (4, PV.a (Atom.val (Value.int .i64 v4)))]
def L58_3 (v3 : Int) (v4 : Int) (x0 : List TyB2) : Heap := []
mutual
def R58 : Nat → List TyB2 → List Dyn → Prop
  | 0, _, _ => False
  | n + 1, x0, ds => (R58_3 n (65535) (0) (x0) ds)
def R58_3 : Nat → Int → Int → List TyB2 → List Dyn → Prop
  | 0, _, _, _, _ => False
  | n + 1, v3, v4, x0, ds => (if (decide (v4 < (↑(List.length x0) : Int))) = true then ((0 ≤ v4) ∧ (v4 < (↑(List.length x0) : Int)) ∧ ((P84 v3 (List.getD x0 (Int.toNat v4) (0, 0, ByteArray.empty, 0, ())).1 (List.getD x0 (Int.toNat v4) (0, 0, ByteArray.empty, 0, ())).2.1 (List.getD x0 (Int.toNat v4) (0, 0, ByteArray.empty, 0, ())).2.2.1) ∧ (if (g84_0 v3 (List.getD x0 (Int.toNat v4) (0, 0, ByteArray.empty, 0, ())).1 (List.getD x0 (Int.toNat v4) (0, 0, ByteArray.empty, 0, ())).2.1 (List.getD x0 (Int.toNat v4) (0, 0, ByteArray.empty, 0, ())).2.2.1 != (List.getD x0 (Int.toNat v4) (0, 0, ByteArray.empty, 0, ())).2.2.2.1) = true then (ds = [Dyn.mk (Ty.int .i64) v4]) else ((InR .i64 (v4 + 1)) ∧ (R58_3 n (g84_0 v3 (List.getD x0 (Int.toNat v4) (0, 0, ByteArray.empty, 0, ())).1 (List.getD x0 (Int.toNat v4) (0, 0, ByteArray.empty, 0, ())).2.1 (List.getD x0 (Int.toNat v4) (0, 0, ByteArray.empty, 0, ())).2.2.1) (v4 + 1) (x0) ds))))) else (ds = [Dyn.mk (Ty.int .i64) (-1)]))
end
theorem snd58 : ∀ n, (∀ (x0 : List TyB2) ds, R58 n x0 ds → ∀ K q, AtV Tryz.prog 58 (PostR kds58 oks58 ds [] [] q K) 29 K q [] [.code b58] (entE 0 0 sig58 (x0, ())) (entL sig58 (x0, ()))) ∧ (∀ (v3 : Int) (v4 : Int) (x0 : List TyB2) ds, R58_3 n v3 v4 x0 ds → ∀ K q, AtV Tryz.prog 58 (PostR kds58 oks58 ds [] [] q K) 29 K q [] (cutAt b58 3) (E58_3 v3 v4 x0) (L58_3 v3 v4 x0)) := by
  intro n
  induction n with
  | zero => exact ⟨fun _ _ h => by simp only [R58] at h, fun _ _ _ _ h => by simp only [R58_3] at h⟩
  | succ n ih =>
  obtain ⟨ih, ih3⟩ := ih
  refine ⟨?_, ?_⟩
  · intro x0 ds h K q
    rw [R58] at h
    exact AtV.go tabOk ext58Ok mixed false [] [] [0, 3, 4] [] [] trivial (ih3 _ _ _ _ h K q) (by kernel_rfl)
  · intro v3 v4 x0 ds h K q
    rw [R58_3] at h
    by_cases b0 : (decide (v4 < (↑(List.length x0) : Int))) = true
    · rw [if_pos b0] at h
      obtain ⟨s0, s1, h⟩ := h
      obtain ⟨s2, h⟩ := h
      by_cases b1 : (g84_0 v3 (List.getD x0 (Int.toNat v4) (0, 0, ByteArray.empty, 0, ())).1 (List.getD x0 (Int.toNat v4) (0, 0, ByteArray.empty, 0, ())).2.1 (List.getD x0 (Int.toNat v4) (0, 0, ByteArray.empty, 0, ())).2.2.1 != (List.getD x0 (Int.toNat v4) (0, 0, ByteArray.empty, 0, ())).2.2.2.1) = true
      · rw [if_pos b1] at h
        subst h
        exact AtV.ret Tryz.func58 tabOk ext58Ok mixed false [] tys58 [true, true] (a1 b0 (a1 s0 (a1 s1 (a1 s2 (a1 b1 trivial))))) (by kernel_rfl)
      · rw [if_neg b1] at h
        replace b1 := Bool.eq_false_iff.2 b1
        obtain ⟨s3, h⟩ := h
        exact AtV.go tabOk ext58Ok mixed false [] [] [0, 3, 4] [] [true, false] (a1 b0 (a1 s0 (a1 s1 (a1 s2 (a1 b1 (a1 s3 trivial)))))) (ih3 _ _ _ _ h K q) (by kernel_rfl)
    · rw [if_neg b0] at h
      replace b0 := Bool.eq_false_iff.2 b0
      subst h
      exact AtV.ret Tryz.func58 tabOk ext58Ok mixed false [] tys58 [false] (a1 b0 trivial) (by kernel_rfl)
def br58 (c i : Int) : List TyB2 → Int
  | [] => -1
  | x :: r => if (g84_0 c x.1 x.2.1 x.2.2.1 != x.2.2.2.1) = true then i else br58 (g84_0 c x.1 x.2.1 x.2.2.1) (i + 1) r
def g58_0 (x0 : List TyB2) : Int := br58 65535 0 x0
def P58 (x0 : List TyB2) : Prop := ∀ x ∈ x0, ∀ c, P84 c x.1 x.2.1 x.2.2.1
theorem run58 (x0 : List TyB2) (hm : x0.length ≤ maxLen) (hx : P58 x0) : ∀ (k i : Nat) (c : Int), i + k = x0.length → R58_3 (k + 1) c (i : Int) x0 [⟨.int .i64, br58 c i (x0.drop i)⟩] := by
  intro k
  induction k with
  | zero =>
    intro i c hi
    rw [R58_3, if_neg (by simp only [decide_eq_true_eq]; omega), drop_end _ _ (by omega)]
    rfl
  | succ k ih =>
    intro i c hi
    have hlt : i < x0.length := by omega
    have hp := hx _ (mem_getD x0 i ((0 : Int), (0 : Int), ByteArray.empty, (0 : Int), ()) hlt) c
    have hd := drop_get x0 i ((0 : Int), (0 : Int), ByteArray.empty, (0 : Int), ()) hlt
    rw [R58_3, if_pos (by simp only [decide_eq_true_eq]; omega), hd]
    simp only [Int.toNat_natCast]
    refine ⟨by omega, by omega, hp, ?_⟩
    generalize x0.getD i ((0 : Int), (0 : Int), ByteArray.empty, (0 : Int), ()) = y
    simp only [br58]
    by_cases hc : (g84_0 c y.1 y.2.1 y.2.2.1 != y.2.2.2.1) = true
    · rw [if_pos hc, if_pos hc]
    · rw [if_neg hc, if_neg hc]
      exact ⟨inR_up hm hlt, by simpa using ih (i + 1) _ (by omega)⟩
theorem top58 (x0 : List TyB2) (hm : x0.length ≤ maxLen) (hx : P58 x0) : R58 (x0.length + 1 + 1) x0 [⟨.int .i64, g58_0 x0⟩] := by
  rw [R58]
  simpa [g58_0] using run58 x0 hm hx x0.length 0 65535 (by omega)
def S58 : Am.Spec := { sig := sig58, pre := fun ⟨x0, _⟩ => P58 x0, res := fun ⟨x0, _⟩ => [⟨.int .i64, g58_0 x0⟩] }
theorem con58 : Contract Tryz.prog 58 S58 := contract_of Tryz.func58 hb58 (Nat.le_of_ble_eq_true (by kernel_rfl)) (fun ⟨x0, _⟩ h hwf K q =>
  (snd58 _).1 x0 _ (top58 x0 hwf.1.1 h) K q)
end
noncomputable section
def ext19 : Ext := [(58, S58), (59, S59)]
theorem ext19Ok : ExtOk Tryz.prog ext19 := ⟨⟨ca58, con58⟩, ⟨ca59, con59⟩, trivial⟩
noncomputable def b19 : Code := bodyOf Tryz.f19
theorem hb19 : Tryz.f19.body = some b19 := by kernel_rfl
def sig19 : List AT := [AT.p YA0]
def tys19 : List Ty := [Ty.sl YA8]
def kds19 : List RK := []
def oks19 : List AT := owns sig19
def P19 (x0 : TyA0) : Prop := ((P58 x0.2.2.2.2.2.2.2.2.2.2.2.1) ∧ (if (decide (g58_0 x0.2.2.2.2.2.2.2.2.2.2.2.1 < 0)) = true then True else ((0 ≤ g58_0 x0.2.2.2.2.2.2.2.2.2.2.2.1) ∧ (g58_0 x0.2.2.2.2.2.2.2.2.2.2.2.1 < (↑(List.length x0.2.2.2.2.2.2.2.2.2.2.2.1) : Int)) ∧ True)))
def g19_0 (x0 : TyA0) : List TyB3 := (if (decide (g58_0 x0.2.2.2.2.2.2.2.2.2.2.2.1 < 0)) = true then [] else [(6, g59_0 (g58_0 x0.2.2.2.2.2.2.2.2.2.2.2.1), g59_0 (List.getD x0.2.2.2.2.2.2.2.2.2.2.2.1 (Int.toNat (g58_0 x0.2.2.2.2.2.2.2.2.2.2.2.1)) (0, 0, ByteArray.empty, 0, ())).2.2.2.1, ())])
theorem at19 (x0 : TyA0) (h : P19 x0) (K : Ctx) (q : Nat → Value) : AtV Tryz.prog 19 (PostR kds19 oks19 [⟨Ty.sl YA8, g19_0 x0⟩] [] [] q K) 25 K q [] [.code b19] (entE 0 0 sig19 (x0, ())) (entL sig19 (x0, ())) := by
  unfold P19 at h
  unfold g19_0
  obtain ⟨s0, h⟩ := h
  by_cases b0 : (decide (g58_0 x0.2.2.2.2.2.2.2.2.2.2.2.1 < 0)) = true
  · try simp only [if_pos b0] at h ⊢
    exact AtV.ret Tryz.func19 tabOk ext19Ok mixed false [] tys19 [true] (a1 s0 (a1 b0 trivial)) (by kernel_rfl)
  · try simp only [if_neg b0] at h ⊢
    replace b0 := Bool.eq_false_iff.2 b0
    obtain ⟨s1, s2, h⟩ := h
    exact AtV.ret Tryz.func19 tabOk ext19Ok mixed false [] tys19 [false] (a1 s0 (a1 b0 (a1 trivial (a1 s1 (a1 s2 (a1 trivial trivial)))))) (by kernel_rfl)
def S19 : Am.Spec := { sig := sig19, pre := fun ⟨x0, _⟩ => P19 x0, res := fun ⟨x0, _⟩ => [⟨Ty.sl YA8, g19_0 x0⟩], kds := kds19 }
theorem con19 : Contract Tryz.prog 19 S19 := contract_of Tryz.func19 hb19 (Nat.le_of_ble_eq_true (by kernel_rfl)) (fun ⟨x0, _⟩ h _ K q => at19 x0 h K q)
end
noncomputable section
def ext5 : Ext := [(18, S18), (19, S19)]
theorem ext5Ok : ExtOk Tryz.prog ext5 := ⟨⟨ca18, con18⟩, ⟨ca19, con19⟩, trivial⟩
noncomputable def b5 : Code := bodyOf Tryz.f5
theorem hb5 : Tryz.f5.body = some b5 := by kernel_rfl
def sig5 : List AT := [AT.v YA0]
def tys5 : List Ty := [Ty.sl YA8, Ty.int .i64]
def kds5 : List RK := []
def oks5 : List AT := owns sig5
def P5 (x0 : TyA0) : Prop := (if (!g18_0 x0) = true then True else ((P19 x0) ∧ True))
def g5_0 (x0 : TyA0) : List TyB3 := (if (!g18_0 x0) = true then [] else g19_0 x0)
def g5_1 (x0 : TyA0) : Int := (if (!g18_0 x0) = true then 1 else 0)
theorem at5 (x0 : TyA0) (h : P5 x0) (K : Ctx) (q : Nat → Value) : AtV Tryz.prog 5 (PostR kds5 oks5 [⟨Ty.sl YA8, g5_0 x0⟩, ⟨Ty.int .i64, g5_1 x0⟩] [] [] q K) 7 K q [] [.code b5] (entE 0 0 sig5 (x0, ())) (entL sig5 (x0, ())) := by
  unfold P5 at h
  unfold g5_0 g5_1
  by_cases b0 : (!g18_0 x0) = true
  · try simp only [if_pos b0] at h ⊢
    exact AtV.ret Tryz.func5 tabOk ext5Ok mixed false [] tys5 [true] (a1 trivial (a1 b0 trivial)) (by kernel_rfl)
  · try simp only [if_neg b0] at h ⊢
    replace b0 := Bool.eq_false_iff.2 b0
    obtain ⟨s0, h⟩ := h
    exact AtV.ret Tryz.func5 tabOk ext5Ok mixed false [] tys5 [false] (a1 trivial (a1 b0 (a1 s0 trivial))) (by kernel_rfl)
def S5 : Am.Spec := { sig := sig5, pre := fun ⟨x0, _⟩ => P5 x0, res := fun ⟨x0, _⟩ => [⟨Ty.sl YA8, g5_0 x0⟩, ⟨Ty.int .i64, g5_1 x0⟩], kds := kds5 }
theorem con5 : Contract Tryz.prog 5 S5 := contract_of Tryz.func5 hb5 (Nat.le_of_ble_eq_true (by kernel_rfl)) (fun ⟨x0, _⟩ h _ K q => at5 x0 h K q)
end
noncomputable section
def ext45 : Ext := []
theorem ext45Ok : ExtOk Tryz.prog ext45 := trivial
noncomputable def b45 : Code := bodyOf Tryz.f45
theorem hb45 : Tryz.f45.body = some b45 := by kernel_rfl
def sig45 : List AT := [AT.v (Ty.sl YA9), AT.v (Ty.int .i64)]
def tys45 : List Ty := [Ty.int .i64]
def kds45 : List RK := []
def oks45 : List AT := owns sig45
def P45 (x0 : List TyB4) (x1 : Int) : Prop := ((InR .i64 (x1 - (↑(List.length x0) : Int))) ∧ True)
def g45_0 (x0 : List TyB4) (x1 : Int) : Int := (if (decide (x1 - (↑(List.length x0) : Int) < 0)) = true then -1 else x1 - (↑(List.length x0) : Int))
theorem at45 (x0 : List TyB4) (x1 : Int) (h : P45 x0 x1) (K : Ctx) (q : Nat → Value) : AtV Tryz.prog 45 (PostR kds45 oks45 [⟨Ty.int .i64, g45_0 x0 x1⟩] [] [] q K) 12 K q [] [.code b45] (entE 0 0 sig45 (x0, x1, ())) (entL sig45 (x0, x1, ())) := by
  unfold P45 at h
  unfold g45_0
  obtain ⟨s0, h⟩ := h
  by_cases b0 : (decide (x1 - (↑(List.length x0) : Int) < 0)) = true
  · try simp only [if_pos b0] at h ⊢
    exact AtV.ret Tryz.func45 tabOk ext45Ok mixed false [] tys45 [true] (a1 s0 (a1 b0 trivial)) (by kernel_rfl)
  · try simp only [if_neg b0] at h ⊢
    replace b0 := Bool.eq_false_iff.2 b0
    exact AtV.ret Tryz.func45 tabOk ext45Ok mixed false [] tys45 [false] (a1 s0 (a1 b0 trivial)) (by kernel_rfl)
def S45 : Am.Spec := { sig := sig45, pre := fun ⟨x0, x1, _⟩ => P45 x0 x1, res := fun ⟨x0, x1, _⟩ => [⟨Ty.int .i64, g45_0 x0 x1⟩], kds := kds45 }
theorem con45 : Contract Tryz.prog 45 S45 := contract_of Tryz.func45 hb45 (Nat.le_of_ble_eq_true (by kernel_rfl)) (fun ⟨x0, x1, _⟩ h _ K q => at45 x0 x1 h K q)
theorem g45_le (x0 : List TyB4) (x1 : Int) (h : 0 ≤ x1) (hi : InR .i64 x1) (hw : Wf (.sl (.cons (.int .i64) (.cons (.int .i64) .unit))) x0) (hg : ¬ g45_0 x0 x1 < 0) : P45 x0 x1 ∧ g45_0 x0 x1 ≤ x1 - x0.length := by
  have hm : x0.length ≤ 9223372036854775807 := hw.1
  rw [i64_iff] at hi
  unfold g45_0 P45 at *
  simp only [decide_eq_true_eq, i64_iff] at *
  refine ⟨?_, ?_⟩
  · repeat' (first | apply And.intro | split)
    all_goals first | trivial | omega
  · split at hg <;> rename_i hc
    · omega
    · rw [if_neg hc]; omega
end
noncomputable section
def ext13 : Ext := [(45, S45)]
theorem ext13Ok : ExtOk Tryz.prog ext13 := ⟨⟨ca45, con45⟩, trivial⟩
noncomputable def b13 : Code := bodyOf Tryz.f13
theorem hb13 : Tryz.f13.body = some b13 := by kernel_rfl
def sig13 : List AT := [AT.v YA2, AT.v (Ty.int .i64)]
def tys13 : List Ty := [Ty.int .i64]
def kds13 : List RK := []
def oks13 : List AT := owns sig13
def P13 (x0 : List TyB4 × Int × Int × Unit) (x1 : Int) : Prop := ((P45 x0.1 x1) ∧ True)
def g13_0 (x0 : List TyB4 × Int × Int × Unit) (x1 : Int) : Int := (if (decide (g45_0 x0.1 x1 < 0)) = true then -1 else g45_0 x0.1 x1)
theorem at13 (x0 : List TyB4 × Int × Int × Unit) (x1 : Int) (h : P13 x0 x1) (K : Ctx) (q : Nat → Value) : AtV Tryz.prog 13 (PostR kds13 oks13 [⟨Ty.int .i64, g13_0 x0 x1⟩] [] [] q K) 12 K q [] [.code b13] (entE 0 0 sig13 (x0, x1, ())) (entL sig13 (x0, x1, ())) := by
  unfold P13 at h
  unfold g13_0
  obtain ⟨s0, h⟩ := h
  by_cases b0 : (decide (g45_0 x0.1 x1 < 0)) = true
  · try simp only [if_pos b0] at h ⊢
    exact AtV.ret Tryz.func13 tabOk ext13Ok mixed false [] tys13 [true] (a1 s0 (a1 b0 trivial)) (by kernel_rfl)
  · try simp only [if_neg b0] at h ⊢
    replace b0 := Bool.eq_false_iff.2 b0
    exact AtV.ret Tryz.func13 tabOk ext13Ok mixed false [] tys13 [false] (a1 s0 (a1 b0 trivial)) (by kernel_rfl)
def S13 : Am.Spec := { sig := sig13, pre := fun ⟨x0, x1, _⟩ => P13 x0 x1, res := fun ⟨x0, x1, _⟩ => [⟨Ty.int .i64, g13_0 x0 x1⟩], kds := kds13 }
theorem con13 : Contract Tryz.prog 13 S13 := contract_of Tryz.func13 hb13 (Nat.le_of_ble_eq_true (by kernel_rfl)) (fun ⟨x0, x1, _⟩ h _ K q => at13 x0 x1 h K q)
end
noncomputable section
def ext46 : Ext := []
theorem ext46Ok : ExtOk Tryz.prog ext46 := trivial
noncomputable def b46 : Code := bodyOf Tryz.f46
theorem hb46 : Tryz.f46.body = some b46 := by kernel_rfl
def sig46 : List AT := [AT.v YA5, AT.v (Ty.int .i64)]
def tys46 : List Ty := [Ty.int .i64]
def kds46 : List RK := []
def oks46 : List AT := owns sig46
def P46 (x0 : ByteArray × Int × Int × Int × Unit) (x1 : Int) : Prop := ((InR .i64 (x1 - (↑(ByteArray.size x0.1) : Int))) ∧ True)
def g46_0 (x0 : ByteArray × Int × Int × Int × Unit) (x1 : Int) : Int := (if (decide (x1 - (↑(ByteArray.size x0.1) : Int) < 0)) = true then -1 else x1 - (↑(ByteArray.size x0.1) : Int))
theorem at46 (x0 : ByteArray × Int × Int × Int × Unit) (x1 : Int) (h : P46 x0 x1) (K : Ctx) (q : Nat → Value) : AtV Tryz.prog 46 (PostR kds46 oks46 [⟨Ty.int .i64, g46_0 x0 x1⟩] [] [] q K) 13 K q [] [.code b46] (entE 0 0 sig46 (x0, x1, ())) (entL sig46 (x0, x1, ())) := by
  unfold P46 at h
  unfold g46_0
  obtain ⟨s0, h⟩ := h
  by_cases b0 : (decide (x1 - (↑(ByteArray.size x0.1) : Int) < 0)) = true
  · try simp only [if_pos b0] at h ⊢
    exact AtV.ret Tryz.func46 tabOk ext46Ok mixed false [] tys46 [true] (a1 s0 (a1 b0 trivial)) (by kernel_rfl)
  · try simp only [if_neg b0] at h ⊢
    replace b0 := Bool.eq_false_iff.2 b0
    exact AtV.ret Tryz.func46 tabOk ext46Ok mixed false [] tys46 [false] (a1 s0 (a1 b0 trivial)) (by kernel_rfl)
def S46 : Am.Spec := { sig := sig46, pre := fun ⟨x0, x1, _⟩ => P46 x0 x1, res := fun ⟨x0, x1, _⟩ => [⟨Ty.int .i64, g46_0 x0 x1⟩], kds := kds46 }
theorem con46 : Contract Tryz.prog 46 S46 := contract_of Tryz.func46 hb46 (Nat.le_of_ble_eq_true (by kernel_rfl)) (fun ⟨x0, x1, _⟩ h _ K q => at46 x0 x1 h K q)
theorem sz46 (x0 : TyB1) (x1 : Int) (h : 0 ≤ x1) (hi : InR .i64 x1) (hw : Wf (.cons .str (.cons (.int .i64) (.cons (.int .i64) (.cons (.int .i64) .unit)))) x0) :
    P46 x0 x1 ∧ -1 ≤ g46_0 x0 x1 ∧ g46_0 x0 x1 ≤ x1 := by
  have h0 : x0.1.size ≤ 9223372036854775807 := hw.1
  rw [i64_iff] at hi
  unfold P46 g46_0
  simp only [decide_eq_true_eq, i64_iff]
  repeat' (first | apply And.intro | split)
  all_goals first | trivial | omega
end
noncomputable section
def ext14 : Ext := [(46, S46)]
theorem ext14Ok : ExtOk Tryz.prog ext14 := ⟨⟨ca46, con46⟩, trivial⟩
noncomputable def b14 : Code := bodyOf Tryz.f14
theorem hb14 : Tryz.f14.body = some b14 := by kernel_rfl
def sig14 : List AT := [AT.v (Ty.sl YA5), AT.v (Ty.int .i64)]
def tys14 : List Ty := [Ty.int .i64]
def kds14 : List RK := []
def oks14 : List AT := owns sig14
def E14_5 (v1 : Int) (v5 : Int) (x0 : List TyB1) : Env := [(0, PV.a (Atom.sl YA5 x0)), (1, PV.a (Atom.val (Value.int .i64 v1))), (5, PV.a (Atom.val (Value.int .i64 v5)))]
def L14_5 (v1 : Int) (v5 : Int) (x0 : List TyB1) : Heap := []
mutual
def R14 : Nat → List TyB1 → Int → List Dyn → Prop
  | 0, _, _, _ => False
  | n + 1, x0, x1, ds => ((InR .i64 (x1 - (↑(List.length x0) : Int))) ∧ (if (decide (x1 - (↑(List.length x0) : Int) < 0)) = true then (ds = [Dyn.mk (Ty.int .i64) (-1)]) else (R14_5 n (x1 - (↑(List.length x0) : Int)) (0) (x0) ds)))
def R14_5 : Nat → Int → Int → List TyB1 → List Dyn → Prop
  | 0, _, _, _, _ => False
  | n + 1, v1, v5, x0, ds => (if (decide (v5 < (↑(List.length x0) : Int))) = true then ((0 ≤ v5) ∧ (v5 < (↑(List.length x0) : Int)) ∧ ((P46 (List.getD x0 (Int.toNat v5) (ByteArray.empty, 0, 0, 0, ())) v1) ∧ (if (decide (g46_0 (List.getD x0 (Int.toNat v5) (ByteArray.empty, 0, 0, 0, ())) v1 < 0)) = true then (ds = [Dyn.mk (Ty.int .i64) (-1)]) else ((InR .i64 (v5 + 1)) ∧ (R14_5 n (g46_0 (List.getD x0 (Int.toNat v5) (ByteArray.empty, 0, 0, 0, ())) v1) (v5 + 1) (x0) ds))))) else (ds = [Dyn.mk (Ty.int .i64) v1]))
end
theorem snd14 : ∀ n, (∀ (x0 : List TyB1) (x1 : Int) ds, R14 n x0 x1 ds → ∀ K q, AtV Tryz.prog 14 (PostR kds14 oks14 ds [] [] q K) 27 K q [] [.code b14] (entE 0 0 sig14 (x0, x1, ())) (entL sig14 (x0, x1, ()))) ∧ (∀ (v1 : Int) (v5 : Int) (x0 : List TyB1) ds, R14_5 n v1 v5 x0 ds → ∀ K q, AtV Tryz.prog 14 (PostR kds14 oks14 ds [] [] q K) 27 K q [] (cutAt b14 5) (E14_5 v1 v5 x0) (L14_5 v1 v5 x0)) := by
  intro n
  induction n with
  | zero => exact ⟨fun _ _ _ h => by simp only [R14] at h, fun _ _ _ _ h => by simp only [R14_5] at h⟩
  | succ n ih =>
  obtain ⟨ih, ih5⟩ := ih
  refine ⟨?_, ?_⟩
  · intro x0 x1 ds h K q
    rw [R14] at h
    obtain ⟨s0, h⟩ := h
    by_cases b0 : (decide (x1 - (↑(List.length x0) : Int) < 0)) = true
    · rw [if_pos b0] at h
      subst h
      exact AtV.ret Tryz.func14 tabOk ext14Ok mixed false [] tys14 [true] (a1 s0 (a1 b0 trivial)) (by kernel_rfl)
    · rw [if_neg b0] at h
      replace b0 := Bool.eq_false_iff.2 b0
      exact AtV.go tabOk ext14Ok mixed false [] [] [0, 1, 5] [] [false] (a1 s0 (a1 b0 trivial)) (ih5 _ _ _ _ h K q) (by kernel_rfl)
  · intro v1 v5 x0 ds h K q
    rw [R14_5] at h
    by_cases b0 : (decide (v5 < (↑(List.length x0) : Int))) = true
    · rw [if_pos b0] at h
      obtain ⟨s0, s1, h⟩ := h
      obtain ⟨s2, h⟩ := h
      by_cases b1 : (decide (g46_0 (List.getD x0 (Int.toNat v5) (ByteArray.empty, 0, 0, 0, ())) v1 < 0)) = true
      · rw [if_pos b1] at h
        subst h
        exact AtV.ret Tryz.func14 tabOk ext14Ok mixed false [] tys14 [true, true] (a1 b0 (a1 s0 (a1 s1 (a1 s2 (a1 b1 trivial))))) (by kernel_rfl)
      · rw [if_neg b1] at h
        replace b1 := Bool.eq_false_iff.2 b1
        obtain ⟨s3, h⟩ := h
        exact AtV.go tabOk ext14Ok mixed false [] [] [0, 1, 5] [] [true, false] (a1 b0 (a1 s0 (a1 s1 (a1 s2 (a1 b1 (a1 s3 trivial)))))) (ih5 _ _ _ _ h K q) (by kernel_rfl)
    · rw [if_neg b0] at h
      replace b0 := Bool.eq_false_iff.2 b0
      subst h
      exact AtV.ret Tryz.func14 tabOk ext14Ok mixed false [] tys14 [false] (a1 b0 trivial) (by kernel_rfl)
def szL14 : List TyB1 → Int → Int
  | [], l => l
  | x :: r, l => if g46_0 x l < 0 then -1 else szL14 r (g46_0 x l)
theorem szL14_ok : ∀ (x0 : List TyB1) (l : Int), 0 ≤ l → InR .i64 l → (∀ x ∈ x0, Wf (.cons .str (.cons (.int .i64) (.cons (.int .i64) (.cons (.int .i64) .unit)))) x) → szL14 x0 l ≤ l
  | [], l, _, _, _ => Int.le_refl _
  | x :: r, l, h, hi, hw => by
    obtain ⟨_, h2, h3⟩ := sz46 x l h hi (hw x (List.mem_cons_self ..))
    simp only [szL14]
    rw [i64_iff] at hi
    split
    · omega
    · have := szL14_ok r (g46_0 x l) (by omega) (by rw [i64_iff]; omega) (fun y hy => hw y (List.mem_cons_of_mem _ hy))
      omega
theorem run14 (x0 : List TyB1) (hm : x0.length ≤ maxLen) (hw : ∀ x ∈ x0, Wf (.cons .str (.cons (.int .i64) (.cons (.int .i64) (.cons (.int .i64) .unit)))) x) : ∀ (k i : Nat) (l : Int), i + k = x0.length → 0 ≤ l → InR .i64 l →
    R14_5 (k + 1) l (i : Int) x0 [⟨.int .i64, szL14 (x0.drop i) l⟩] := by
  intro k
  induction k with
  | zero =>
    intro i l hi _ _
    rw [R14_5, if_neg (by simp; omega), drop_end x0 i (by omega)]
    rfl
  | succ k ih =>
    intro i l hi h0 hl
    rw [R14_5, if_pos (by simp; omega)]
    simp only [Int.toNat_natCast]
    have hmem : x0.getD i (ByteArray.empty, (0 : Int), (0 : Int), (0 : Int), ()) ∈ x0 := by rw [getD_lt _ _ _ (by omega)]; exact List.getElem_mem _
    obtain ⟨h1, h2, h3⟩ := sz46 _ l h0 hl (hw _ hmem)
    refine ⟨by omega, by omega, h1, ?_⟩
    rw [drop_get x0 i (ByteArray.empty, (0 : Int), (0 : Int), (0 : Int), ()) (by omega)]
    simp only [szL14]
    have hl' := hl
    rw [i64_iff] at hl'
    by_cases hn : g46_0 (x0.getD i (ByteArray.empty, (0 : Int), (0 : Int), (0 : Int), ())) l < 0
    · rw [if_pos (by simpa using hn), if_pos hn]
    · rw [if_neg (by simpa using hn), if_neg hn]
      exact ⟨inR_up hm (by omega), ih (i + 1) _ (by omega) (by omega) (by rw [i64_iff]; omega)⟩
def g14_0 (x0 : List TyB1) (x1 : Int) : Int := if x1 - x0.length < 0 then -1 else szL14 x0 (x1 - x0.length)
def P14 (x0 : List TyB1) (x1 : Int) : Prop := 0 ≤ x1
theorem g14_le (x0 : List TyB1) (x1 : Int) (h : 0 ≤ x1) (hi : InR .i64 x1) (hw : Wf (.sl (.cons .str (.cons (.int .i64) (.cons (.int .i64) (.cons (.int .i64) .unit))))) x0) (hg : ¬ g14_0 x0 x1 < 0) : g14_0 x0 x1 ≤ x1 - x0.length := by
  unfold g14_0 at hg ⊢
  rw [i64_iff] at hi
  split
  · rename_i h1
    rw [if_pos h1] at hg
    omega
  · exact szL14_ok x0 _ (by omega) (by rw [i64_iff]; omega) hw.2
theorem top14 (x0 : List TyB1) (x1 : Int) (hw : Wf (.sl (.cons .str (.cons (.int .i64) (.cons (.int .i64) (.cons (.int .i64) .unit))))) x0) (hi : InR .i64 x1) (h : 0 ≤ x1) : R14 (x0.length + 1 + 1) x0 x1 [⟨Ty.int .i64, g14_0 x0 x1⟩] := by
  have hm : x0.length ≤ maxLen := hw.1
  have hm' : x0.length ≤ 9223372036854775807 := hm
  rw [i64_iff] at hi
  rw [R14]
  refine ⟨by rw [i64_iff]; omega, ?_⟩
  unfold g14_0
  by_cases hn : x1 - (x0.length : Int) < 0
  · rw [if_pos (by simpa using hn), if_pos hn]
  · rw [if_neg (by simpa using hn), if_neg hn]
    have := run14 x0 hm hw.2 x0.length 0 (x1 - x0.length) (by omega) (by omega) (by rw [i64_iff]; omega)
    simpa using this
def S14 : Am.Spec := { sig := sig14, pre := fun ⟨x0, x1, _⟩ => P14 x0 x1, res := fun ⟨x0, x1, _⟩ => [⟨Ty.int .i64, g14_0 x0 x1⟩] }
theorem con14 : Contract Tryz.prog 14 S14 := contract_of Tryz.func14 hb14 (Nat.le_of_ble_eq_true (by kernel_rfl)) (fun ⟨x0, x1, _⟩ h hwf K q =>
  (snd14 _).1 x0 x1 _ (top14 x0 x1 hwf.1 hwf.2.1 h) K q)
end
noncomputable section
def ext47 : Ext := []
theorem ext47Ok : ExtOk Tryz.prog ext47 := trivial
noncomputable def b47 : Code := bodyOf Tryz.f47
theorem hb47 : Tryz.f47.body = some b47 := by kernel_rfl
def sig47 : List AT := [AT.v YA3, AT.v (Ty.int .i64)]
def tys47 : List Ty := [Ty.int .i64]
def kds47 : List RK := []
def oks47 : List AT := owns sig47
def P47 (x0 : ByteArray × Int × Int × Int × Int × Unit) (x1 : Int) : Prop := ((InR .i64 (x1 - (↑(ByteArray.size x0.1) : Int))) ∧ True)
def g47_0 (x0 : ByteArray × Int × Int × Int × Int × Unit) (x1 : Int) : Int := (if (decide (x1 - (↑(ByteArray.size x0.1) : Int) < 0)) = true then -1 else x1 - (↑(ByteArray.size x0.1) : Int))
theorem at47 (x0 : ByteArray × Int × Int × Int × Int × Unit) (x1 : Int) (h : P47 x0 x1) (K : Ctx) (q : Nat → Value) : AtV Tryz.prog 47 (PostR kds47 oks47 [⟨Ty.int .i64, g47_0 x0 x1⟩] [] [] q K) 13 K q [] [.code b47] (entE 0 0 sig47 (x0, x1, ())) (entL sig47 (x0, x1, ())) := by
  unfold P47 at h
  unfold g47_0
  obtain ⟨s0, h⟩ := h
  by_cases b0 : (decide (x1 - (↑(ByteArray.size x0.1) : Int) < 0)) = true
  · try simp only [if_pos b0] at h ⊢
    exact AtV.ret Tryz.func47 tabOk ext47Ok mixed false [] tys47 [true] (a1 s0 (a1 b0 trivial)) (by kernel_rfl)
  · try simp only [if_neg b0] at h ⊢
    replace b0 := Bool.eq_false_iff.2 b0
    exact AtV.ret Tryz.func47 tabOk ext47Ok mixed false [] tys47 [false] (a1 s0 (a1 b0 trivial)) (by kernel_rfl)
def S47 : Am.Spec := { sig := sig47, pre := fun ⟨x0, x1, _⟩ => P47 x0 x1, res := fun ⟨x0, x1, _⟩ => [⟨Ty.int .i64, g47_0 x0 x1⟩], kds := kds47 }
theorem con47 : Contract Tryz.prog 47 S47 := contract_of Tryz.func47 hb47 (Nat.le_of_ble_eq_true (by kernel_rfl)) (fun ⟨x0, x1, _⟩ h _ K q => at47 x0 x1 h K q)
theorem sz47 (x0 : TyB0) (x1 : Int) (h : 0 ≤ x1) (hi : InR .i64 x1) (hw : Wf (.cons .str (.cons (.int .i64) (.cons (.int .i64) (.cons (.int .i64) (.cons (.int .i64) .unit))))) x0) :
    P47 x0 x1 ∧ -1 ≤ g47_0 x0 x1 ∧ g47_0 x0 x1 ≤ x1 := by
  have h0 : x0.1.size ≤ 9223372036854775807 := hw.1
  rw [i64_iff] at hi
  unfold P47 g47_0
  simp only [decide_eq_true_eq, i64_iff]
  repeat' (first | apply And.intro | split)
  all_goals first | trivial | omega
end
noncomputable section
def ext15 : Ext := [(47, S47)]
theorem ext15Ok : ExtOk Tryz.prog ext15 := ⟨⟨ca47, con47⟩, trivial⟩
noncomputable def b15 : Code := bodyOf Tryz.f15
theorem hb15 : Tryz.f15.body = some b15 := by kernel_rfl
def sig15 : List AT := [AT.v (Ty.sl YA3), AT.v (Ty.int .i64)]
def tys15 : List Ty := [Ty.int .i64]
def kds15 : List RK := []
def oks15 : List AT := owns sig15
def E15_5 (v1 : Int) (v5 : Int) (x0 : List TyB0) : Env := [(0, PV.a (Atom.sl YA3 x0)), (1, PV.a (Atom.val (Value.int .i64 v1))), (5, PV.a (Atom.val (Value.int .i64 v5)))]
def L15_5 (v1 : Int) (v5 : Int) (x0 : List TyB0) : Heap := []
mutual
def R15 : Nat → List TyB0 → Int → List Dyn → Prop
  | 0, _, _, _ => False
  | n + 1, x0, x1, ds => ((InR .i64 (x1 - (↑(List.length x0) : Int))) ∧ (if (decide (x1 - (↑(List.length x0) : Int) < 0)) = true then (ds = [Dyn.mk (Ty.int .i64) (-1)]) else (R15_5 n (x1 - (↑(List.length x0) : Int)) (0) (x0) ds)))
def R15_5 : Nat → Int → Int → List TyB0 → List Dyn → Prop
  | 0, _, _, _, _ => False
  | n + 1, v1, v5, x0, ds => (if (decide (v5 < (↑(List.length x0) : Int))) = true then ((0 ≤ v5) ∧ (v5 < (↑(List.length x0) : Int)) ∧ ((P47 (List.getD x0 (Int.toNat v5) (ByteArray.empty, 0, 0, 0, 0, ())) v1) ∧ (if (decide (g47_0 (List.getD x0 (Int.toNat v5) (ByteArray.empty, 0, 0, 0, 0, ())) v1 < 0)) = true then (ds = [Dyn.mk (Ty.int .i64) (-1)]) else ((InR .i64 (v5 + 1)) ∧ (R15_5 n (g47_0 (List.getD x0 (Int.toNat v5) (ByteArray.empty, 0, 0, 0, 0, ())) v1) (v5 + 1) (x0) ds))))) else (ds = [Dyn.mk (Ty.int .i64) v1]))
end
theorem snd15 : ∀ n, (∀ (x0 : List TyB0) (x1 : Int) ds, R15 n x0 x1 ds → ∀ K q, AtV Tryz.prog 15 (PostR kds15 oks15 ds [] [] q K) 27 K q [] [.code b15] (entE 0 0 sig15 (x0, x1, ())) (entL sig15 (x0, x1, ()))) ∧ (∀ (v1 : Int) (v5 : Int) (x0 : List TyB0) ds, R15_5 n v1 v5 x0 ds → ∀ K q, AtV Tryz.prog 15 (PostR kds15 oks15 ds [] [] q K) 27 K q [] (cutAt b15 5) (E15_5 v1 v5 x0) (L15_5 v1 v5 x0)) := by
  intro n
  induction n with
  | zero => exact ⟨fun _ _ _ h => by simp only [R15] at h, fun _ _ _ _ h => by simp only [R15_5] at h⟩
  | succ n ih =>
  obtain ⟨ih, ih5⟩ := ih
  refine ⟨?_, ?_⟩
  · intro x0 x1 ds h K q
    rw [R15] at h
    obtain ⟨s0, h⟩ := h
    by_cases b0 : (decide (x1 - (↑(List.length x0) : Int) < 0)) = true
    · rw [if_pos b0] at h
      subst h
      exact AtV.ret Tryz.func15 tabOk ext15Ok mixed false [] tys15 [true] (a1 s0 (a1 b0 trivial)) (by kernel_rfl)
    · rw [if_neg b0] at h
      replace b0 := Bool.eq_false_iff.2 b0
      exact AtV.go tabOk ext15Ok mixed false [] [] [0, 1, 5] [] [false] (a1 s0 (a1 b0 trivial)) (ih5 _ _ _ _ h K q) (by kernel_rfl)
  · intro v1 v5 x0 ds h K q
    rw [R15_5] at h
    by_cases b0 : (decide (v5 < (↑(List.length x0) : Int))) = true
    · rw [if_pos b0] at h
      obtain ⟨s0, s1, h⟩ := h
      obtain ⟨s2, h⟩ := h
      by_cases b1 : (decide (g47_0 (List.getD x0 (Int.toNat v5) (ByteArray.empty, 0, 0, 0, 0, ())) v1 < 0)) = true
      · rw [if_pos b1] at h
        subst h
        exact AtV.ret Tryz.func15 tabOk ext15Ok mixed false [] tys15 [true, true] (a1 b0 (a1 s0 (a1 s1 (a1 s2 (a1 b1 trivial))))) (by kernel_rfl)
      · rw [if_neg b1] at h
        replace b1 := Bool.eq_false_iff.2 b1
        obtain ⟨s3, h⟩ := h
        exact AtV.go tabOk ext15Ok mixed false [] [] [0, 1, 5] [] [true, false] (a1 b0 (a1 s0 (a1 s1 (a1 s2 (a1 b1 (a1 s3 trivial)))))) (ih5 _ _ _ _ h K q) (by kernel_rfl)
    · rw [if_neg b0] at h
      replace b0 := Bool.eq_false_iff.2 b0
      subst h
      exact AtV.ret Tryz.func15 tabOk ext15Ok mixed false [] tys15 [false] (a1 b0 trivial) (by kernel_rfl)
def szL15 : List TyB0 → Int → Int
  | [], l => l
  | x :: r, l => if g47_0 x l < 0 then -1 else szL15 r (g47_0 x l)
theorem szL15_ok : ∀ (x0 : List TyB0) (l : Int), 0 ≤ l → InR .i64 l → (∀ x ∈ x0, Wf (.cons .str (.cons (.int .i64) (.cons (.int .i64) (.cons (.int .i64) (.cons (.int .i64) .unit))))) x) → szL15 x0 l ≤ l
  | [], l, _, _, _ => Int.le_refl _
  | x :: r, l, h, hi, hw => by
    obtain ⟨_, h2, h3⟩ := sz47 x l h hi (hw x (List.mem_cons_self ..))
    simp only [szL15]
    rw [i64_iff] at hi
    split
    · omega
    · have := szL15_ok r (g47_0 x l) (by omega) (by rw [i64_iff]; omega) (fun y hy => hw y (List.mem_cons_of_mem _ hy))
      omega
theorem run15 (x0 : List TyB0) (hm : x0.length ≤ maxLen) (hw : ∀ x ∈ x0, Wf (.cons .str (.cons (.int .i64) (.cons (.int .i64) (.cons (.int .i64) (.cons (.int .i64) .unit))))) x) : ∀ (k i : Nat) (l : Int), i + k = x0.length → 0 ≤ l → InR .i64 l →
    R15_5 (k + 1) l (i : Int) x0 [⟨.int .i64, szL15 (x0.drop i) l⟩] := by
  intro k
  induction k with
  | zero =>
    intro i l hi _ _
    rw [R15_5, if_neg (by simp; omega), drop_end x0 i (by omega)]
    rfl
  | succ k ih =>
    intro i l hi h0 hl
    rw [R15_5, if_pos (by simp; omega)]
    simp only [Int.toNat_natCast]
    have hmem : x0.getD i (ByteArray.empty, (0 : Int), (0 : Int), (0 : Int), (0 : Int), ()) ∈ x0 := by rw [getD_lt _ _ _ (by omega)]; exact List.getElem_mem _
    obtain ⟨h1, h2, h3⟩ := sz47 _ l h0 hl (hw _ hmem)
    refine ⟨by omega, by omega, h1, ?_⟩
    rw [drop_get x0 i (ByteArray.empty, (0 : Int), (0 : Int), (0 : Int), (0 : Int), ()) (by omega)]
    simp only [szL15]
    have hl' := hl
    rw [i64_iff] at hl'
    by_cases hn : g47_0 (x0.getD i (ByteArray.empty, (0 : Int), (0 : Int), (0 : Int), (0 : Int), ())) l < 0
    · rw [if_pos (by simpa using hn), if_pos hn]
    · rw [if_neg (by simpa using hn), if_neg hn]
      exact ⟨inR_up hm (by omega), ih (i + 1) _ (by omega) (by omega) (by rw [i64_iff]; omega)⟩
def g15_0 (x0 : List TyB0) (x1 : Int) : Int := if x1 - x0.length < 0 then -1 else szL15 x0 (x1 - x0.length)
def P15 (x0 : List TyB0) (x1 : Int) : Prop := 0 ≤ x1
theorem g15_le (x0 : List TyB0) (x1 : Int) (h : 0 ≤ x1) (hi : InR .i64 x1) (hw : Wf (.sl (.cons .str (.cons (.int .i64) (.cons (.int .i64) (.cons (.int .i64) (.cons (.int .i64) .unit)))))) x0) (hg : ¬ g15_0 x0 x1 < 0) : g15_0 x0 x1 ≤ x1 - x0.length := by
  unfold g15_0 at hg ⊢
  rw [i64_iff] at hi
  split
  · rename_i h1
    rw [if_pos h1] at hg
    omega
  · exact szL15_ok x0 _ (by omega) (by rw [i64_iff]; omega) hw.2
theorem top15 (x0 : List TyB0) (x1 : Int) (hw : Wf (.sl (.cons .str (.cons (.int .i64) (.cons (.int .i64) (.cons (.int .i64) (.cons (.int .i64) .unit)))))) x0) (hi : InR .i64 x1) (h : 0 ≤ x1) : R15 (x0.length + 1 + 1) x0 x1 [⟨Ty.int .i64, g15_0 x0 x1⟩] := by
  have hm : x0.length ≤ maxLen := hw.1
  have hm' : x0.length ≤ 9223372036854775807 := hm
  rw [i64_iff] at hi
  rw [R15]
  refine ⟨by rw [i64_iff]; omega, ?_⟩
  unfold g15_0
  by_cases hn : x1 - (x0.length : Int) < 0
  · rw [if_pos (by simpa using hn), if_pos hn]
  · rw [if_neg (by simpa using hn), if_neg hn]
    have := run15 x0 hm hw.2 x0.length 0 (x1 - x0.length) (by omega) (by omega) (by rw [i64_iff]; omega)
    simpa using this
def S15 : Am.Spec := { sig := sig15, pre := fun ⟨x0, x1, _⟩ => P15 x0 x1, res := fun ⟨x0, x1, _⟩ => [⟨Ty.int .i64, g15_0 x0 x1⟩] }
theorem con15 : Contract Tryz.prog 15 S15 := contract_of Tryz.func15 hb15 (Nat.le_of_ble_eq_true (by kernel_rfl)) (fun ⟨x0, x1, _⟩ h hwf K q =>
  (snd15 _).1 x0 x1 _ (top15 x0 x1 hwf.1 hwf.2.1 h) K q)
end
noncomputable section
def ext16 : Ext := []
theorem ext16Ok : ExtOk Tryz.prog ext16 := trivial
noncomputable def b16 : Code := bodyOf Tryz.f16
theorem hb16 : Tryz.f16.body = some b16 := by kernel_rfl
def sig16 : List AT := [AT.v (Ty.sl YA9), AT.v (Ty.int .i64)]
def tys16 : List Ty := [Ty.int .i64]
def kds16 : List RK := []
def oks16 : List AT := owns sig16
def P16 (x0 : List TyB4) (x1 : Int) : Prop := ((InR .i64 (x1 - (↑(List.length x0) : Int))) ∧ True)
def g16_0 (x0 : List TyB4) (x1 : Int) : Int := (if (decide (x1 - (↑(List.length x0) : Int) < 0)) = true then -1 else x1 - (↑(List.length x0) : Int))
theorem at16 (x0 : List TyB4) (x1 : Int) (h : P16 x0 x1) (K : Ctx) (q : Nat → Value) : AtV Tryz.prog 16 (PostR kds16 oks16 [⟨Ty.int .i64, g16_0 x0 x1⟩] [] [] q K) 12 K q [] [.code b16] (entE 0 0 sig16 (x0, x1, ())) (entL sig16 (x0, x1, ())) := by
  unfold P16 at h
  unfold g16_0
  obtain ⟨s0, h⟩ := h
  by_cases b0 : (decide (x1 - (↑(List.length x0) : Int) < 0)) = true
  · try simp only [if_pos b0] at h ⊢
    exact AtV.ret Tryz.func16 tabOk ext16Ok mixed false [] tys16 [true] (a1 s0 (a1 b0 trivial)) (by kernel_rfl)
  · try simp only [if_neg b0] at h ⊢
    replace b0 := Bool.eq_false_iff.2 b0
    exact AtV.ret Tryz.func16 tabOk ext16Ok mixed false [] tys16 [false] (a1 s0 (a1 b0 trivial)) (by kernel_rfl)
def S16 : Am.Spec := { sig := sig16, pre := fun ⟨x0, x1, _⟩ => P16 x0 x1, res := fun ⟨x0, x1, _⟩ => [⟨Ty.int .i64, g16_0 x0 x1⟩], kds := kds16 }
theorem con16 : Contract Tryz.prog 16 S16 := contract_of Tryz.func16 hb16 (Nat.le_of_ble_eq_true (by kernel_rfl)) (fun ⟨x0, x1, _⟩ h _ K q => at16 x0 x1 h K q)
theorem g16_le (x0 : List TyB4) (x1 : Int) (h : 0 ≤ x1) (hi : InR .i64 x1) (hw : Wf (.sl (.cons (.int .i64) (.cons (.int .i64) .unit))) x0) (hg : ¬ g16_0 x0 x1 < 0) : P16 x0 x1 ∧ g16_0 x0 x1 ≤ x1 - x0.length := by
  have hm : x0.length ≤ 9223372036854775807 := hw.1
  rw [i64_iff] at hi
  unfold g16_0 P16 at *
  simp only [decide_eq_true_eq, i64_iff] at *
  refine ⟨?_, ?_⟩
  · repeat' (first | apply And.intro | split)
    all_goals first | trivial | omega
  · split at hg <;> rename_i hc
    · omega
    · rw [if_neg hc]; omega
end
noncomputable section
def ext48 : Ext := []
theorem ext48Ok : ExtOk Tryz.prog ext48 := trivial
noncomputable def b48 : Code := bodyOf Tryz.f48
theorem hb48 : Tryz.f48.body = some b48 := by kernel_rfl
def sig48 : List AT := [AT.v YA6, AT.v (Ty.int .i64)]
def tys48 : List Ty := [Ty.int .i64]
def kds48 : List RK := []
def oks48 : List AT := owns sig48
def P48 (x0 : Int × Int × ByteArray × Int × Unit) (x1 : Int) : Prop := ((InR .i64 (x1 - (↑(ByteArray.size x0.2.2.1) : Int))) ∧ True)
def g48_0 (x0 : Int × Int × ByteArray × Int × Unit) (x1 : Int) : Int := (if (decide (x1 - (↑(ByteArray.size x0.2.2.1) : Int) < 0)) = true then -1 else x1 - (↑(ByteArray.size x0.2.2.1) : Int))
theorem at48 (x0 : Int × Int × ByteArray × Int × Unit) (x1 : Int) (h : P48 x0 x1) (K : Ctx) (q : Nat → Value) : AtV Tryz.prog 48 (PostR kds48 oks48 [⟨Ty.int .i64, g48_0 x0 x1⟩] [] [] q K) 13 K q [] [.code b48] (entE 0 0 sig48 (x0, x1, ())) (entL sig48 (x0, x1, ())) := by
  unfold P48 at h
  unfold g48_0
  obtain ⟨s0, h⟩ := h
  by_cases b0 : (decide (x1 - (↑(ByteArray.size x0.2.2.1) : Int) < 0)) = true
  · try simp only [if_pos b0] at h ⊢
    exact AtV.ret Tryz.func48 tabOk ext48Ok mixed false [] tys48 [true] (a1 s0 (a1 b0 trivial)) (by kernel_rfl)
  · try simp only [if_neg b0] at h ⊢
    replace b0 := Bool.eq_false_iff.2 b0
    exact AtV.ret Tryz.func48 tabOk ext48Ok mixed false [] tys48 [false] (a1 s0 (a1 b0 trivial)) (by kernel_rfl)
def S48 : Am.Spec := { sig := sig48, pre := fun ⟨x0, x1, _⟩ => P48 x0 x1, res := fun ⟨x0, x1, _⟩ => [⟨Ty.int .i64, g48_0 x0 x1⟩], kds := kds48 }
theorem con48 : Contract Tryz.prog 48 S48 := contract_of Tryz.func48 hb48 (Nat.le_of_ble_eq_true (by kernel_rfl)) (fun ⟨x0, x1, _⟩ h _ K q => at48 x0 x1 h K q)
theorem sz48 (x0 : TyB2) (x1 : Int) (h : 0 ≤ x1) (hi : InR .i64 x1) (hw : Wf (.cons (.int .i64) (.cons (.int .i64) (.cons .str (.cons (.int .i64) .unit)))) x0) :
    P48 x0 x1 ∧ -1 ≤ g48_0 x0 x1 ∧ g48_0 x0 x1 ≤ x1 := by
  have h2 : x0.2.2.1.size ≤ 9223372036854775807 := hw.2.2.1
  rw [i64_iff] at hi
  unfold P48 g48_0
  simp only [decide_eq_true_eq, i64_iff]
  repeat' (first | apply And.intro | split)
  all_goals first | trivial | omega
end
noncomputable section
def ext17 : Ext := [(48, S48)]
theorem ext17Ok : ExtOk Tryz.prog ext17 := ⟨⟨ca48, con48⟩, trivial⟩
noncomputable def b17 : Code := bodyOf Tryz.f17
theorem hb17 : Tryz.f17.body = some b17 := by kernel_rfl
def sig17 : List AT := [AT.v (Ty.sl YA6), AT.v (Ty.int .i64)]
def tys17 : List Ty := [Ty.int .i64]
def kds17 : List RK := []
def oks17 : List AT := owns sig17
def E17_5 (v1 : Int) (v5 : Int) (x0 : List TyB2) : Env := [(0, PV.a (Atom.sl YA6 x0)), (1, PV.a (Atom.val (Value.int .i64 v1))), (5, PV.a (Atom.val (Value.int .i64 v5)))]
def L17_5 (v1 : Int) (v5 : Int) (x0 : List TyB2) : Heap := []
mutual
def R17 : Nat → List TyB2 → Int → List Dyn → Prop
  | 0, _, _, _ => False
  | n + 1, x0, x1, ds => ((InR .i64 (x1 - (↑(List.length x0) : Int))) ∧ (if (decide (x1 - (↑(List.length x0) : Int) < 0)) = true then (ds = [Dyn.mk (Ty.int .i64) (-1)]) else (R17_5 n (x1 - (↑(List.length x0) : Int)) (0) (x0) ds)))
def R17_5 : Nat → Int → Int → List TyB2 → List Dyn → Prop
  | 0, _, _, _, _ => False
  | n + 1, v1, v5, x0, ds => (if (decide (v5 < (↑(List.length x0) : Int))) = true then ((0 ≤ v5) ∧ (v5 < (↑(List.length x0) : Int)) ∧ ((P48 (List.getD x0 (Int.toNat v5) (0, 0, ByteArray.empty, 0, ())) v1) ∧ (if (decide (g48_0 (List.getD x0 (Int.toNat v5) (0, 0, ByteArray.empty, 0, ())) v1 < 0)) = true then (ds = [Dyn.mk (Ty.int .i64) (-1)]) else ((InR .i64 (v5 + 1)) ∧ (R17_5 n (g48_0 (List.getD x0 (Int.toNat v5) (0, 0, ByteArray.empty, 0, ())) v1) (v5 + 1) (x0) ds))))) else (ds = [Dyn.mk (Ty.int .i64) v1]))
end
theorem snd17 : ∀ n, (∀ (x0 : List TyB2) (x1 : Int) ds, R17 n x0 x1 ds → ∀ K q, AtV Tryz.prog 17 (PostR kds17 oks17 ds [] [] q K) 27 K q [] [.code b17] (entE 0 0 sig17 (x0, x1, ())) (entL sig17 (x0, x1, ()))) ∧ (∀ (v1 : Int) (v5 : Int) (x0 : List TyB2) ds, R17_5 n v1 v5 x0 ds → ∀ K q, AtV Tryz.prog 17 (PostR kds17 oks17 ds [] [] q K) 27 K q [] (cutAt b17 5) (E17_5 v1 v5 x0) (L17_5 v1 v5 x0)) := by
  intro n
  induction n with
  | zero => exact ⟨fun _ _ _ h => by simp only [R17] at h, fun _ _ _ _ h => by simp only [R17_5] at h⟩
  | succ n ih =>
  obtain ⟨ih, ih5⟩ := ih
  refine ⟨?_, ?_⟩
  · intro x0 x1 ds h K q
    rw [R17] at h
    obtain ⟨s0, h⟩ := h
    by_cases b0 : (decide (x1 - (↑(List.length x0) : Int) < 0)) = true
    · rw [if_pos b0] at h
      subst h
      exact AtV.ret Tryz.func17 tabOk ext17Ok mixed false [] tys17 [true] (a1 s0 (a1 b0 trivial)) (by kernel_rfl)
    · rw [if_neg b0] at h
      replace b0 := Bool.eq_false_iff.2 b0
      exact AtV.go tabOk ext17Ok mixed false [] [] [0, 1, 5] [] [false] (a1 s0 (a1 b0 trivial)) (ih5 _ _ _ _ h K q) (by kernel_rfl)
  · intro v1 v5 x0 ds h K q
    rw [R17_5] at h
    by_cases b0 : (decide (v5 < (↑(List.length x0) : Int))) = true
    · rw [if_pos b0] at h
      obtain ⟨s0, s1, h⟩ := h
      obtain ⟨s2, h⟩ := h
      by_cases b1 : (decide (g48_0 (List.getD x0 (Int.toNat v5) (0, 0, ByteArray.empty, 0, ())) v1 < 0)) = true
      · rw [if_pos b1] at h
        subst h
        exact AtV.ret Tryz.func17 tabOk ext17Ok mixed false [] tys17 [true, true] (a1 b0 (a1 s0 (a1 s1 (a1 s2 (a1 b1 trivial))))) (by kernel_rfl)
      · rw [if_neg b1] at h
        replace b1 := Bool.eq_false_iff.2 b1
        obtain ⟨s3, h⟩ := h
        exact AtV.go tabOk ext17Ok mixed false [] [] [0, 1, 5] [] [true, false] (a1 b0 (a1 s0 (a1 s1 (a1 s2 (a1 b1 (a1 s3 trivial)))))) (ih5 _ _ _ _ h K q) (by kernel_rfl)
    · rw [if_neg b0] at h
      replace b0 := Bool.eq_false_iff.2 b0
      subst h
      exact AtV.ret Tryz.func17 tabOk ext17Ok mixed false [] tys17 [false] (a1 b0 trivial) (by kernel_rfl)
def szL17 : List TyB2 → Int → Int
  | [], l => l
  | x :: r, l => if g48_0 x l < 0 then -1 else szL17 r (g48_0 x l)
theorem szL17_ok : ∀ (x0 : List TyB2) (l : Int), 0 ≤ l → InR .i64 l → (∀ x ∈ x0, Wf (.cons (.int .i64) (.cons (.int .i64) (.cons .str (.cons (.int .i64) .unit)))) x) → szL17 x0 l ≤ l
  | [], l, _, _, _ => Int.le_refl _
  | x :: r, l, h, hi, hw => by
    obtain ⟨_, h2, h3⟩ := sz48 x l h hi (hw x (List.mem_cons_self ..))
    simp only [szL17]
    rw [i64_iff] at hi
    split
    · omega
    · have := szL17_ok r (g48_0 x l) (by omega) (by rw [i64_iff]; omega) (fun y hy => hw y (List.mem_cons_of_mem _ hy))
      omega
theorem run17 (x0 : List TyB2) (hm : x0.length ≤ maxLen) (hw : ∀ x ∈ x0, Wf (.cons (.int .i64) (.cons (.int .i64) (.cons .str (.cons (.int .i64) .unit)))) x) : ∀ (k i : Nat) (l : Int), i + k = x0.length → 0 ≤ l → InR .i64 l →
    R17_5 (k + 1) l (i : Int) x0 [⟨.int .i64, szL17 (x0.drop i) l⟩] := by
  intro k
  induction k with
  | zero =>
    intro i l hi _ _
    rw [R17_5, if_neg (by simp; omega), drop_end x0 i (by omega)]
    rfl
  | succ k ih =>
    intro i l hi h0 hl
    rw [R17_5, if_pos (by simp; omega)]
    simp only [Int.toNat_natCast]
    have hmem : x0.getD i ((0 : Int), (0 : Int), ByteArray.empty, (0 : Int), ()) ∈ x0 := by rw [getD_lt _ _ _ (by omega)]; exact List.getElem_mem _
    obtain ⟨h1, h2, h3⟩ := sz48 _ l h0 hl (hw _ hmem)
    refine ⟨by omega, by omega, h1, ?_⟩
    rw [drop_get x0 i ((0 : Int), (0 : Int), ByteArray.empty, (0 : Int), ()) (by omega)]
    simp only [szL17]
    have hl' := hl
    rw [i64_iff] at hl'
    by_cases hn : g48_0 (x0.getD i ((0 : Int), (0 : Int), ByteArray.empty, (0 : Int), ())) l < 0
    · rw [if_pos (by simpa using hn), if_pos hn]
    · rw [if_neg (by simpa using hn), if_neg hn]
      exact ⟨inR_up hm (by omega), ih (i + 1) _ (by omega) (by omega) (by rw [i64_iff]; omega)⟩
def g17_0 (x0 : List TyB2) (x1 : Int) : Int := if x1 - x0.length < 0 then -1 else szL17 x0 (x1 - x0.length)
def P17 (x0 : List TyB2) (x1 : Int) : Prop := 0 ≤ x1
theorem g17_le (x0 : List TyB2) (x1 : Int) (h : 0 ≤ x1) (hi : InR .i64 x1) (hw : Wf (.sl (.cons (.int .i64) (.cons (.int .i64) (.cons .str (.cons (.int .i64) .unit))))) x0) (hg : ¬ g17_0 x0 x1 < 0) : g17_0 x0 x1 ≤ x1 - x0.length := by
  unfold g17_0 at hg ⊢
  rw [i64_iff] at hi
  split
  · rename_i h1
    rw [if_pos h1] at hg
    omega
  · exact szL17_ok x0 _ (by omega) (by rw [i64_iff]; omega) hw.2
theorem top17 (x0 : List TyB2) (x1 : Int) (hw : Wf (.sl (.cons (.int .i64) (.cons (.int .i64) (.cons .str (.cons (.int .i64) .unit))))) x0) (hi : InR .i64 x1) (h : 0 ≤ x1) : R17 (x0.length + 1 + 1) x0 x1 [⟨Ty.int .i64, g17_0 x0 x1⟩] := by
  have hm : x0.length ≤ maxLen := hw.1
  have hm' : x0.length ≤ 9223372036854775807 := hm
  rw [i64_iff] at hi
  rw [R17]
  refine ⟨by rw [i64_iff]; omega, ?_⟩
  unfold g17_0
  by_cases hn : x1 - (x0.length : Int) < 0
  · rw [if_pos (by simpa using hn), if_pos hn]
  · rw [if_neg (by simpa using hn), if_neg hn]
    have := run17 x0 hm hw.2 x0.length 0 (x1 - x0.length) (by omega) (by omega) (by rw [i64_iff]; omega)
    simpa using this
def S17 : Am.Spec := { sig := sig17, pre := fun ⟨x0, x1, _⟩ => P17 x0 x1, res := fun ⟨x0, x1, _⟩ => [⟨Ty.int .i64, g17_0 x0 x1⟩] }
theorem con17 : Contract Tryz.prog 17 S17 := contract_of Tryz.func17 hb17 (Nat.le_of_ble_eq_true (by kernel_rfl)) (fun ⟨x0, x1, _⟩ h hwf K q =>
  (snd17 _).1 x0 x1 _ (top17 x0 x1 hwf.1 hwf.2.1 h) K q)
end
noncomputable section
def ext4 : Ext := [(13, S13), (14, S14), (15, S15), (16, S16), (17, S17)]
theorem ext4Ok : ExtOk Tryz.prog ext4 := ⟨⟨ca13, con13⟩, ⟨ca14, con14⟩, ⟨ca15, con15⟩, ⟨ca16, con16⟩, ⟨ca17, con17⟩, trivial⟩
noncomputable def b4 : Code := bodyOf Tryz.f4
theorem hb4 : Tryz.f4.body = some b4 := by kernel_rfl
def sig4 : List AT := [AT.v YA0, AT.v (Ty.int .i64)]
def tys4 : List Ty := [Ty.int .i64]
def kds4 : List RK := []
def oks4 : List AT := owns sig4
def P4 (x0 : TyA0) (x1 : Int) : Prop := ((P13 x0.1 x1) ∧ (if (decide (g13_0 x0.1 x1 < 0)) = true then True else ((P14 x0.2.2.2.2.1 (g13_0 x0.1 x1)) ∧ (if (decide (g14_0 x0.2.2.2.2.1 (g13_0 x0.1 x1) < 0)) = true then True else ((P15 x0.2.2.2.2.2.2.1 (g14_0 x0.2.2.2.2.1 (g13_0 x0.1 x1))) ∧ (if (decide (g15_0 x0.2.2.2.2.2.2.1 (g14_0 x0.2.2.2.2.1 (g13_0 x0.1 x1)) < 0)) = true then True else ((P16 x0.2.2.2.2.2.2.2.2.2.1 (g15_0 x0.2.2.2.2.2.2.1 (g14_0 x0.2.2.2.2.1 (g13_0 x0.1 x1)))) ∧ (if (decide (g16_0 x0.2.2.2.2.2.2.2.2.2.1 (g15_0 x0.2.2.2.2.2.2.1 (g14_0 x0.2.2.2.2.1 (g13_0 x0.1 x1))) < 0)) = true then True else ((P17 x0.2.2.2.2.2.2.2.2.2.2.2.1 (g16_0 x0.2.2.2.2.2.2.2.2.2.1 (g15_0 x0.2.2.2.2.2.2.1 (g14_0 x0.2.2.2.2.1 (g13_0 x0.1 x1))))) ∧ True)))))))))
def g4_0 (x0 : TyA0) (x1 : Int) : Int := (if (decide (g13_0 x0.1 x1 < 0)) = true then -1 else (if (decide (g14_0 x0.2.2.2.2.1 (g13_0 x0.1 x1) < 0)) = true then -1 else (if (decide (g15_0 x0.2.2.2.2.2.2.1 (g14_0 x0.2.2.2.2.1 (g13_0 x0.1 x1)) < 0)) = true then -1 else (if (decide (g16_0 x0.2.2.2.2.2.2.2.2.2.1 (g15_0 x0.2.2.2.2.2.2.1 (g14_0 x0.2.2.2.2.1 (g13_0 x0.1 x1))) < 0)) = true then -1 else (if (decide (g17_0 x0.2.2.2.2.2.2.2.2.2.2.2.1 (g16_0 x0.2.2.2.2.2.2.2.2.2.1 (g15_0 x0.2.2.2.2.2.2.1 (g14_0 x0.2.2.2.2.1 (g13_0 x0.1 x1)))) < 0)) = true then -1 else g17_0 x0.2.2.2.2.2.2.2.2.2.2.2.1 (g16_0 x0.2.2.2.2.2.2.2.2.2.1 (g15_0 x0.2.2.2.2.2.2.1 (g14_0 x0.2.2.2.2.1 (g13_0 x0.1 x1)))))))))
theorem at4 (x0 : TyA0) (x1 : Int) (h : P4 x0 x1) (K : Ctx) (q : Nat → Value) : AtV Tryz.prog 4 (PostR kds4 oks4 [⟨Ty.int .i64, g4_0 x0 x1⟩] [] [] q K) 36 K q [] [.code b4] (entE 0 0 sig4 (x0, x1, ())) (entL sig4 (x0, x1, ())) := by
  unfold P4 at h
  unfold g4_0
  obtain ⟨s0, h⟩ := h
  by_cases b0 : (decide (g13_0 x0.1 x1 < 0)) = true
  · try simp only [if_pos b0] at h ⊢
    exact AtV.ret Tryz.func4 tabOk ext4Ok mixed false [] tys4 [true] (a1 s0 (a1 b0 trivial)) (by kernel_rfl)
  · try simp only [if_neg b0] at h ⊢
    replace b0 := Bool.eq_false_iff.2 b0
    obtain ⟨s1, h⟩ := h
    by_cases b1 : (decide (g14_0 x0.2.2.2.2.1 (g13_0 x0.1 x1) < 0)) = true
    · try simp only [if_pos b1] at h ⊢
      exact AtV.ret Tryz.func4 tabOk ext4Ok mixed false [] tys4 [false, true] (a1 s0 (a1 b0 (a1 s1 (a1 b1 trivial)))) (by kernel_rfl)
    · try simp only [if_neg b1] at h ⊢
      replace b1 := Bool.eq_false_iff.2 b1
      obtain ⟨s2, h⟩ := h
      by_cases b2 : (decide (g15_0 x0.2.2.2.2.2.2.1 (g14_0 x0.2.2.2.2.1 (g13_0 x0.1 x1)) < 0)) = true
      · try simp only [if_pos b2] at h ⊢
        exact AtV.ret Tryz.func4 tabOk ext4Ok mixed false [] tys4 [false, false, true] (a1 s0 (a1 b0 (a1 s1 (a1 b1 (a1 s2 (a1 b2 trivial)))))) (by kernel_rfl)
      · try simp only [if_neg b2] at h ⊢
        replace b2 := Bool.eq_false_iff.2 b2
        obtain ⟨s3, h⟩ := h
        by_cases b3 : (decide (g16_0 x0.2.2.2.2.2.2.2.2.2.1 (g15_0 x0.2.2.2.2.2.2.1 (g14_0 x0.2.2.2.2.1 (g13_0 x0.1 x1))) < 0)) = true
        · try simp only [if_pos b3] at h ⊢
          exact AtV.ret Tryz.func4 tabOk ext4Ok mixed false [] tys4 [false, false, false, true] (a1 s0 (a1 b0 (a1 s1 (a1 b1 (a1 s2 (a1 b2 (a1 s3 (a1 b3 trivial)))))))) (by kernel_rfl)
        · try simp only [if_neg b3] at h ⊢
          replace b3 := Bool.eq_false_iff.2 b3
          obtain ⟨s4, h⟩ := h
          by_cases b4 : (decide (g17_0 x0.2.2.2.2.2.2.2.2.2.2.2.1 (g16_0 x0.2.2.2.2.2.2.2.2.2.1 (g15_0 x0.2.2.2.2.2.2.1 (g14_0 x0.2.2.2.2.1 (g13_0 x0.1 x1)))) < 0)) = true
          · try simp only [if_pos b4] at h ⊢
            exact AtV.ret Tryz.func4 tabOk ext4Ok mixed false [] tys4 [false, false, false, false, true] (a1 s0 (a1 b0 (a1 s1 (a1 b1 (a1 s2 (a1 b2 (a1 s3 (a1 b3 (a1 s4 (a1 b4 trivial)))))))))) (by kernel_rfl)
          · try simp only [if_neg b4] at h ⊢
            replace b4 := Bool.eq_false_iff.2 b4
            exact AtV.ret Tryz.func4 tabOk ext4Ok mixed false [] tys4 [false, false, false, false, false] (a1 s0 (a1 b0 (a1 s1 (a1 b1 (a1 s2 (a1 b2 (a1 s3 (a1 b3 (a1 s4 (a1 b4 trivial)))))))))) (by kernel_rfl)
def S4 : Am.Spec := { sig := sig4, pre := fun ⟨x0, x1, _⟩ => P4 x0 x1, res := fun ⟨x0, x1, _⟩ => [⟨Ty.int .i64, g4_0 x0 x1⟩], kds := kds4 }
theorem con4 : Contract Tryz.prog 4 S4 := contract_of Tryz.func4 hb4 (Nat.le_of_ble_eq_true (by kernel_rfl)) (fun ⟨x0, x1, _⟩ h _ K q => at4 x0 x1 h K q)
end
noncomputable section
def ext85 : Ext := []
theorem ext85Ok : ExtOk Tryz.prog ext85 := trivial
noncomputable def b85 : Code := bodyOf Tryz.f85
theorem hb85 : Tryz.f85.body = some b85 := by kernel_rfl
def sig85 : List AT := [AT.v YA9]
def tys85 : List Ty := [Ty.cons (Ty.int .i64) (Ty.cons (Ty.int .i64) Ty.unit)]
def kds85 : List RK := []
def oks85 : List AT := owns sig85
def P85 (x0 : Int × Int × Unit) : Prop := True
def g85_0 (x0 : Int × Int × Unit) : Int × Int × Unit := (x0.1, x0.2.1, ())
theorem at85 (x0 : Int × Int × Unit) (h : P85 x0) (K : Ctx) (q : Nat → Value) : AtV Tryz.prog 85 (PostR kds85 oks85 [⟨Ty.cons (Ty.int .i64) (Ty.cons (Ty.int .i64) Ty.unit), g85_0 x0⟩] [] [] q K) 11 K q [] [.code b85] (entE 0 0 sig85 (x0, ())) (entL sig85 (x0, ())) := by
  unfold P85 at h
  unfold g85_0
  exact AtV.ret Tryz.func85 tabOk ext85Ok mixed false [] tys85 [] trivial (by kernel_rfl)
def S85 : Am.Spec := { sig := sig85, pre := fun ⟨x0, _⟩ => P85 x0, res := fun ⟨x0, _⟩ => [⟨Ty.cons (Ty.int .i64) (Ty.cons (Ty.int .i64) Ty.unit), g85_0 x0⟩], kds := kds85 }
theorem con85 : Contract Tryz.prog 85 S85 := contract_of Tryz.func85 hb85 (Nat.le_of_ble_eq_true (by kernel_rfl)) (fun ⟨x0, _⟩ h _ K q => at85 x0 h K q)
end
noncomputable section
def ext60 : Ext := [(85, S85)]
theorem ext60Ok : ExtOk Tryz.prog ext60 := ⟨⟨ca85, con85⟩, trivial⟩
noncomputable def b60 : Code := bodyOf Tryz.f60
theorem hb60 : Tryz.f60.body = some b60 := by kernel_rfl
def sig60 : List AT := [AT.v (Ty.sl YA9)]
def tys60 : List Ty := [Ty.sl YA9]
def kds60 : List RK := []
def oks60 : List AT := owns sig60
def E60_3 (v4 : Int) (h0 : List TyB4) (x0 : List TyB4) : Env := [(0, PV.a (Atom.sl YA9 x0)), (3, PV.a (Atom.osl 0 Option.none)), (4, PV.a (Atom.val (Value.int .i64 v4)))]
def L60_3 (v4 : Int) (h0 : List TyB4) (x0 : List TyB4) : Heap := [Option.some (Arr.mk YA9 h0 false Option.none Option.none)]
mutual
def R60 : Nat → List TyB4 → List Dyn → Prop
  | 0, _, _ => False
  | n + 1, x0, ds => ((0 ≤ (↑(List.length x0) : Int)) ∧ ((↑(List.length x0) : Int) ≤ (↑(List.length x0) : Int)) ∧ (16 * (↑(List.length x0) : Int) ≤ 281474976710656) ∧ (R60_3 n (0) (List.replicate (Int.toNat (↑(List.length x0) : Int)) (0, 0, ())) (x0) ds))
def R60_3 : Nat → Int → List TyB4 → List TyB4 → List Dyn → Prop
  | 0, _, _, _, _ => False
  | n + 1, v4, h0, x0, ds => (if (decide (v4 < (↑(List.length x0) : Int))) = true then ((0 ≤ v4) ∧ (v4 < (↑(List.length x0) : Int)) ∧ ((0 ≤ v4) ∧ (v4 < (↑(List.length h0) : Int)) ∧ ((InR .i64 (v4 + 1)) ∧ (R60_3 n (v4 + 1) (List.set h0 (Int.toNat v4) ((List.getD x0 (Int.toNat v4) (0, 0, ())).1, (List.getD x0 (Int.toNat v4) (0, 0, ())).2.1, ())) (x0) ds)))) else (ds = [Dyn.mk (Ty.sl YA9) h0]))
end
theorem snd60 : ∀ n, (∀ (x0 : List TyB4) ds, R60 n x0 ds → ∀ K q, AtV Tryz.prog 60 (PostR kds60 oks60 ds [] [] q K) 23 K q [] [.code b60] (entE 0 0 sig60 (x0, ())) (entL sig60 (x0, ()))) ∧ (∀ (v4 : Int) (h0 : List TyB4) (x0 : List TyB4) ds, R60_3 n v4 h0 x0 ds → ∀ K q, AtV Tryz.prog 60 (PostR kds60 oks60 ds [] [] q K) 23 K q [] (cutAt b60 3) (E60_3 v4 h0 x0) (L60_3 v4 h0 x0)) := by
  intro n
  induction n with
  | zero => exact ⟨fun _ _ h => by simp only [R60] at h, fun _ _ _ _ h => by simp only [R60_3] at h⟩
  | succ n ih =>
  obtain ⟨ih, ih3⟩ := ih
  refine ⟨?_, ?_⟩
  · intro x0 ds h K q
    rw [R60] at h
    obtain ⟨s0, s1, s2, h⟩ := h
    exact AtV.go tabOk ext60Ok mixed false [] [] [0, 3, 4] [0] [] (a1 s0 (a1 s1 (a1 s2 trivial))) (ih3 _ _ _ _ h K q) (by kernel_rfl)
  · intro v4 h0 x0 ds h K q
    rw [R60_3] at h
    by_cases b0 : (decide (v4 < (↑(List.length x0) : Int))) = true
    · rw [if_pos b0] at h
      obtain ⟨s0, s1, h⟩ := h
      obtain ⟨s2, s3, h⟩ := h
      obtain ⟨s4, h⟩ := h
      exact AtV.go tabOk ext60Ok mixed false [] [] [0, 3, 4] [0] [true] (a1 b0 (a1 s0 (a1 s1 (a1 trivial (a1 s2 (a1 s3 (a1 s4 trivial))))))) (ih3 _ _ _ _ h K q) (by kernel_rfl)
    · rw [if_neg b0] at h
      replace b0 := Bool.eq_false_iff.2 b0
      subst h
      exact AtV.ret Tryz.func60 tabOk ext60Ok mixed false [] tys60 [false] (a1 b0 trivial) (by kernel_rfl)
theorem run60 (x0 : List TyB4) (hm : x0.length ≤ maxLen) : ∀ (k i : Nat), i + k = x0.length →
    R60_3 (k + 1) (i : Int) (x0.take i ++ List.replicate k ((0 : Int), (0 : Int), ())) x0 [⟨.sl (.cons (.int .i64) (.cons (.int .i64) .unit)), x0⟩] := by
  intro k
  induction k with
  | zero =>
    intro i hi
    rw [R60_3, if_neg (by simp; omega), List.take_of_length_le (by omega)]
    simp
  | succ k ih =>
    intro i hi
    rw [R60_3, if_pos (by simp; omega)]
    simp only [Int.toNat_natCast]
    refine ⟨by omega, by omega, by omega, by simp; omega, inR_up hm (by omega), ?_⟩
    have hs := set_step x0 ((0 : Int), (0 : Int), ()) i (by omega) (k + 1) (by omega)
    have he : ∀ y : TyB4, (y.1, y.2.1, ()) = y := fun _ => rfl
    rw [he, hs]
    exact ih (i + 1) (by omega)
def g60_0 (x0 : List TyB4) : List TyB4 := x0
def P60 (x0 : List TyB4) : Prop := 16 * (x0.length : Int) ≤ 281474976710656
def S60 : Am.Spec := { sig := sig60, pre := fun ⟨x0, _⟩ => P60 x0, res := fun ⟨x0, _⟩ => [⟨.sl (.cons (.int .i64) (.cons (.int .i64) .unit)), g60_0 x0⟩] }
theorem con60 : Contract Tryz.prog 60 S60 := contract_of Tryz.func60 hb60 (Nat.le_of_ble_eq_true (by kernel_rfl)) (fun ⟨x0, _⟩ h hwf K q => by
  refine (snd60 (x0.length + 2)).1 x0 _ ?_ K q
  show R60 (x0.length + 1 + 1) x0 [⟨.sl (.cons (.int .i64) (.cons (.int .i64) .unit)), x0⟩]
  rw [R60]
  refine ⟨by omega, by omega, h, ?_⟩
  have := run60 x0 hwf.1.1 x0.length 0 (by omega)
  simpa using this)
end
noncomputable section
def ext20 : Ext := [(60, S60)]
theorem ext20Ok : ExtOk Tryz.prog ext20 := ⟨⟨ca60, con60⟩, trivial⟩
noncomputable def b20 : Code := bodyOf Tryz.f20
theorem hb20 : Tryz.f20.body = some b20 := by kernel_rfl
def sig20 : List AT := [AT.v YA2]
def tys20 : List Ty := [Ty.cons (Ty.sl YA9) YA9]
def kds20 : List RK := []
def oks20 : List AT := owns sig20
def P20 (x0 : List TyB4 × Int × Int × Unit) : Prop := ((P60 x0.1) ∧ True)
def g20_0 (x0 : List TyB4 × Int × Int × Unit) : List TyB4 × Int × Int × Unit := (g60_0 x0.1, x0.2.1, x0.2.2.1, ())
theorem at20 (x0 : List TyB4 × Int × Int × Unit) (h : P20 x0) (K : Ctx) (q : Nat → Value) : AtV Tryz.prog 20 (PostR kds20 oks20 [⟨Ty.cons (Ty.sl YA9) YA9, g20_0 x0⟩] [] [] q K) 15 K q [] [.code b20] (entE 0 0 sig20 (x0, ())) (entL sig20 (x0, ())) := by
  unfold P20 at h
  unfold g20_0
  obtain ⟨s0, h⟩ := h
  exact AtV.ret Tryz.func20 tabOk ext20Ok mixed false [] tys20 [] (a1 s0 trivial) (by kernel_rfl)
def S20 : Am.Spec := { sig := sig20, pre := fun ⟨x0, _⟩ => P20 x0, res := fun ⟨x0, _⟩ => [⟨Ty.cons (Ty.sl YA9) YA9, g20_0 x0⟩], kds := kds20 }
theorem con20 : Contract Tryz.prog 20 S20 := contract_of Tryz.func20 hb20 (Nat.le_of_ble_eq_true (by kernel_rfl)) (fun ⟨x0, _⟩ h _ K q => at20 x0 h K q)
end
noncomputable section
def ext21 : Ext := []
theorem ext21Ok : ExtOk Tryz.prog ext21 := trivial
noncomputable def b21 : Code := bodyOf Tryz.f21
theorem hb21 : Tryz.f21.body = some b21 := by kernel_rfl
def sig21 : List AT := [AT.v YA9]
def tys21 : List Ty := [Ty.cons (Ty.int .i64) (Ty.cons (Ty.int .i64) Ty.unit)]
def kds21 : List RK := []
def oks21 : List AT := owns sig21
def P21 (x0 : Int × Int × Unit) : Prop := True
def g21_0 (x0 : Int × Int × Unit) : Int × Int × Unit := (x0.1, x0.2.1, ())
theorem at21 (x0 : Int × Int × Unit) (h : P21 x0) (K : Ctx) (q : Nat → Value) : AtV Tryz.prog 21 (PostR kds21 oks21 [⟨Ty.cons (Ty.int .i64) (Ty.cons (Ty.int .i64) Ty.unit), g21_0 x0⟩] [] [] q K) 11 K q [] [.code b21] (entE 0 0 sig21 (x0, ())) (entL sig21 (x0, ())) := by
  unfold P21 at h
  unfold g21_0
  exact AtV.ret Tryz.func21 tabOk ext21Ok mixed false [] tys21 [] trivial (by kernel_rfl)
def S21 : Am.Spec := { sig := sig21, pre := fun ⟨x0, _⟩ => P21 x0, res := fun ⟨x0, _⟩ => [⟨Ty.cons (Ty.int .i64) (Ty.cons (Ty.int .i64) Ty.unit), g21_0 x0⟩], kds := kds21 }
theorem con21 : Contract Tryz.prog 21 S21 := contract_of Tryz.func21 hb21 (Nat.le_of_ble_eq_true (by kernel_rfl)) (fun ⟨x0, _⟩ h _ K q => at21 x0 h K q)
end
noncomputable section
def ext22 : Ext := []
theorem ext22Ok : ExtOk Tryz.prog ext22 := trivial
noncomputable def b22 : Code := bodyOf Tryz.f22
theorem hb22 : Tryz.f22.body = some b22 := by kernel_rfl
def sig22 : List AT := [AT.v YA4]
def tys22 : List Ty := [Ty.cons (Ty.int .i64) YA7]
def kds22 : List RK := []
def oks22 : List AT := owns sig22
def P22 (x0 : Int × Int × Int × Int × Unit) : Prop := True
def g22_0 (x0 : Int × Int × Int × Int × Unit) : Int × Int × Int × Int × Unit := (x0.1, x0.2.1, x0.2.2.1, x0.2.2.2.1, ())
theorem at22 (x0 : Int × Int × Int × Int × Unit) (h : P22 x0) (K : Ctx) (q : Nat → Value) : AtV Tryz.prog 22 (PostR kds22 oks22 [⟨Ty.cons (Ty.int .i64) YA7, g22_0 x0⟩] [] [] q K) 17 K q [] [.code b22] (entE 0 0 sig22 (x0, ())) (entL sig22 (x0, ())) := by
  unfold P22 at h
  unfold g22_0
  exact AtV.ret Tryz.func22 tabOk ext22Ok mixed false [] tys22 [] trivial (by kernel_rfl)
def S22 : Am.Spec := { sig := sig22, pre := fun ⟨x0, _⟩ => P22 x0, res := fun ⟨x0, _⟩ => [⟨Ty.cons (Ty.int .i64) YA7, g22_0 x0⟩], kds := kds22 }
theorem con22 : Contract Tryz.prog 22 S22 := contract_of Tryz.func22 hb22 (Nat.le_of_ble_eq_true (by kernel_rfl)) (fun ⟨x0, _⟩ h _ K q => at22 x0 h K q)
end
noncomputable section
def ext61 : Ext := []
theorem ext61Ok : ExtOk Tryz.prog ext61 := trivial
noncomputable def b61 : Code := bodyOf Tryz.f61
theorem hb61 : Tryz.f61.body = some b61 := by kernel_rfl
def sig61 : List AT := [AT.v YA5]
def tys61 : List Ty := [Ty.cons Ty.str YA7]
def kds61 : List RK := []
def oks61 : List AT := owns sig61
def P61 (x0 : ByteArray × Int × Int × Int × Unit) : Prop := True
def g61_0 (x0 : ByteArray × Int × Int × Int × Unit) : ByteArray × Int × Int × Int × Unit := (x0.1, x0.2.1, x0.2.2.1, x0.2.2.2.1, ())
theorem at61 (x0 : ByteArray × Int × Int × Int × Unit) (h : P61 x0) (K : Ctx) (q : Nat → Value) : AtV Tryz.prog 61 (PostR kds61 oks61 [⟨Ty.cons Ty.str YA7, g61_0 x0⟩] [] [] q K) 17 K q [] [.code b61] (entE 0 0 sig61 (x0, ())) (entL sig61 (x0, ())) := by
  unfold P61 at h
  unfold g61_0
  exact AtV.ret Tryz.func61 tabOk ext61Ok mixed false [] tys61 [] trivial (by kernel_rfl)
def S61 : Am.Spec := { sig := sig61, pre := fun ⟨x0, _⟩ => P61 x0, res := fun ⟨x0, _⟩ => [⟨Ty.cons Ty.str YA7, g61_0 x0⟩], kds := kds61 }
theorem con61 : Contract Tryz.prog 61 S61 := contract_of Tryz.func61 hb61 (Nat.le_of_ble_eq_true (by kernel_rfl)) (fun ⟨x0, _⟩ h _ K q => at61 x0 h K q)
end
noncomputable section
def ext23 : Ext := [(61, S61)]
theorem ext23Ok : ExtOk Tryz.prog ext23 := ⟨⟨ca61, con61⟩, trivial⟩
noncomputable def b23 : Code := bodyOf Tryz.f23
theorem hb23 : Tryz.f23.body = some b23 := by kernel_rfl
def sig23 : List AT := [AT.v (Ty.sl YA5)]
def tys23 : List Ty := [Ty.sl YA5]
def kds23 : List RK := []
def oks23 : List AT := owns sig23
def E23_3 (v4 : Int) (h0 : List TyB1) (x0 : List TyB1) : Env := [(0, PV.a (Atom.sl YA5 x0)), (3, PV.a (Atom.osl 0 Option.none)), (4, PV.a (Atom.val (Value.int .i64 v4)))]
def L23_3 (v4 : Int) (h0 : List TyB1) (x0 : List TyB1) : Heap := [Option.some (Arr.mk YA5 h0 false Option.none Option.none)]
mutual
def R23 : Nat → List TyB1 → List Dyn → Prop
  | 0, _, _ => False
  | n + 1, x0, ds => ((0 ≤ (↑(List.length x0) : Int)) ∧ ((↑(List.length x0) : Int) ≤ (↑(List.length x0) : Int)) ∧ (40 * (↑(List.length x0) : Int) ≤ 281474976710656) ∧ (R23_3 n (0) (List.replicate (Int.toNat (↑(List.length x0) : Int)) (ByteArray.empty, 0, 0, 0, ())) (x0) ds))
def R23_3 : Nat → Int → List TyB1 → List TyB1 → List Dyn → Prop
  | 0, _, _, _, _ => False
  | n + 1, v4, h0, x0, ds => (if (decide (v4 < (↑(List.length x0) : Int))) = true then ((0 ≤ v4) ∧ (v4 < (↑(List.length x0) : Int)) ∧ ((0 ≤ v4) ∧ (v4 < (↑(List.length h0) : Int)) ∧ ((InR .i64 (v4 + 1)) ∧ (R23_3 n (v4 + 1) (List.set h0 (Int.toNat v4) ((List.getD x0 (Int.toNat v4) (ByteArray.empty, 0, 0, 0, ())).1, (List.getD x0 (Int.toNat v4) (ByteArray.empty, 0, 0, 0, ())).2.1, (List.getD x0 (Int.toNat v4) (ByteArray.empty, 0, 0, 0, ())).2.2.1, (List.getD x0 (Int.toNat v4) (ByteArray.empty, 0, 0, 0, ())).2.2.2.1, ())) (x0) ds)))) else (ds = [Dyn.mk (Ty.sl YA5) h0]))
end
theorem snd23 : ∀ n, (∀ (x0 : List TyB1) ds, R23 n x0 ds → ∀ K q, AtV Tryz.prog 23 (PostR kds23 oks23 ds [] [] q K) 23 K q [] [.code b23] (entE 0 0 sig23 (x0, ())) (entL sig23 (x0, ()))) ∧ (∀ (v4 : Int) (h0 : List TyB1) (x0 : List TyB1) ds, R23_3 n v4 h0 x0 ds → ∀ K q, AtV Tryz.prog 23 (PostR kds23 oks23 ds [] [] q K) 23 K q [] (cutAt b23 3) (E23_3 v4 h0 x0) (L23_3 v4 h0 x0)) := by
  intro n
  induction n with
  | zero => exact ⟨fun _ _ h => by simp only [R23] at h, fun _ _ _ _ h => by simp only [R23_3] at h⟩
  | succ n ih =>
  obtain ⟨ih, ih3⟩ := ih
  refine ⟨?_, ?_⟩
  · intro x0 ds h K q
    rw [R23] at h
    obtain ⟨s0, s1, s2, h⟩ := h
    exact AtV.go tabOk ext23Ok mixed false [] [] [0, 3, 4] [0] [] (a1 s0 (a1 s1 (a1 s2 trivial))) (ih3 _ _ _ _ h K q) (by kernel_rfl)
  · intro v4 h0 x0 ds h K q
    rw [R23_3] at h
    by_cases b0 : (decide (v4 < (↑(List.length x0) : Int))) = true
    · rw [if_pos b0] at h
      obtain ⟨s0, s1, h⟩ := h
      obtain ⟨s2, s3, h⟩ := h
      obtain ⟨s4, h⟩ := h
      exact AtV.go tabOk ext23Ok mixed false [] [] [0, 3, 4] [0] [true] (a1 b0 (a1 s0 (a1 s1 (a1 trivial (a1 s2 (a1 s3 (a1 s4 trivial))))))) (ih3 _ _ _ _ h K q) (by kernel_rfl)
    · rw [if_neg b0] at h
      replace b0 := Bool.eq_false_iff.2 b0
      subst h
      exact AtV.ret Tryz.func23 tabOk ext23Ok mixed false [] tys23 [false] (a1 b0 trivial) (by kernel_rfl)
theorem run23 (x0 : List TyB1) (hm : x0.length ≤ maxLen) : ∀ (k i : Nat), i + k = x0.length →
    R23_3 (k + 1) (i : Int) (x0.take i ++ List.replicate k (ByteArray.empty, (0 : Int), (0 : Int), (0 : Int), ())) x0 [⟨.sl (.cons .str (.cons (.int .i64) (.cons (.int .i64) (.cons (.int .i64) .unit)))), x0⟩] := by
  intro k
  induction k with
  | zero =>
    intro i hi
    rw [R23_3, if_neg (by simp; omega), List.take_of_length_le (by omega)]
    simp
  | succ k ih =>
    intro i hi
    rw [R23_3, if_pos (by simp; omega)]
    simp only [Int.toNat_natCast]
    refine ⟨by omega, by omega, by omega, by simp; omega, inR_up hm (by omega), ?_⟩
    have hs := set_step x0 (ByteArray.empty, (0 : Int), (0 : Int), (0 : Int), ()) i (by omega) (k + 1) (by omega)
    have he : ∀ y : TyB1, (y.1, y.2.1, y.2.2.1, y.2.2.2.1, ()) = y := fun _ => rfl
    rw [he, hs]
    exact ih (i + 1) (by omega)
def g23_0 (x0 : List TyB1) : List TyB1 := x0
def P23 (x0 : List TyB1) : Prop := 40 * (x0.length : Int) ≤ 281474976710656
def S23 : Am.Spec := { sig := sig23, pre := fun ⟨x0, _⟩ => P23 x0, res := fun ⟨x0, _⟩ => [⟨.sl (.cons .str (.cons (.int .i64) (.cons (.int .i64) (.cons (.int .i64) .unit)))), g23_0 x0⟩] }
theorem con23 : Contract Tryz.prog 23 S23 := contract_of Tryz.func23 hb23 (Nat.le_of_ble_eq_true (by kernel_rfl)) (fun ⟨x0, _⟩ h hwf K q => by
  refine (snd23 (x0.length + 2)).1 x0 _ ?_ K q
  show R23 (x0.length + 1 + 1) x0 [⟨.sl (.cons .str (.cons (.int .i64) (.cons (.int .i64) (.cons (.int .i64) .unit)))), x0⟩]
  rw [R23]
  refine ⟨by omega, by omega, h, ?_⟩
  have := run23 x0 hwf.1.1 x0.length 0 (by omega)
  simpa using this)
end
noncomputable section
def ext24 : Ext := []
theorem ext24Ok : ExtOk Tryz.prog ext24 := trivial
noncomputable def b24 : Code := bodyOf Tryz.f24
theorem hb24 : Tryz.f24.body = some b24 := by kernel_rfl
def sig24 : List AT := [AT.v YA7]
def tys24 : List Ty := [Ty.cons (Ty.int .i64) YA9]
def kds24 : List RK := []
def oks24 : List AT := owns sig24
def P24 (x0 : Int × Int × Int × Unit) : Prop := True
def g24_0 (x0 : Int × Int × Int × Unit) : Int × Int × Int × Unit := (x0.1, x0.2.1, x0.2.2.1, ())
theorem at24 (x0 : Int × Int × Int × Unit) (h : P24 x0) (K : Ctx) (q : Nat → Value) : AtV Tryz.prog 24 (PostR kds24 oks24 [⟨Ty.cons (Ty.int .i64) YA9, g24_0 x0⟩] [] [] q K) 14 K q [] [.code b24] (entE 0 0 sig24 (x0, ())) (entL sig24 (x0, ())) := by
  unfold P24 at h
  unfold g24_0
  exact AtV.ret Tryz.func24 tabOk ext24Ok mixed false [] tys24 [] trivial (by kernel_rfl)
def S24 : Am.Spec := { sig := sig24, pre := fun ⟨x0, _⟩ => P24 x0, res := fun ⟨x0, _⟩ => [⟨Ty.cons (Ty.int .i64) YA9, g24_0 x0⟩], kds := kds24 }
theorem con24 : Contract Tryz.prog 24 S24 := contract_of Tryz.func24 hb24 (Nat.le_of_ble_eq_true (by kernel_rfl)) (fun ⟨x0, _⟩ h _ K q => at24 x0 h K q)
end
noncomputable section
def ext62 : Ext := []
theorem ext62Ok : ExtOk Tryz.prog ext62 := trivial
noncomputable def b62 : Code := bodyOf Tryz.f62
theorem hb62 : Tryz.f62.body = some b62 := by kernel_rfl
def sig62 : List AT := [AT.v YA3]
def tys62 : List Ty := [Ty.cons Ty.str YA4]
def kds62 : List RK := []
def oks62 : List AT := owns sig62
def P62 (x0 : ByteArray × Int × Int × Int × Int × Unit) : Prop := True
def g62_0 (x0 : ByteArray × Int × Int × Int × Int × Unit) : ByteArray × Int × Int × Int × Int × Unit := (x0.1, x0.2.1, x0.2.2.1, x0.2.2.2.1, x0.2.2.2.2.1, ())
theorem at62 (x0 : ByteArray × Int × Int × Int × Int × Unit) (h : P62 x0) (K : Ctx) (q : Nat → Value) : AtV Tryz.prog 62 (PostR kds62 oks62 [⟨Ty.cons Ty.str YA4, g62_0 x0⟩] [] [] q K) 20 K q [] [.code b62] (entE 0 0 sig62 (x0, ())) (entL sig62 (x0, ())) := by
  unfold P62 at h
  unfold g62_0
  exact AtV.ret Tryz.func62 tabOk ext62Ok mixed false [] tys62 [] trivial (by kernel_rfl)
def S62 : Am.Spec := { sig := sig62, pre := fun ⟨x0, _⟩ => P62 x0, res := fun ⟨x0, _⟩ => [⟨Ty.cons Ty.str YA4, g62_0 x0⟩], kds := kds62 }
theorem con62 : Contract Tryz.prog 62 S62 := contract_of Tryz.func62 hb62 (Nat.le_of_ble_eq_true (by kernel_rfl)) (fun ⟨x0, _⟩ h _ K q => at62 x0 h K q)
end
noncomputable section
def ext25 : Ext := [(62, S62)]
theorem ext25Ok : ExtOk Tryz.prog ext25 := ⟨⟨ca62, con62⟩, trivial⟩
noncomputable def b25 : Code := bodyOf Tryz.f25
theorem hb25 : Tryz.f25.body = some b25 := by kernel_rfl
def sig25 : List AT := [AT.v (Ty.sl YA3)]
def tys25 : List Ty := [Ty.sl YA3]
def kds25 : List RK := []
def oks25 : List AT := owns sig25
def E25_3 (v4 : Int) (h0 : List TyB0) (x0 : List TyB0) : Env := [(0, PV.a (Atom.sl YA3 x0)), (3, PV.a (Atom.osl 0 Option.none)), (4, PV.a (Atom.val (Value.int .i64 v4)))]
def L25_3 (v4 : Int) (h0 : List TyB0) (x0 : List TyB0) : Heap := [Option.some (Arr.mk YA3 h0 false Option.none Option.none)]
mutual
def R25 : Nat → List TyB0 → List Dyn → Prop
  | 0, _, _ => False
  | n + 1, x0, ds => ((0 ≤ (↑(List.length x0) : Int)) ∧ ((↑(List.length x0) : Int) ≤ (↑(List.length x0) : Int)) ∧ (48 * (↑(List.length x0) : Int) ≤ 281474976710656) ∧ (R25_3 n (0) (List.replicate (Int.toNat (↑(List.length x0) : Int)) (ByteArray.empty, 0, 0, 0, 0, ())) (x0) ds))
def R25_3 : Nat → Int → List TyB0 → List TyB0 → List Dyn → Prop
  | 0, _, _, _, _ => False
  | n + 1, v4, h0, x0, ds => (if (decide (v4 < (↑(List.length x0) : Int))) = true then ((0 ≤ v4) ∧ (v4 < (↑(List.length x0) : Int)) ∧ ((0 ≤ v4) ∧ (v4 < (↑(List.length h0) : Int)) ∧ ((InR .i64 (v4 + 1)) ∧ (R25_3 n (v4 + 1) (List.set h0 (Int.toNat v4) ((List.getD x0 (Int.toNat v4) (ByteArray.empty, 0, 0, 0, 0, ())).1, (List.getD x0 (Int.toNat v4) (ByteArray.empty, 0, 0, 0, 0, ())).2.1, (List.getD x0 (Int.toNat v4) (ByteArray.empty, 0, 0, 0, 0, ())).2.2.1, (List.getD x0 (Int.toNat v4) (ByteArray.empty, 0, 0, 0, 0, ())).2.2.2.1, (List.getD x0 (Int.toNat v4) (ByteArray.empty, 0, 0, 0, 0, ())).2.2.2.2.1, ())) (x0) ds)))) else (ds = [Dyn.mk (Ty.sl YA3) h0]))
end
theorem snd25 : ∀ n, (∀ (x0 : List TyB0) ds, R25 n x0 ds → ∀ K q, AtV Tryz.prog 25 (PostR kds25 oks25 ds [] [] q K) 23 K q [] [.code b25] (entE 0 0 sig25 (x0, ())) (entL sig25 (x0, ()))) ∧ (∀ (v4 : Int) (h0 : List TyB0) (x0 : List TyB0) ds, R25_3 n v4 h0 x0 ds → ∀ K q, AtV Tryz.prog 25 (PostR kds25 oks25 ds [] [] q K) 23 K q [] (cutAt b25 3) (E25_3 v4 h0 x0) (L25_3 v4 h0 x0)) := by
  intro n
  induction n with
  | zero => exact ⟨fun _ _ h => by simp only [R25] at h, fun _ _ _ _ h => by simp only [R25_3] at h⟩
  | succ n ih =>
  obtain ⟨ih, ih3⟩ := ih
  refine ⟨?_, ?_⟩
  · intro x0 ds h K q
    rw [R25] at h
    obtain ⟨s0, s1, s2, h⟩ := h
    exact AtV.go tabOk ext25Ok mixed false [] [] [0, 3, 4] [0] [] (a1 s0 (a1 s1 (a1 s2 trivial))) (ih3 _ _ _ _ h K q) (by kernel_rfl)
  · intro v4 h0 x0 ds h K q
    rw [R25_3] at h
    by_cases b0 : (decide (v4 < (↑(List.length x0) : Int))) = true
    · rw [if_pos b0] at h
      obtain ⟨s0, s1, h⟩ := h
      obtain ⟨s2, s3, h⟩ := h
      obtain ⟨s4, h⟩ := h
      exact AtV.go tabOk ext25Ok mixed false [] [] [0, 3, 4] [0] [true] (a1 b0 (a1 s0 (a1 s1 (a1 trivial (a1 s2 (a1 s3 (a1 s4 trivial))))))) (ih3 _ _ _ _ h K q) (by kernel_rfl)
    · rw [if_neg b0] at h
      replace b0 := Bool.eq_false_iff.2 b0
      subst h
      exact AtV.ret Tryz.func25 tabOk ext25Ok mixed false [] tys25 [false] (a1 b0 trivial) (by kernel_rfl)
theorem run25 (x0 : List TyB0) (hm : x0.length ≤ maxLen) : ∀ (k i : Nat), i + k = x0.length →
    R25_3 (k + 1) (i : Int) (x0.take i ++ List.replicate k (ByteArray.empty, (0 : Int), (0 : Int), (0 : Int), (0 : Int), ())) x0 [⟨.sl (.cons .str (.cons (.int .i64) (.cons (.int .i64) (.cons (.int .i64) (.cons (.int .i64) .unit))))), x0⟩] := by
  intro k
  induction k with
  | zero =>
    intro i hi
    rw [R25_3, if_neg (by simp; omega), List.take_of_length_le (by omega)]
    simp
  | succ k ih =>
    intro i hi
    rw [R25_3, if_pos (by simp; omega)]
    simp only [Int.toNat_natCast]
    refine ⟨by omega, by omega, by omega, by simp; omega, inR_up hm (by omega), ?_⟩
    have hs := set_step x0 (ByteArray.empty, (0 : Int), (0 : Int), (0 : Int), (0 : Int), ()) i (by omega) (k + 1) (by omega)
    have he : ∀ y : TyB0, (y.1, y.2.1, y.2.2.1, y.2.2.2.1, y.2.2.2.2.1, ()) = y := fun _ => rfl
    rw [he, hs]
    exact ih (i + 1) (by omega)
def g25_0 (x0 : List TyB0) : List TyB0 := x0
def P25 (x0 : List TyB0) : Prop := 48 * (x0.length : Int) ≤ 281474976710656
def S25 : Am.Spec := { sig := sig25, pre := fun ⟨x0, _⟩ => P25 x0, res := fun ⟨x0, _⟩ => [⟨.sl (.cons .str (.cons (.int .i64) (.cons (.int .i64) (.cons (.int .i64) (.cons (.int .i64) .unit))))), g25_0 x0⟩] }
theorem con25 : Contract Tryz.prog 25 S25 := contract_of Tryz.func25 hb25 (Nat.le_of_ble_eq_true (by kernel_rfl)) (fun ⟨x0, _⟩ h hwf K q => by
  refine (snd25 (x0.length + 2)).1 x0 _ ?_ K q
  show R25 (x0.length + 1 + 1) x0 [⟨.sl (.cons .str (.cons (.int .i64) (.cons (.int .i64) (.cons (.int .i64) (.cons (.int .i64) .unit))))), x0⟩]
  rw [R25]
  refine ⟨by omega, by omega, h, ?_⟩
  have := run25 x0 hwf.1.1 x0.length 0 (by omega)
  simpa using this)
end
noncomputable section
def ext63 : Ext := []
theorem ext63Ok : ExtOk Tryz.prog ext63 := trivial
noncomputable def b63 : Code := bodyOf Tryz.f63
theorem hb63 : Tryz.f63.body = some b63 := by kernel_rfl
def sig63 : List AT := [AT.v YA9]
def tys63 : List Ty := [Ty.cons (Ty.int .i64) (Ty.cons (Ty.int .i64) Ty.unit)]
def kds63 : List RK := []
def oks63 : List AT := owns sig63
def P63 (x0 : Int × Int × Unit) : Prop := True
def g63_0 (x0 : Int × Int × Unit) : Int × Int × Unit := (x0.1, x0.2.1, ())
theorem at63 (x0 : Int × Int × Unit) (h : P63 x0) (K : Ctx) (q : Nat → Value) : AtV Tryz.prog 63 (PostR kds63 oks63 [⟨Ty.cons (Ty.int .i64) (Ty.cons (Ty.int .i64) Ty.unit), g63_0 x0⟩] [] [] q K) 11 K q [] [.code b63] (entE 0 0 sig63 (x0, ())) (entL sig63 (x0, ())) := by
  unfold P63 at h
  unfold g63_0
  exact AtV.ret Tryz.func63 tabOk ext63Ok mixed false [] tys63 [] trivial (by kernel_rfl)
def S63 : Am.Spec := { sig := sig63, pre := fun ⟨x0, _⟩ => P63 x0, res := fun ⟨x0, _⟩ => [⟨Ty.cons (Ty.int .i64) (Ty.cons (Ty.int .i64) Ty.unit), g63_0 x0⟩], kds := kds63 }
theorem con63 : Contract Tryz.prog 63 S63 := contract_of Tryz.func63 hb63 (Nat.le_of_ble_eq_true (by kernel_rfl)) (fun ⟨x0, _⟩ h _ K q => at63 x0 h K q)
end
noncomputable section
def ext26 : Ext := [(63, S63)]
theorem ext26Ok : ExtOk Tryz.prog ext26 := ⟨⟨ca63, con63⟩, trivial⟩
noncomputable def b26 : Code := bodyOf Tryz.f26
theorem hb26 : Tryz.f26.body = some b26 := by kernel_rfl
def sig26 : List AT := [AT.v (Ty.sl YA9)]
def tys26 : List Ty := [Ty.sl YA9]
def kds26 : List RK := []
def oks26 : List AT := owns sig26
def E26_3 (v4 : Int) (h0 : List TyB4) (x0 : List TyB4) : Env := [(0, PV.a (Atom.sl YA9 x0)), (3, PV.a (Atom.osl 0 Option.none)), (4, PV.a (Atom.val (Value.int .i64 v4)))]
def L26_3 (v4 : Int) (h0 : List TyB4) (x0 : List TyB4) : Heap := [Option.some (Arr.mk YA9 h0 false Option.none Option.none)]
mutual
def R26 : Nat → List TyB4 → List Dyn → Prop
  | 0, _, _ => False
  | n + 1, x0, ds => ((0 ≤ (↑(List.length x0) : Int)) ∧ ((↑(List.length x0) : Int) ≤ (↑(List.length x0) : Int)) ∧ (16 * (↑(List.length x0) : Int) ≤ 281474976710656) ∧ (R26_3 n (0) (List.replicate (Int.toNat (↑(List.length x0) : Int)) (0, 0, ())) (x0) ds))
def R26_3 : Nat → Int → List TyB4 → List TyB4 → List Dyn → Prop
  | 0, _, _, _, _ => False
  | n + 1, v4, h0, x0, ds => (if (decide (v4 < (↑(List.length x0) : Int))) = true then ((0 ≤ v4) ∧ (v4 < (↑(List.length x0) : Int)) ∧ ((0 ≤ v4) ∧ (v4 < (↑(List.length h0) : Int)) ∧ ((InR .i64 (v4 + 1)) ∧ (R26_3 n (v4 + 1) (List.set h0 (Int.toNat v4) ((List.getD x0 (Int.toNat v4) (0, 0, ())).1, (List.getD x0 (Int.toNat v4) (0, 0, ())).2.1, ())) (x0) ds)))) else (ds = [Dyn.mk (Ty.sl YA9) h0]))
end
theorem snd26 : ∀ n, (∀ (x0 : List TyB4) ds, R26 n x0 ds → ∀ K q, AtV Tryz.prog 26 (PostR kds26 oks26 ds [] [] q K) 23 K q [] [.code b26] (entE 0 0 sig26 (x0, ())) (entL sig26 (x0, ()))) ∧ (∀ (v4 : Int) (h0 : List TyB4) (x0 : List TyB4) ds, R26_3 n v4 h0 x0 ds → ∀ K q, AtV Tryz.prog 26 (PostR kds26 oks26 ds [] [] q K) 23 K q [] (cutAt b26 3) (E26_3 v4 h0 x0) (L26_3 v4 h0 x0)) := by
  intro n
  induction n with
  | zero => exact ⟨fun _ _ h => by simp only [R26] at h, fun _ _ _ _ h => by simp only [R26_3] at h⟩
  | succ n ih =>
  obtain ⟨ih, ih3⟩ := ih
  refine ⟨?_, ?_⟩
  · intro x0 ds h K q
    rw [R26] at h
    obtain ⟨s0, s1, s2, h⟩ := h
    exact AtV.go tabOk ext26Ok mixed false [] [] [0, 3, 4] [0] [] (a1 s0 (a1 s1 (a1 s2 trivial))) (ih3 _ _ _ _ h K q) (by kernel_rfl)
  · intro v4 h0 x0 ds h K q
    rw [R26_3] at h
    by_cases b0 : (decide (v4 < (↑(List.length x0) : Int))) = true
    · rw [if_pos b0] at h
      obtain ⟨s0, s1, h⟩ := h
      obtain ⟨s2, s3, h⟩ := h
      obtain ⟨s4, h⟩ := h
      exact AtV.go tabOk ext26Ok mixed false [] [] [0, 3, 4] [0] [true] (a1 b0 (a1 s0 (a1 s1 (a1 trivial (a1 s2 (a1 s3 (a1 s4 trivial))))))) (ih3 _ _ _ _ h K q) (by kernel_rfl)
    · rw [if_neg b0] at h
      replace b0 := Bool.eq_false_iff.2 b0
      subst h
      exact AtV.ret Tryz.func26 tabOk ext26Ok mixed false [] tys26 [false] (a1 b0 trivial) (by kernel_rfl)
theorem run26 (x0 : List TyB4) (hm : x0.length ≤ maxLen) : ∀ (k i : Nat), i + k = x0.length →
    R26_3 (k + 1) (i : Int) (x0.take i ++ List.replicate k ((0 : Int), (0 : Int), ())) x0 [⟨.sl (.cons (.int .i64) (.cons (.int .i64) .unit)), x0⟩] := by
  intro k
  induction k with
  | zero =>
    intro i hi
    rw [R26_3, if_neg (by simp; omega), List.take_of_length_le (by omega)]
    simp
  | succ k ih =>
    intro i hi
    rw [R26_3, if_pos (by simp; omega)]
    simp only [Int.toNat_natCast]
    refine ⟨by omega, by omega, by omega, by simp; omega, inR_up hm (by omega), ?_⟩
    have hs := set_step x0 ((0 : Int), (0 : Int), ()) i (by omega) (k + 1) (by omega)
    have he : ∀ y : TyB4, (y.1, y.2.1, ()) = y := fun _ => rfl
    rw [he, hs]
    exact ih (i + 1) (by omega)
def g26_0 (x0 : List TyB4) : List TyB4 := x0
def P26 (x0 : List TyB4) : Prop := 16 * (x0.length : Int) ≤ 281474976710656
def S26 : Am.Spec := { sig := sig26, pre := fun ⟨x0, _⟩ => P26 x0, res := fun ⟨x0, _⟩ => [⟨.sl (.cons (.int .i64) (.cons (.int .i64) .unit)), g26_0 x0⟩] }
theorem con26 : Contract Tryz.prog 26 S26 := contract_of Tryz.func26 hb26 (Nat.le_of_ble_eq_true (by kernel_rfl)) (fun ⟨x0, _⟩ h hwf K q => by
  refine (snd26 (x0.length + 2)).1 x0 _ ?_ K q
  show R26 (x0.length + 1 + 1) x0 [⟨.sl (.cons (.int .i64) (.cons (.int .i64) .unit)), x0⟩]
  rw [R26]
  refine ⟨by omega, by omega, h, ?_⟩
  have := run26 x0 hwf.1.1 x0.length 0 (by omega)
  simpa using this)
end
noncomputable section
def ext64 : Ext := []
theorem ext64Ok : ExtOk Tryz.prog ext64 := trivial
noncomputable def b64 : Code := bodyOf Tryz.f64
theorem hb64 : Tryz.f64.body = some b64 := by kernel_rfl
def sig64 : List AT := [AT.v YA6]
def tys64 : List Ty := [Ty.cons (Ty.int .i64) (Ty.cons (Ty.int .i64) (Ty.cons Ty.str (Ty.cons (Ty.int .i64) Ty.unit)))]
def kds64 : List RK := []
def oks64 : List AT := owns sig64
def P64 (x0 : Int × Int × ByteArray × Int × Unit) : Prop := True
def g64_0 (x0 : Int × Int × ByteArray × Int × Unit) : Int × Int × ByteArray × Int × Unit := (x0.1, x0.2.1, x0.2.2.1, x0.2.2.2.1, ())
theorem at64 (x0 : Int × Int × ByteArray × Int × Unit) (h : P64 x0) (K : Ctx) (q : Nat → Value) : AtV Tryz.prog 64 (PostR kds64 oks64 [⟨Ty.cons (Ty.int .i64) (Ty.cons (Ty.int .i64) (Ty.cons Ty.str (Ty.cons (Ty.int .i64) Ty.unit))), g64_0 x0⟩] [] [] q K) 17 K q [] [.code b64] (entE 0 0 sig64 (x0, ())) (entL sig64 (x0, ())) := by
  unfold P64 at h
  unfold g64_0
  exact AtV.ret Tryz.func64 tabOk ext64Ok mixed false [] tys64 [] trivial (by kernel_rfl)
def S64 : Am.Spec := { sig := sig64, pre := fun ⟨x0, _⟩ => P64 x0, res := fun ⟨x0, _⟩ => [⟨Ty.cons (Ty.int .i64) (Ty.cons (Ty.int .i64) (Ty.cons Ty.str (Ty.cons (Ty.int .i64) Ty.unit))), g64_0 x0⟩], kds := kds64 }
theorem con64 : Contract Tryz.prog 64 S64 := contract_of Tryz.func64 hb64 (Nat.le_of_ble_eq_true (by kernel_rfl)) (fun ⟨x0, _⟩ h _ K q => at64 x0 h K q)
end
noncomputable section
def ext27 : Ext := [(64, S64)]
theorem ext27Ok : ExtOk Tryz.prog ext27 := ⟨⟨ca64, con64⟩, trivial⟩
noncomputable def b27 : Code := bodyOf Tryz.f27
theorem hb27 : Tryz.f27.body = some b27 := by kernel_rfl
def sig27 : List AT := [AT.v (Ty.sl YA6)]
def tys27 : List Ty := [Ty.sl YA6]
def kds27 : List RK := []
def oks27 : List AT := owns sig27
def E27_3 (v4 : Int) (h0 : List TyB2) (x0 : List TyB2) : Env := [(0, PV.a (Atom.sl YA6 x0)), (3, PV.a (Atom.osl 0 Option.none)), (4, PV.a (Atom.val (Value.int .i64 v4)))]
def L27_3 (v4 : Int) (h0 : List TyB2) (x0 : List TyB2) : Heap := [Option.some (Arr.mk YA6 h0 false Option.none Option.none)]
mutual
def R27 : Nat → List TyB2 → List Dyn → Prop
  | 0, _, _ => False
  | n + 1, x0, ds => ((0 ≤ (↑(List.length x0) : Int)) ∧ ((↑(List.length x0) : Int) ≤ (↑(List.length x0) : Int)) ∧ (40 * (↑(List.length x0) : Int) ≤ 281474976710656) ∧ (R27_3 n (0) (List.replicate (Int.toNat (↑(List.length x0) : Int)) (0, 0, ByteArray.empty, 0, ())) (x0) ds))
def R27_3 : Nat → Int → List TyB2 → List TyB2 → List Dyn → Prop
  | 0, _, _, _, _ => False
  | n + 1, v4, h0, x0, ds => (if (decide (v4 < (↑(List.length x0) : Int))) = true then ((0 ≤ v4) ∧ (v4 < (↑(List.length x0) : Int)) ∧ ((0 ≤ v4) ∧ (v4 < (↑(List.length h0) : Int)) ∧ ((InR .i64 (v4 + 1)) ∧ (R27_3 n (v4 + 1) (List.set h0 (Int.toNat v4) ((List.getD x0 (Int.toNat v4) (0, 0, ByteArray.empty, 0, ())).1, (List.getD x0 (Int.toNat v4) (0, 0, ByteArray.empty, 0, ())).2.1, (List.getD x0 (Int.toNat v4) (0, 0, ByteArray.empty, 0, ())).2.2.1, (List.getD x0 (Int.toNat v4) (0, 0, ByteArray.empty, 0, ())).2.2.2.1, ())) (x0) ds)))) else (ds = [Dyn.mk (Ty.sl YA6) h0]))
end
theorem snd27 : ∀ n, (∀ (x0 : List TyB2) ds, R27 n x0 ds → ∀ K q, AtV Tryz.prog 27 (PostR kds27 oks27 ds [] [] q K) 23 K q [] [.code b27] (entE 0 0 sig27 (x0, ())) (entL sig27 (x0, ()))) ∧ (∀ (v4 : Int) (h0 : List TyB2) (x0 : List TyB2) ds, R27_3 n v4 h0 x0 ds → ∀ K q, AtV Tryz.prog 27 (PostR kds27 oks27 ds [] [] q K) 23 K q [] (cutAt b27 3) (E27_3 v4 h0 x0) (L27_3 v4 h0 x0)) := by
  intro n
  induction n with
  | zero => exact ⟨fun _ _ h => by simp only [R27] at h, fun _ _ _ _ h => by simp only [R27_3] at h⟩
  | succ n ih =>
  obtain ⟨ih, ih3⟩ := ih
  refine ⟨?_, ?_⟩
  · intro x0 ds h K q
    rw [R27] at h
    obtain ⟨s0, s1, s2, h⟩ := h
    exact AtV.go tabOk ext27Ok mixed false [] [] [0, 3, 4] [0] [] (a1 s0 (a1 s1 (a1 s2 trivial))) (ih3 _ _ _ _ h K q) (by kernel_rfl)
  · intro v4 h0 x0 ds h K q
    rw [R27_3] at h
    by_cases b0 : (decide (v4 < (↑(List.length x0) : Int))) = true
    · rw [if_pos b0] at h
      obtain ⟨s0, s1, h⟩ := h
      obtain ⟨s2, s3, h⟩ := h
      obtain ⟨s4, h⟩ := h
      exact AtV.go tabOk ext27Ok mixed false [] [] [0, 3, 4] [0] [true] (a1 b0 (a1 s0 (a1 s1 (a1 trivial (a1 s2 (a1 s3 (a1 s4 trivial))))))) (ih3 _ _ _ _ h K q) (by kernel_rfl)
    · rw [if_neg b0] at h
      replace b0 := Bool.eq_false_iff.2 b0
      subst h
      exact AtV.ret Tryz.func27 tabOk ext27Ok mixed false [] tys27 [false] (a1 b0 trivial) (by kernel_rfl)
theorem run27 (x0 : List TyB2) (hm : x0.length ≤ maxLen) : ∀ (k i : Nat), i + k = x0.length →
    R27_3 (k + 1) (i : Int) (x0.take i ++ List.replicate k ((0 : Int), (0 : Int), ByteArray.empty, (0 : Int), ())) x0 [⟨.sl (.cons (.int .i64) (.cons (.int .i64) (.cons .str (.cons (.int .i64) .unit)))), x0⟩] := by
  intro k
  induction k with
  | zero =>
    intro i hi
    rw [R27_3, if_neg (by simp; omega), List.take_of_length_le (by omega)]
    simp
  | succ k ih =>
    intro i hi
    rw [R27_3, if_pos (by simp; omega)]
    simp only [Int.toNat_natCast]
    refine ⟨by omega, by omega, by omega, by simp; omega, inR_up hm (by omega), ?_⟩
    have hs := set_step x0 ((0 : Int), (0 : Int), ByteArray.empty, (0 : Int), ()) i (by omega) (k + 1) (by omega)
    have he : ∀ y : TyB2, (y.1, y.2.1, y.2.2.1, y.2.2.2.1, ()) = y := fun _ => rfl
    rw [he, hs]
    exact ih (i + 1) (by omega)
def g27_0 (x0 : List TyB2) : List TyB2 := x0
def P27 (x0 : List TyB2) : Prop := 40 * (x0.length : Int) ≤ 281474976710656
def S27 : Am.Spec := { sig := sig27, pre := fun ⟨x0, _⟩ => P27 x0, res := fun ⟨x0, _⟩ => [⟨.sl (.cons (.int .i64) (.cons (.int .i64) (.cons .str (.cons (.int .i64) .unit)))), g27_0 x0⟩] }
theorem con27 : Contract Tryz.prog 27 S27 := contract_of Tryz.func27 hb27 (Nat.le_of_ble_eq_true (by kernel_rfl)) (fun ⟨x0, _⟩ h hwf K q => by
  refine (snd27 (x0.length + 2)).1 x0 _ ?_ K q
  show R27 (x0.length + 1 + 1) x0 [⟨.sl (.cons (.int .i64) (.cons (.int .i64) (.cons .str (.cons (.int .i64) .unit)))), x0⟩]
  rw [R27]
  refine ⟨by omega, by omega, h, ?_⟩
  have := run27 x0 hwf.1.1 x0.length 0 (by omega)
  simpa using this)
end
noncomputable section
def ext6 : Ext := [(20, S20), (21, S21), (22, S22), (23, S23), (24, S24), (25, S25), (26, S26), (27, S27)]
theorem ext6Ok : ExtOk Tryz.prog ext6 := ⟨⟨ca20, con20⟩, ⟨ca21, con21⟩, ⟨ca22, con22⟩, ⟨ca23, con23⟩, ⟨ca24, con24⟩, ⟨ca25, con25⟩, ⟨ca26, con26⟩, ⟨ca27, con27⟩, trivial⟩
noncomputable def b6 : Code := bodyOf Tryz.f6
theorem hb6 : Tryz.f6.body = some b6 := by kernel_rfl
def sig6 : List AT := [AT.v YA0]
def tys6 : List Ty := [Ty.cons YA2 YA1]
def kds6 : List RK := []
def oks6 : List AT := owns sig6
def P6 (x0 : TyA0) : Prop := ((P20 x0.1) ∧ ((P23 x0.2.2.2.2.1) ∧ ((P25 x0.2.2.2.2.2.2.1) ∧ ((P26 x0.2.2.2.2.2.2.2.2.2.1) ∧ ((P27 x0.2.2.2.2.2.2.2.2.2.2.2.1) ∧ True)))))
def g6_0 (x0 : TyA0) : TyA0 := (((g20_0 x0.1).1, (g20_0 x0.1).2.1, (g20_0 x0.1).2.2.1, ()), x0.2.1, (x0.2.2.1.1, x0.2.2.1.2.1, ()), (x0.2.2.2.1.1, x0.2.2.2.1.2.1, x0.2.2.2.1.2.2.1, x0.2.2.2.1.2.2.2.1, ()), g23_0 x0.2.2.2.2.1, (x0.2.2.2.2.2.1.1, x0.2.2.2.2.2.1.2.1, x0.2.2.2.2.2.1.2.2.1, ()), g25_0 x0.2.2.2.2.2.2.1, x0.2.2.2.2.2.2.2.1, x0.2.2.2.2.2.2.2.2.1, g26_0 x0.2.2.2.2.2.2.2.2.2.1, x0.2.2.2.2.2.2.2.2.2.2.1, g27_0 x0.2.2.2.2.2.2.2.2.2.2.2.1, ())
theorem at6 (x0 : TyA0) (h : P6 x0) (K : Ctx) (q : Nat → Value) : AtV Tryz.prog 6 (PostR kds6 oks6 [⟨Ty.cons YA2 YA1, g6_0 x0⟩] [] [] q K) 49 K q [] [.code b6] (entE 0 0 sig6 (x0, ())) (entL sig6 (x0, ())) := by
  unfold P6 at h
  unfold g6_0
  obtain ⟨s0, h⟩ := h
  obtain ⟨s1, h⟩ := h
  obtain ⟨s2, h⟩ := h
  obtain ⟨s3, h⟩ := h
  obtain ⟨s4, h⟩ := h
  exact AtV.ret Tryz.func6 tabOk ext6Ok mixed false [] tys6 [] (a1 s0 (a1 trivial (a1 trivial (a1 s1 (a1 trivial (a1 s2 (a1 s3 (a1 s4 trivial)))))))) (by kernel_rfl)
def S6 : Am.Spec := { sig := sig6, pre := fun ⟨x0, _⟩ => P6 x0, res := fun ⟨x0, _⟩ => [⟨Ty.cons YA2 YA1, g6_0 x0⟩], kds := kds6 }
theorem con6 : Contract Tryz.prog 6 S6 := contract_of Tryz.func6 hb6 (Nat.le_of_ble_eq_true (by kernel_rfl)) (fun ⟨x0, _⟩ h _ K q => at6 x0 h K q)
end
noncomputable section
def ext30 : Ext := []
theorem ext30Ok : ExtOk Tryz.prog ext30 := trivial
noncomputable def b30 : Code := bodyOf Tryz.f30
theorem hb30 : Tryz.f30.body = some b30 := by kernel_rfl
def sig30 : List AT := [AT.v YA8, AT.v YA8]
def tys30 : List Ty := [Ty.bool]
def kds30 : List RK := []
def oks30 : List AT := owns sig30
def P30 (x0 : Int × ByteArray × ByteArray × Unit) (x1 : Int × ByteArray × ByteArray × Unit) : Prop := True
def g30_0 (x0 : Int × ByteArray × ByteArray × Unit) (x1 : Int × ByteArray × ByteArray × Unit) : Bool := (if (x0.1 != x1.1) = true then false else (if (!ByteArray.toList x0.2.1 == ByteArray.toList x1.2.1) = true then false else (if (!ByteArray.toList x0.2.2.1 == ByteArray.toList x1.2.2.1) = true then false else true)))
theorem at30 (x0 : Int × ByteArray × ByteArray × Unit) (x1 : Int × ByteArray × ByteArray × Unit) (h : P30 x0 x1) (K : Ctx) (q : Nat → Value) : AtV Tryz.prog 30 (PostR kds30 oks30 [⟨Ty.bool, g30_0 x0 x1⟩] [] [] q K) 20 K q [] [.code b30] (entE 0 0 sig30 (x0, x1, ())) (entL sig30 (x0, x1, ())) := by
  unfold P30 at h
  unfold g30_0
  by_cases b0 : (x0.1 != x1.1) = true
  · try simp only [if_pos b0] at h ⊢
    exact AtV.ret Tryz.func30 tabOk ext30Ok mixed false [] tys30 [true] (a1 b0 trivial) (by kernel_rfl)
  · try simp only [if_neg b0] at h ⊢
    replace b0 := Bool.eq_false_iff.2 b0
    by_cases b1 : (!ByteArray.toList x0.2.1 == ByteArray.toList x1.2.1) = true
    · try simp only [if_pos b1] at h ⊢
      exact AtV.ret Tryz.func30 tabOk ext30Ok mixed false [] tys30 [false, true] (a1 b0 (a1 b1 trivial)) (by kernel_rfl)
    · try simp only [if_neg b1] at h ⊢
      replace b1 := Bool.eq_false_iff.2 b1
      by_cases b2 : (!ByteArray.toList x0.2.2.1 == ByteArray.toList x1.2.2.1) = true
      · try simp only [if_pos b2] at h ⊢
        exact AtV.ret Tryz.func30 tabOk ext30Ok mixed false [] tys30 [false, false, true] (a1 b0 (a1 b1 (a1 b2 trivial))) (by kernel_rfl)
      · try simp only [if_neg b2] at h ⊢
        replace b2 := Bool.eq_false_iff.2 b2
        exact AtV.ret Tryz.func30 tabOk ext30Ok mixed false [] tys30 [false, false, false] (a1 b0 (a1 b1 (a1 b2 trivial))) (by kernel_rfl)
def S30 : Am.Spec := { sig := sig30, pre := fun ⟨x0, x1, _⟩ => P30 x0 x1, res := fun ⟨x0, x1, _⟩ => [⟨Ty.bool, g30_0 x0 x1⟩], kds := kds30 }
theorem con30 : Contract Tryz.prog 30 S30 := contract_of Tryz.func30 hb30 (Nat.le_of_ble_eq_true (by kernel_rfl)) (fun ⟨x0, x1, _⟩ h _ K q => at30 x0 x1 h K q)
theorem eqd30 (x y : TyB3) : g30_0 x y = true ↔ x = y := by
  obtain ⟨a, b, c, u⟩ := x
  obtain ⟨a', b', c', u'⟩ := y
  unfold g30_0
  simp only [Bool.not_eq_true', bytes_ne, bne_iff_ne, ne_eq, ite_not]
  by_cases h0 : a = a'
  · by_cases h1 : b = b'
    · by_cases h2 : c = c'
      · simp [h0, h1, h2]
      · simp [h0, h1, h2]
    · simp [h0, h1]
  · simp [h0]
end
noncomputable section
def ext8 : Ext := [(30, S30)]
theorem ext8Ok : ExtOk Tryz.prog ext8 := ⟨⟨ca30, con30⟩, trivial⟩
noncomputable def b8 : Code := bodyOf Tryz.f8
theorem hb8 : Tryz.f8.body = some b8 := by kernel_rfl
def sig8 : List AT := [AT.v (Ty.sl YA8), AT.v (Ty.sl YA8)]
def tys8 : List Ty := [Ty.bool]
def kds8 : List RK := []
def oks8 : List AT := owns sig8
def E8_4 (v5 : Int) (x0 : List TyB3) (x1 : List TyB3) : Env := [(0, PV.a (Atom.sl YA8 x0)), (1, PV.a (Atom.sl YA8 x1)), (5, PV.a (Atom.val (Value.int .i64 v5)))]
def L8_4 (v5 : Int) (x0 : List TyB3) (x1 : List TyB3) : Heap := []
mutual
def R8 : Nat → List TyB3 → List TyB3 → List Dyn → Prop
  | 0, _, _, _ => False
  | n + 1, x0, x1, ds => (if ((↑(List.length x0) : Int) != (↑(List.length x1) : Int)) = true then (ds = [Dyn.mk Ty.bool false]) else (R8_4 n (0) (x0) (x1) ds))
def R8_4 : Nat → Int → List TyB3 → List TyB3 → List Dyn → Prop
  | 0, _, _, _, _ => False
  | n + 1, v5, x0, x1, ds => (if (decide (v5 < (↑(List.length x0) : Int))) = true then ((0 ≤ v5) ∧ (v5 < (↑(List.length x0) : Int)) ∧ ((0 ≤ v5) ∧ (v5 < (↑(List.length x1) : Int)) ∧ (if (!g30_0 (List.getD x0 (Int.toNat v5) (0, ByteArray.empty, ByteArray.empty, ())) (List.getD x1 (Int.toNat v5) (0, ByteArray.empty, ByteArray.empty, ()))) = true then (ds = [Dyn.mk Ty.bool false]) else ((InR .i64 (v5 + 1)) ∧ (R8_4 n (v5 + 1) (x0) (x1) ds))))) else (ds = [Dyn.mk Ty.bool true]))
end
theorem snd8 : ∀ n, (∀ (x0 : List TyB3) (x1 : List TyB3) ds, R8 n x0 x1 ds → ∀ K q, AtV Tryz.prog 8 (PostR kds8 oks8 ds [] [] q K) 27 K q [] [.code b8] (entE 0 0 sig8 (x0, x1, ())) (entL sig8 (x0, x1, ()))) ∧ (∀ (v5 : Int) (x0 : List TyB3) (x1 : List TyB3) ds, R8_4 n v5 x0 x1 ds → ∀ K q, AtV Tryz.prog 8 (PostR kds8 oks8 ds [] [] q K) 27 K q [] (cutAt b8 4) (E8_4 v5 x0 x1) (L8_4 v5 x0 x1)) := by
  intro n
  induction n with
  | zero => exact ⟨fun _ _ _ h => by simp only [R8] at h, fun _ _ _ _ h => by simp only [R8_4] at h⟩
  | succ n ih =>
  obtain ⟨ih, ih4⟩ := ih
  refine ⟨?_, ?_⟩
  · intro x0 x1 ds h K q
    rw [R8] at h
    by_cases b0 : ((↑(List.length x0) : Int) != (↑(List.length x1) : Int)) = true
    · rw [if_pos b0] at h
      subst h
      exact AtV.ret Tryz.func8 tabOk ext8Ok mixed false [] tys8 [true] (a1 b0 trivial) (by kernel_rfl)
    · rw [if_neg b0] at h
      replace b0 := Bool.eq_false_iff.2 b0
      exact AtV.go tabOk ext8Ok mixed false [] [] [0, 1, 5] [] [false] (a1 b0 trivial) (ih4 _ _ _ _ h K q) (by kernel_rfl)
  · intro v5 x0 x1 ds h K q
    rw [R8_4] at h
    by_cases b0 : (decide (v5 < (↑(List.length x0) : Int))) = true
    · rw [if_pos b0] at h
      obtain ⟨s0, s1, h⟩ := h
      obtain ⟨s2, s3, h⟩ := h
      by_cases b1 : (!g30_0 (List.getD x0 (Int.toNat v5) (0, ByteArray.empty, ByteArray.empty, ())) (List.getD x1 (Int.toNat v5) (0, ByteArray.empty, ByteArray.empty, ()))) = true
      · rw [if_pos b1] at h
        subst h
        exact AtV.ret Tryz.func8 tabOk ext8Ok mixed false [] tys8 [true, true] (a1 b0 (a1 s0 (a1 s1 (a1 s2 (a1 s3 (a1 trivial (a1 b1 trivial))))))) (by kernel_rfl)
      · rw [if_neg b1] at h
        replace b1 := Bool.eq_false_iff.2 b1
        obtain ⟨s4, h⟩ := h
        exact AtV.go tabOk ext8Ok mixed false [] [] [0, 1, 5] [] [true, false] (a1 b0 (a1 s0 (a1 s1 (a1 s2 (a1 s3 (a1 trivial (a1 b1 (a1 s4 trivial)))))))) (ih4 _ _ _ _ h K q) (by kernel_rfl)
    · rw [if_neg b0] at h
      replace b0 := Bool.eq_false_iff.2 b0
      subst h
      exact AtV.ret Tryz.func8 tabOk ext8Ok mixed false [] tys8 [false] (a1 b0 trivial) (by kernel_rfl)
theorem eq8 (x0 x1 : List TyB3) (hl : x0.length = x1.length) (hm : x0.length ≤ maxLen) : ∀ k i : Nat, i + k = x0.length → R8_4 (k + 1) (i : Int) x0 x1 [⟨.bool, decide (x0.drop i = x1.drop i)⟩] := by
  intro k
  induction k with
  | zero =>
    intro i hi
    have h1 : ¬ (i : Int) < (x0.length : Int) := by omega
    rw [R8_4, if_neg (by simpa using h1), drop_end x0 i (by omega), drop_end x1 i (by omega)]
    simp
  | succ k ih =>
    intro i hi
    have h1 : (i : Int) < (x0.length : Int) := by omega
    rw [R8_4, if_pos (by simpa using h1)]
    refine ⟨by omega, h1, by omega, by omega, ?_⟩
    simp only [Int.toNat_natCast]
    rw [drop_get x0 i ((0 : Int), ByteArray.empty, ByteArray.empty, ()) (by omega), drop_get x1 i ((0 : Int), ByteArray.empty, ByteArray.empty, ()) (by omega)]
    by_cases he : x0.getD i ((0 : Int), ByteArray.empty, ByteArray.empty, ()) = x1.getD i ((0 : Int), ByteArray.empty, ByteArray.empty, ())
    · have hd := (eqd30 _ _).2 he
      rw [if_neg (by rw [hd]; simp)]
      refine ⟨inR_up hm (by omega), ?_⟩
      have := ih (i + 1) (by omega)
      simp only [he, List.cons.injEq, true_and]
      exact this
    · have hd : g30_0 (x0.getD i ((0 : Int), ByteArray.empty, ByteArray.empty, ())) (x1.getD i ((0 : Int), ByteArray.empty, ByteArray.empty, ())) = false :=
        Bool.eq_false_iff.2 fun h => he ((eqd30 _ _).1 h)
      rw [if_pos (by rw [hd]; rfl)]
      simp only [he, List.cons.injEq, false_and, decide_false]
def g8_0 (x0 x1 : List TyB3) : Bool := decide (x0 = x1)
def P8 (x0 x1 : List TyB3) : Prop := True
def S8 : Am.Spec := { sig := sig8, pre := fun ⟨x0, x1, _⟩ => P8 x0 x1, res := fun ⟨x0, x1, _⟩ => [⟨Ty.bool, g8_0 x0 x1⟩] }
theorem con8 : Contract Tryz.prog 8 S8 := contract_of Tryz.func8 hb8 (Nat.le_of_ble_eq_true (by kernel_rfl)) (fun ⟨x0, x1, _⟩ h hwf K q => by
  refine (snd8 (x0.length + 2)).1 x0 x1 _ ?_ K q
  show R8 (x0.length + 1 + 1) x0 x1 [⟨Ty.bool, decide (x0 = x1)⟩]
  rw [R8]
  by_cases hl : x0.length = x1.length
  · rw [if_neg (by simp [hl])]
    have := eq8 x0 x1 hl hwf.1.1 x0.length 0 (by omega)
    simpa using this
  · rw [if_pos (by simp; omega)]
    have : x0 ≠ x1 := fun h => hl (by rw [h])
    simp [this])
end
noncomputable section
def ext98 : Ext := []
theorem ext98Ok : ExtOk Tryz.prog ext98 := trivial
noncomputable def b98 : Code := bodyOf Tryz.f98
theorem hb98 : Tryz.f98.body = some b98 := by kernel_rfl
def sig98 : List AT := [AT.v YA9, AT.v YA9]
def tys98 : List Ty := [Ty.bool]
def kds98 : List RK := []
def oks98 : List AT := owns sig98
def P98 (x0 : Int × Int × Unit) (x1 : Int × Int × Unit) : Prop := True
def g98_0 (x0 : Int × Int × Unit) (x1 : Int × Int × Unit) : Bool := (if (x0.1 != x1.1) = true then false else (if (x0.2.1 != x1.2.1) = true then false else true))
theorem at98 (x0 : Int × Int × Unit) (x1 : Int × Int × Unit) (h : P98 x0 x1) (K : Ctx) (q : Nat → Value) : AtV Tryz.prog 98 (PostR kds98 oks98 [⟨Ty.bool, g98_0 x0 x1⟩] [] [] q K) 15 K q [] [.code b98] (entE 0 0 sig98 (x0, x1, ())) (entL sig98 (x0, x1, ())) := by
  unfold P98 at h
  unfold g98_0
  by_cases b0 : (x0.1 != x1.1) = true
  · try simp only [if_pos b0] at h ⊢
    exact AtV.ret Tryz.func98 tabOk ext98Ok mixed false [] tys98 [true] (a1 b0 trivial) (by kernel_rfl)
  · try simp only [if_neg b0] at h ⊢
    replace b0 := Bool.eq_false_iff.2 b0
    by_cases b1 : (x0.2.1 != x1.2.1) = true
    · try simp only [if_pos b1] at h ⊢
      exact AtV.ret Tryz.func98 tabOk ext98Ok mixed false [] tys98 [false, true] (a1 b0 (a1 b1 trivial)) (by kernel_rfl)
    · try simp only [if_neg b1] at h ⊢
      replace b1 := Bool.eq_false_iff.2 b1
      exact AtV.ret Tryz.func98 tabOk ext98Ok mixed false [] tys98 [false, false] (a1 b0 (a1 b1 trivial)) (by kernel_rfl)
def S98 : Am.Spec := { sig := sig98, pre := fun ⟨x0, x1, _⟩ => P98 x0 x1, res := fun ⟨x0, x1, _⟩ => [⟨Ty.bool, g98_0 x0 x1⟩], kds := kds98 }
theorem con98 : Contract Tryz.prog 98 S98 := contract_of Tryz.func98 hb98 (Nat.le_of_ble_eq_true (by kernel_rfl)) (fun ⟨x0, x1, _⟩ h _ K q => at98 x0 x1 h K q)
theorem eqd98 (x y : TyB4) : g98_0 x y = true ↔ x = y := by
  obtain ⟨a, b, u⟩ := x
  obtain ⟨a', b', u'⟩ := y
  unfold g98_0
  simp only [Bool.not_eq_true', bytes_ne, bne_iff_ne, ne_eq, ite_not]
  by_cases h0 : a = a'
  · by_cases h1 : b = b'
    · simp [h0, h1]
    · simp [h0, h1]
  · simp [h0]
end
noncomputable section
def ext68 : Ext := [(98, S98)]
theorem ext68Ok : ExtOk Tryz.prog ext68 := ⟨⟨ca98, con98⟩, trivial⟩
noncomputable def b68 : Code := bodyOf Tryz.f68
theorem hb68 : Tryz.f68.body = some b68 := by kernel_rfl
def sig68 : List AT := [AT.v (Ty.sl YA9), AT.v (Ty.sl YA9)]
def tys68 : List Ty := [Ty.bool]
def kds68 : List RK := []
def oks68 : List AT := owns sig68
def E68_4 (v5 : Int) (x0 : List TyB4) (x1 : List TyB4) : Env := [(0, PV.a (Atom.sl YA9 x0)), (1, PV.a (Atom.sl YA9 x1)), (5, PV.a (Atom.val (Value.int .i64 v5)))]
def L68_4 (v5 : Int) (x0 : List TyB4) (x1 : List TyB4) : Heap := []
mutual
def R68 : Nat → List TyB4 → List TyB4 → List Dyn → Prop
  | 0, _, _, _ => False
  | n + 1, x0, x1, ds => (if ((↑(List.length x0) : Int) != (↑(List.length x1) : Int)) = true then (ds = [Dyn.mk Ty.bool false]) else (R68_4 n (0) (x0) (x1) ds))
def R68_4 : Nat → Int → List TyB4 → List TyB4 → List Dyn → Prop
  | 0, _, _, _, _ => False
  | n + 1, v5, x0, x1, ds => (if (decide (v5 < (↑(List.length x0) : Int))) = true then ((0 ≤ v5) ∧ (v5 < (↑(List.length x0) : Int)) ∧ ((0 ≤ v5) ∧ (v5 < (↑(List.length x1) : Int)) ∧ (if (!g98_0 (List.getD x0 (Int.toNat v5) (0, 0, ())) (List.getD x1 (Int.toNat v5) (0, 0, ()))) = true then (ds = [Dyn.mk Ty.bool false]) else ((InR .i64 (v5 + 1)) ∧ (R68_4 n (v5 + 1) (x0) (x1) ds))))) else (ds = [Dyn.mk Ty.bool true]))
end
theorem snd68 : ∀ n, (∀ (x0 : List TyB4) (x1 : List TyB4) ds, R68 n x0 x1 ds → ∀ K q, AtV Tryz.prog 68 (PostR kds68 oks68 ds [] [] q K) 27 K q [] [.code b68] (entE 0 0 sig68 (x0, x1, ())) (entL sig68 (x0, x1, ()))) ∧ (∀ (v5 : Int) (x0 : List TyB4) (x1 : List TyB4) ds, R68_4 n v5 x0 x1 ds → ∀ K q, AtV Tryz.prog 68 (PostR kds68 oks68 ds [] [] q K) 27 K q [] (cutAt b68 4) (E68_4 v5 x0 x1) (L68_4 v5 x0 x1)) := by
  intro n
  induction n with
  | zero => exact ⟨fun _ _ _ h => by simp only [R68] at h, fun _ _ _ _ h => by simp only [R68_4] at h⟩
  | succ n ih =>
  obtain ⟨ih, ih4⟩ := ih
  refine ⟨?_, ?_⟩
  · intro x0 x1 ds h K q
    rw [R68] at h
    by_cases b0 : ((↑(List.length x0) : Int) != (↑(List.length x1) : Int)) = true
    · rw [if_pos b0] at h
      subst h
      exact AtV.ret Tryz.func68 tabOk ext68Ok mixed false [] tys68 [true] (a1 b0 trivial) (by kernel_rfl)
    · rw [if_neg b0] at h
      replace b0 := Bool.eq_false_iff.2 b0
      exact AtV.go tabOk ext68Ok mixed false [] [] [0, 1, 5] [] [false] (a1 b0 trivial) (ih4 _ _ _ _ h K q) (by kernel_rfl)
  · intro v5 x0 x1 ds h K q
    rw [R68_4] at h
    by_cases b0 : (decide (v5 < (↑(List.length x0) : Int))) = true
    · rw [if_pos b0] at h
      obtain ⟨s0, s1, h⟩ := h
      obtain ⟨s2, s3, h⟩ := h
      by_cases b1 : (!g98_0 (List.getD x0 (Int.toNat v5) (0, 0, ())) (List.getD x1 (Int.toNat v5) (0, 0, ()))) = true
      · rw [if_pos b1] at h
        subst h
        exact AtV.ret Tryz.func68 tabOk ext68Ok mixed false [] tys68 [true, true] (a1 b0 (a1 s0 (a1 s1 (a1 s2 (a1 s3 (a1 trivial (a1 b1 trivial))))))) (by kernel_rfl)
      · rw [if_neg b1] at h
        replace b1 := Bool.eq_false_iff.2 b1
        obtain ⟨s4, h⟩ := h
        exact AtV.go tabOk ext68Ok mixed false [] [] [0, 1, 5] [] [true, false] (a1 b0 (a1 s0 (a1 s1 (a1 s2 (a1 s3 (a1 trivial (a1 b1 (a1 s4 trivial)))))))) (ih4 _ _ _ _ h K q) (by kernel_rfl)
    · rw [if_neg b0] at h
      replace b0 := Bool.eq_false_iff.2 b0
      subst h
      exact AtV.ret Tryz.func68 tabOk ext68Ok mixed false [] tys68 [false] (a1 b0 trivial) (by kernel_rfl)
theorem eq68 (x0 x1 : List TyB4) (hl : x0.length = x1.length) (hm : x0.length ≤ maxLen) : ∀ k i : Nat, i + k = x0.length → R68_4 (k + 1) (i : Int) x0 x1 [⟨.bool, decide (x0.drop i = x1.drop i)⟩] := by
  intro k
  induction k with
  | zero =>
    intro i hi
    have h1 : ¬ (i : Int) < (x0.length : Int) := by omega
    rw [R68_4, if_neg (by simpa using h1), drop_end x0 i (by omega), drop_end x1 i (by omega)]
    simp
  | succ k ih =>
    intro i hi
    have h1 : (i : Int) < (x0.length : Int) := by omega
    rw [R68_4, if_pos (by simpa using h1)]
    refine ⟨by omega, h1, by omega, by omega, ?_⟩
    simp only [Int.toNat_natCast]
    rw [drop_get x0 i ((0 : Int), (0 : Int), ()) (by omega), drop_get x1 i ((0 : Int), (0 : Int), ()) (by omega)]
    by_cases he : x0.getD i ((0 : Int), (0 : Int), ()) = x1.getD i ((0 : Int), (0 : Int), ())
    · have hd := (eqd98 _ _).2 he
      rw [if_neg (by rw [hd]; simp)]
      refine ⟨inR_up hm (by omega), ?_⟩
      have := ih (i + 1) (by omega)
      simp only [he, List.cons.injEq, true_and]
      exact this
    · have hd : g98_0 (x0.getD i ((0 : Int), (0 : Int), ())) (x1.getD i ((0 : Int), (0 : Int), ())) = false :=
        Bool.eq_false_iff.2 fun h => he ((eqd98 _ _).1 h)
      rw [if_pos (by rw [hd]; rfl)]
      simp only [he, List.cons.injEq, false_and, decide_false]
def g68_0 (x0 x1 : List TyB4) : Bool := decide (x0 = x1)
def P68 (x0 x1 : List TyB4) : Prop := True
def S68 : Am.Spec := { sig := sig68, pre := fun ⟨x0, x1, _⟩ => P68 x0 x1, res := fun ⟨x0, x1, _⟩ => [⟨Ty.bool, g68_0 x0 x1⟩] }
theorem con68 : Contract Tryz.prog 68 S68 := contract_of Tryz.func68 hb68 (Nat.le_of_ble_eq_true (by kernel_rfl)) (fun ⟨x0, x1, _⟩ h hwf K q => by
  refine (snd68 (x0.length + 2)).1 x0 x1 _ ?_ K q
  show R68 (x0.length + 1 + 1) x0 x1 [⟨Ty.bool, decide (x0 = x1)⟩]
  rw [R68]
  by_cases hl : x0.length = x1.length
  · rw [if_neg (by simp [hl])]
    have := eq68 x0 x1 hl hwf.1.1 x0.length 0 (by omega)
    simpa using this
  · rw [if_pos (by simp; omega)]
    have : x0 ≠ x1 := fun h => hl (by rw [h])
    simp [this])
end
noncomputable section
def ext31 : Ext := [(68, S68)]
theorem ext31Ok : ExtOk Tryz.prog ext31 := ⟨⟨ca68, con68⟩, trivial⟩
noncomputable def b31 : Code := bodyOf Tryz.f31
theorem hb31 : Tryz.f31.body = some b31 := by kernel_rfl
def sig31 : List AT := [AT.v YA2, AT.v YA2]
def tys31 : List Ty := [Ty.bool]
def kds31 : List RK := []
def oks31 : List AT := owns sig31
def P31 (x0 : List TyB4 × Int × Int × Unit) (x1 : List TyB4 × Int × Int × Unit) : Prop := True
def g31_0 (x0 : List TyB4 × Int × Int × Unit) (x1 : List TyB4 × Int × Int × Unit) : Bool := (if (!g68_0 x0.1 x1.1) = true then false else (if (x0.2.1 != x1.2.1) = true then false else (if (x0.2.2.1 != x1.2.2.1) = true then false else true)))
theorem at31 (x0 : List TyB4 × Int × Int × Unit) (x1 : List TyB4 × Int × Int × Unit) (h : P31 x0 x1) (K : Ctx) (q : Nat → Value) : AtV Tryz.prog 31 (PostR kds31 oks31 [⟨Ty.bool, g31_0 x0 x1⟩] [] [] q K) 21 K q [] [.code b31] (entE 0 0 sig31 (x0, x1, ())) (entL sig31 (x0, x1, ())) := by
  unfold P31 at h
  unfold g31_0
  by_cases b0 : (!g68_0 x0.1 x1.1) = true
  · try simp only [if_pos b0] at h ⊢
    exact AtV.ret Tryz.func31 tabOk ext31Ok mixed false [] tys31 [true] (a1 trivial (a1 b0 trivial)) (by kernel_rfl)
  · try simp only [if_neg b0] at h ⊢
    replace b0 := Bool.eq_false_iff.2 b0
    by_cases b1 : (x0.2.1 != x1.2.1) = true
    · try simp only [if_pos b1] at h ⊢
      exact AtV.ret Tryz.func31 tabOk ext31Ok mixed false [] tys31 [false, true] (a1 trivial (a1 b0 (a1 b1 trivial))) (by kernel_rfl)
    · try simp only [if_neg b1] at h ⊢
      replace b1 := Bool.eq_false_iff.2 b1
      by_cases b2 : (x0.2.2.1 != x1.2.2.1) = true
      · try simp only [if_pos b2] at h ⊢
        exact AtV.ret Tryz.func31 tabOk ext31Ok mixed false [] tys31 [false, false, true] (a1 trivial (a1 b0 (a1 b1 (a1 b2 trivial)))) (by kernel_rfl)
      · try simp only [if_neg b2] at h ⊢
        replace b2 := Bool.eq_false_iff.2 b2
        exact AtV.ret Tryz.func31 tabOk ext31Ok mixed false [] tys31 [false, false, false] (a1 trivial (a1 b0 (a1 b1 (a1 b2 trivial)))) (by kernel_rfl)
def S31 : Am.Spec := { sig := sig31, pre := fun ⟨x0, x1, _⟩ => P31 x0 x1, res := fun ⟨x0, x1, _⟩ => [⟨Ty.bool, g31_0 x0 x1⟩], kds := kds31 }
theorem con31 : Contract Tryz.prog 31 S31 := contract_of Tryz.func31 hb31 (Nat.le_of_ble_eq_true (by kernel_rfl)) (fun ⟨x0, x1, _⟩ h _ K q => at31 x0 x1 h K q)
end
noncomputable section
def ext32 : Ext := []
theorem ext32Ok : ExtOk Tryz.prog ext32 := trivial
noncomputable def b32 : Code := bodyOf Tryz.f32
theorem hb32 : Tryz.f32.body = some b32 := by kernel_rfl
def sig32 : List AT := [AT.v YA9, AT.v YA9]
def tys32 : List Ty := [Ty.bool]
def kds32 : List RK := []
def oks32 : List AT := owns sig32
def P32 (x0 : Int × Int × Unit) (x1 : Int × Int × Unit) : Prop := True
def g32_0 (x0 : Int × Int × Unit) (x1 : Int × Int × Unit) : Bool := (if (x0.1 != x1.1) = true then false else (if (x0.2.1 != x1.2.1) = true then false else true))
theorem at32 (x0 : Int × Int × Unit) (x1 : Int × Int × Unit) (h : P32 x0 x1) (K : Ctx) (q : Nat → Value) : AtV Tryz.prog 32 (PostR kds32 oks32 [⟨Ty.bool, g32_0 x0 x1⟩] [] [] q K) 15 K q [] [.code b32] (entE 0 0 sig32 (x0, x1, ())) (entL sig32 (x0, x1, ())) := by
  unfold P32 at h
  unfold g32_0
  by_cases b0 : (x0.1 != x1.1) = true
  · try simp only [if_pos b0] at h ⊢
    exact AtV.ret Tryz.func32 tabOk ext32Ok mixed false [] tys32 [true] (a1 b0 trivial) (by kernel_rfl)
  · try simp only [if_neg b0] at h ⊢
    replace b0 := Bool.eq_false_iff.2 b0
    by_cases b1 : (x0.2.1 != x1.2.1) = true
    · try simp only [if_pos b1] at h ⊢
      exact AtV.ret Tryz.func32 tabOk ext32Ok mixed false [] tys32 [false, true] (a1 b0 (a1 b1 trivial)) (by kernel_rfl)
    · try simp only [if_neg b1] at h ⊢
      replace b1 := Bool.eq_false_iff.2 b1
      exact AtV.ret Tryz.func32 tabOk ext32Ok mixed false [] tys32 [false, false] (a1 b0 (a1 b1 trivial)) (by kernel_rfl)
def S32 : Am.Spec := { sig := sig32, pre := fun ⟨x0, x1, _⟩ => P32 x0 x1, res := fun ⟨x0, x1, _⟩ => [⟨Ty.bool, g32_0 x0 x1⟩], kds := kds32 }
theorem con32 : Contract Tryz.prog 32 S32 := contract_of Tryz.func32 hb32 (Nat.le_of_ble_eq_true (by kernel_rfl)) (fun ⟨x0, x1, _⟩ h _ K q => at32 x0 x1 h K q)
end
noncomputable section
def ext33 : Ext := []
theorem ext33Ok : ExtOk Tryz.prog ext33 := trivial
noncomputable def b33 : Code := bodyOf Tryz.f33
theorem hb33 : Tryz.f33.body = some b33 := by kernel_rfl
def sig33 : List AT := [AT.v YA4, AT.v YA4]
def tys33 : List Ty := [Ty.bool]
def kds33 : List RK := []
def oks33 : List AT := owns sig33
def P33 (x0 : Int × Int × Int × Int × Unit) (x1 : Int × Int × Int × Int × Unit) : Prop := True
def g33_0 (x0 : Int × Int × Int × Int × Unit) (x1 : Int × Int × Int × Int × Unit) : Bool := (if (x0.1 != x1.1) = true then false else (if (x0.2.1 != x1.2.1) = true then false else (if (x0.2.2.1 != x1.2.2.1) = true then false else (if (x0.2.2.2.1 != x1.2.2.2.1) = true then false else true))))
theorem at33 (x0 : Int × Int × Int × Int × Unit) (x1 : Int × Int × Int × Int × Unit) (h : P33 x0 x1) (K : Ctx) (q : Nat → Value) : AtV Tryz.prog 33 (PostR kds33 oks33 [⟨Ty.bool, g33_0 x0 x1⟩] [] [] q K) 25 K q [] [.code b33] (entE 0 0 sig33 (x0, x1, ())) (entL sig33 (x0, x1, ())) := by
  unfold P33 at h
  unfold g33_0
  by_cases b0 : (x0.1 != x1.1) = true
  · try simp only [if_pos b0] at h ⊢
    exact AtV.ret Tryz.func33 tabOk ext33Ok mixed false [] tys33 [true] (a1 b0 trivial) (by kernel_rfl)
  · try simp only [if_neg b0] at h ⊢
    replace b0 := Bool.eq_false_iff.2 b0
    by_cases b1 : (x0.2.1 != x1.2.1) = true
    · try simp only [if_pos b1] at h ⊢
      exact AtV.ret Tryz.func33 tabOk ext33Ok mixed false [] tys33 [false, true] (a1 b0 (a1 b1 trivial)) (by kernel_rfl)
    · try simp only [if_neg b1] at h ⊢
      replace b1 := Bool.eq_false_iff.2 b1
      by_cases b2 : (x0.2.2.1 != x1.2.2.1) = true
      · try simp only [if_pos b2] at h ⊢
        exact AtV.ret Tryz.func33 tabOk ext33Ok mixed false [] tys33 [false, false, true] (a1 b0 (a1 b1 (a1 b2 trivial))) (by kernel_rfl)
      · try simp only [if_neg b2] at h ⊢
        replace b2 := Bool.eq_false_iff.2 b2
        by_cases b3 : (x0.2.2.2.1 != x1.2.2.2.1) = true
        · try simp only [if_pos b3] at h ⊢
          exact AtV.ret Tryz.func33 tabOk ext33Ok mixed false [] tys33 [false, false, false, true] (a1 b0 (a1 b1 (a1 b2 (a1 b3 trivial)))) (by kernel_rfl)
        · try simp only [if_neg b3] at h ⊢
          replace b3 := Bool.eq_false_iff.2 b3
          exact AtV.ret Tryz.func33 tabOk ext33Ok mixed false [] tys33 [false, false, false, false] (a1 b0 (a1 b1 (a1 b2 (a1 b3 trivial)))) (by kernel_rfl)
def S33 : Am.Spec := { sig := sig33, pre := fun ⟨x0, x1, _⟩ => P33 x0 x1, res := fun ⟨x0, x1, _⟩ => [⟨Ty.bool, g33_0 x0 x1⟩], kds := kds33 }
theorem con33 : Contract Tryz.prog 33 S33 := contract_of Tryz.func33 hb33 (Nat.le_of_ble_eq_true (by kernel_rfl)) (fun ⟨x0, x1, _⟩ h _ K q => at33 x0 x1 h K q)
end
noncomputable section
def ext69 : Ext := []
theorem ext69Ok : ExtOk Tryz.prog ext69 := trivial
noncomputable def b69 : Code := bodyOf Tryz.f69
theorem hb69 : Tryz.f69.body = some b69 := by kernel_rfl
def sig69 : List AT := [AT.v YA5, AT.v YA5]
def tys69 : List Ty := [Ty.bool]
def kds69 : List RK := []
def oks69 : List AT := owns sig69
def P69 (x0 : ByteArray × Int × Int × Int × Unit) (x1 : ByteArray × Int × Int × Int × Unit) : Prop := True
def g69_0 (x0 : ByteArray × Int × Int × Int × Unit) (x1 : ByteArray × Int × Int × Int × Unit) : Bool := (if (!ByteArray.toList x0.1 == ByteArray.toList x1.1) = true then false else (if (x0.2.1 != x1.2.1) = true then false else (if (x0.2.2.1 != x1.2.2.1) = true then false else (if (x0.2.2.2.1 != x1.2.2.2.1) = true then false else true))))
theorem at69 (x0 : ByteArray × Int × Int × Int × Unit) (x1 : ByteArray × Int × Int × Int × Unit) (h : P69 x0 x1) (K : Ctx) (q : Nat → Value) : AtV Tryz.prog 69 (PostR kds69 oks69 [⟨Ty.bool, g69_0 x0 x1⟩] [] [] q K) 25 K q [] [.code b69] (entE 0 0 sig69 (x0, x1, ())) (entL sig69 (x0, x1, ())) := by
  unfold P69 at h
  unfold g69_0
  by_cases b0 : (!ByteArray.toList x0.1 == ByteArray.toList x1.1) = true
  · try simp only [if_pos b0] at h ⊢
    exact AtV.ret Tryz.func69 tabOk ext69Ok mixed false [] tys69 [true] (a1 b0 trivial) (by kernel_rfl)
  · try simp only [if_neg b0] at h ⊢
    replace b0 := Bool.eq_false_iff.2 b0
    by_cases b1 : (x0.2.1 != x1.2.1) = true
    · try simp only [if_pos b1] at h ⊢
      exact AtV.ret Tryz.func69 tabOk ext69Ok mixed false [] tys69 [false, true] (a1 b0 (a1 b1 trivial)) (by kernel_rfl)
    · try simp only [if_neg b1] at h ⊢
      replace b1 := Bool.eq_false_iff.2 b1
      by_cases b2 : (x0.2.2.1 != x1.2.2.1) = true
      · try simp only [if_pos b2] at h ⊢
        exact AtV.ret Tryz.func69 tabOk ext69Ok mixed false [] tys69 [false, false, true] (a1 b0 (a1 b1 (a1 b2 trivial))) (by kernel_rfl)
      · try simp only [if_neg b2] at h ⊢
        replace b2 := Bool.eq_false_iff.2 b2
        by_cases b3 : (x0.2.2.2.1 != x1.2.2.2.1) = true
        · try simp only [if_pos b3] at h ⊢
          exact AtV.ret Tryz.func69 tabOk ext69Ok mixed false [] tys69 [false, false, false, true] (a1 b0 (a1 b1 (a1 b2 (a1 b3 trivial)))) (by kernel_rfl)
        · try simp only [if_neg b3] at h ⊢
          replace b3 := Bool.eq_false_iff.2 b3
          exact AtV.ret Tryz.func69 tabOk ext69Ok mixed false [] tys69 [false, false, false, false] (a1 b0 (a1 b1 (a1 b2 (a1 b3 trivial)))) (by kernel_rfl)
def S69 : Am.Spec := { sig := sig69, pre := fun ⟨x0, x1, _⟩ => P69 x0 x1, res := fun ⟨x0, x1, _⟩ => [⟨Ty.bool, g69_0 x0 x1⟩], kds := kds69 }
theorem con69 : Contract Tryz.prog 69 S69 := contract_of Tryz.func69 hb69 (Nat.le_of_ble_eq_true (by kernel_rfl)) (fun ⟨x0, x1, _⟩ h _ K q => at69 x0 x1 h K q)
theorem eqd69 (x y : TyB1) : g69_0 x y = true ↔ x = y := by
  obtain ⟨a, b, c, d, u⟩ := x
  obtain ⟨a', b', c', d', u'⟩ := y
  unfold g69_0
  simp only [Bool.not_eq_true', bytes_ne, bne_iff_ne, ne_eq, ite_not]
  by_cases h0 : a = a'
  · by_cases h1 : b = b'
    · by_cases h2 : c = c'
      · by_cases h3 : d = d'
        · simp [h0, h1, h2, h3]
        · simp [h0, h1, h2, h3]
      · simp [h0, h1, h2]
    · simp [h0, h1]
  · simp [h0]
end
noncomputable section
def ext34 : Ext := [(69, S69)]
theorem ext34Ok : ExtOk Tryz.prog ext34 := ⟨⟨ca69, con69⟩, trivial⟩
noncomputable def b34 : Code := bodyOf Tryz.f34
theorem hb34 : Tryz.f34.body = some b34 := by kernel_rfl
def sig34 : List AT := [AT.v (Ty.sl YA5), AT.v (Ty.sl YA5)]
def tys34 : List Ty := [Ty.bool]
def kds34 : List RK := []
def oks34 : List AT := owns sig34
def E34_4 (v5 : Int) (x0 : List TyB1) (x1 : List TyB1) : Env := [(0, PV.a (Atom.sl YA5 x0)), (1, PV.a (Atom.sl YA5 x1)), (5, PV.a (Atom.val (Value.int .i64 v5)))]
def L34_4 (v5 : Int) (x0 : List TyB1) (x1 : List TyB1) : Heap := []
mutual
def R34 : Nat → List TyB1 → List TyB1 → List Dyn → Prop
  | 0, _, _, _ => False
  | n + 1, x0, x1, ds => (if ((↑(List.length x0) : Int) != (↑(List.length x1) : Int)) = true then (ds = [Dyn.mk Ty.bool false]) else (R34_4 n (0) (x0) (x1) ds))
def R34_4 : Nat → Int → List TyB1 → List TyB1 → List Dyn → Prop
  | 0, _, _, _, _ => False
  | n + 1, v5, x0, x1, ds => (if (decide (v5 < (↑(List.length x0) : Int))) = true then ((0 ≤ v5) ∧ (v5 < (↑(List.length x0) : Int)) ∧ ((0 ≤ v5) ∧ (v5 < (↑(List.length x1) : Int)) ∧ (if (!g69_0 (List.getD x0 (Int.toNat v5) (ByteArray.empty, 0, 0, 0, ())) (List.getD x1 (Int.toNat v5) (ByteArray.empty, 0, 0, 0, ()))) = true then (ds = [Dyn.mk Ty.bool false]) else ((InR .i64 (v5 + 1)) ∧ (R34_4 n (v5 + 1) (x0) (x1) ds))))) else (ds = [Dyn.mk Ty.bool true]))
end
theorem snd34 : ∀ n, (∀ (x0 : List TyB1) (x1 : List TyB1) ds, R34 n x0 x1 ds → ∀ K q, AtV Tryz.prog 34 (PostR kds34 oks34 ds [] [] q K) 27 K q [] [.code b34] (entE 0 0 sig34 (x0, x1, ())) (entL sig34 (x0, x1, ()))) ∧ (∀ (v5 : Int) (x0 : List TyB1) (x1 : List TyB1) ds, R34_4 n v5 x0 x1 ds → ∀ K q, AtV Tryz.prog 34 (PostR kds34 oks34 ds [] [] q K) 27 K q [] (cutAt b34 4) (E34_4 v5 x0 x1) (L34_4 v5 x0 x1)) := by
  intro n
  induction n with
  | zero => exact ⟨fun _ _ _ h => by simp only [R34] at h, fun _ _ _ _ h => by simp only [R34_4] at h⟩
  | succ n ih =>
  obtain ⟨ih, ih4⟩ := ih
  refine ⟨?_, ?_⟩
  · intro x0 x1 ds h K q
    rw [R34] at h
    by_cases b0 : ((↑(List.length x0) : Int) != (↑(List.length x1) : Int)) = true
    · rw [if_pos b0] at h
      subst h
      exact AtV.ret Tryz.func34 tabOk ext34Ok mixed false [] tys34 [true] (a1 b0 trivial) (by kernel_rfl)
    · rw [if_neg b0] at h
      replace b0 := Bool.eq_false_iff.2 b0
      exact AtV.go tabOk ext34Ok mixed false [] [] [0, 1, 5] [] [false] (a1 b0 trivial) (ih4 _ _ _ _ h K q) (by kernel_rfl)
  · intro v5 x0 x1 ds h K q
    rw [R34_4] at h
    by_cases b0 : (decide (v5 < (↑(List.length x0) : Int))) = true
    · rw [if_pos b0] at h
      obtain ⟨s0, s1, h⟩ := h
      obtain ⟨s2, s3, h⟩ := h
      by_cases b1 : (!g69_0 (List.getD x0 (Int.toNat v5) (ByteArray.empty, 0, 0, 0, ())) (List.getD x1 (Int.toNat v5) (ByteArray.empty, 0, 0, 0, ()))) = true
      · rw [if_pos b1] at h
        subst h
        exact AtV.ret Tryz.func34 tabOk ext34Ok mixed false [] tys34 [true, true] (a1 b0 (a1 s0 (a1 s1 (a1 s2 (a1 s3 (a1 trivial (a1 b1 trivial))))))) (by kernel_rfl)
      · rw [if_neg b1] at h
        replace b1 := Bool.eq_false_iff.2 b1
        obtain ⟨s4, h⟩ := h
        exact AtV.go tabOk ext34Ok mixed false [] [] [0, 1, 5] [] [true, false] (a1 b0 (a1 s0 (a1 s1 (a1 s2 (a1 s3 (a1 trivial (a1 b1 (a1 s4 trivial)))))))) (ih4 _ _ _ _ h K q) (by kernel_rfl)
    · rw [if_neg b0] at h
      replace b0 := Bool.eq_false_iff.2 b0
      subst h
      exact AtV.ret Tryz.func34 tabOk ext34Ok mixed false [] tys34 [false] (a1 b0 trivial) (by kernel_rfl)
theorem eq34 (x0 x1 : List TyB1) (hl : x0.length = x1.length) (hm : x0.length ≤ maxLen) : ∀ k i : Nat, i + k = x0.length → R34_4 (k + 1) (i : Int) x0 x1 [⟨.bool, decide (x0.drop i = x1.drop i)⟩] := by
  intro k
  induction k with
  | zero =>
    intro i hi
    have h1 : ¬ (i : Int) < (x0.length : Int) := by omega
    rw [R34_4, if_neg (by simpa using h1), drop_end x0 i (by omega), drop_end x1 i (by omega)]
    simp
  | succ k ih =>
    intro i hi
    have h1 : (i : Int) < (x0.length : Int) := by omega
    rw [R34_4, if_pos (by simpa using h1)]
    refine ⟨by omega, h1, by omega, by omega, ?_⟩
    simp only [Int.toNat_natCast]
    rw [drop_get x0 i (ByteArray.empty, (0 : Int), (0 : Int), (0 : Int), ()) (by omega), drop_get x1 i (ByteArray.empty, (0 : Int), (0 : Int), (0 : Int), ()) (by omega)]
    by_cases he : x0.getD i (ByteArray.empty, (0 : Int), (0 : Int), (0 : Int), ()) = x1.getD i (ByteArray.empty, (0 : Int), (0 : Int), (0 : Int), ())
    · have hd := (eqd69 _ _).2 he
      rw [if_neg (by rw [hd]; simp)]
      refine ⟨inR_up hm (by omega), ?_⟩
      have := ih (i + 1) (by omega)
      simp only [he, List.cons.injEq, true_and]
      exact this
    · have hd : g69_0 (x0.getD i (ByteArray.empty, (0 : Int), (0 : Int), (0 : Int), ())) (x1.getD i (ByteArray.empty, (0 : Int), (0 : Int), (0 : Int), ())) = false :=
        Bool.eq_false_iff.2 fun h => he ((eqd69 _ _).1 h)
      rw [if_pos (by rw [hd]; rfl)]
      simp only [he, List.cons.injEq, false_and, decide_false]
def g34_0 (x0 x1 : List TyB1) : Bool := decide (x0 = x1)
def P34 (x0 x1 : List TyB1) : Prop := True
def S34 : Am.Spec := { sig := sig34, pre := fun ⟨x0, x1, _⟩ => P34 x0 x1, res := fun ⟨x0, x1, _⟩ => [⟨Ty.bool, g34_0 x0 x1⟩] }
theorem con34 : Contract Tryz.prog 34 S34 := contract_of Tryz.func34 hb34 (Nat.le_of_ble_eq_true (by kernel_rfl)) (fun ⟨x0, x1, _⟩ h hwf K q => by
  refine (snd34 (x0.length + 2)).1 x0 x1 _ ?_ K q
  show R34 (x0.length + 1 + 1) x0 x1 [⟨Ty.bool, decide (x0 = x1)⟩]
  rw [R34]
  by_cases hl : x0.length = x1.length
  · rw [if_neg (by simp [hl])]
    have := eq34 x0 x1 hl hwf.1.1 x0.length 0 (by omega)
    simpa using this
  · rw [if_pos (by simp; omega)]
    have : x0 ≠ x1 := fun h => hl (by rw [h])
    simp [this])
end
noncomputable section
def ext35 : Ext := []
theorem ext35Ok : ExtOk Tryz.prog ext35 := trivial
noncomputable def b35 : Code := bodyOf Tryz.f35
theorem hb35 : Tryz.f35.body = some b35 := by kernel_rfl
def sig35 : List AT := [AT.v YA7, AT.v YA7]
def tys35 : List Ty := [Ty.bool]
def kds35 : List RK := []
def oks35 : List AT := owns sig35
def P35 (x0 : Int × Int × Int × Unit) (x1 : Int × Int × Int × Unit) : Prop := True
def g35_0 (x0 : Int × Int × Int × Unit) (x1 : Int × Int × Int × Unit) : Bool := (if (x0.1 != x1.1) = true then false else (if (x0.2.1 != x1.2.1) = true then false else (if (x0.2.2.1 != x1.2.2.1) = true then false else true)))
theorem at35 (x0 : Int × Int × Int × Unit) (x1 : Int × Int × Int × Unit) (h : P35 x0 x1) (K : Ctx) (q : Nat → Value) : AtV Tryz.prog 35 (PostR kds35 oks35 [⟨Ty.bool, g35_0 x0 x1⟩] [] [] q K) 20 K q [] [.code b35] (entE 0 0 sig35 (x0, x1, ())) (entL sig35 (x0, x1, ())) := by
  unfold P35 at h
  unfold g35_0
  by_cases b0 : (x0.1 != x1.1) = true
  · try simp only [if_pos b0] at h ⊢
    exact AtV.ret Tryz.func35 tabOk ext35Ok mixed false [] tys35 [true] (a1 b0 trivial) (by kernel_rfl)
  · try simp only [if_neg b0] at h ⊢
    replace b0 := Bool.eq_false_iff.2 b0
    by_cases b1 : (x0.2.1 != x1.2.1) = true
    · try simp only [if_pos b1] at h ⊢
      exact AtV.ret Tryz.func35 tabOk ext35Ok mixed false [] tys35 [false, true] (a1 b0 (a1 b1 trivial)) (by kernel_rfl)
    · try simp only [if_neg b1] at h ⊢
      replace b1 := Bool.eq_false_iff.2 b1
      by_cases b2 : (x0.2.2.1 != x1.2.2.1) = true
      · try simp only [if_pos b2] at h ⊢
        exact AtV.ret Tryz.func35 tabOk ext35Ok mixed false [] tys35 [false, false, true] (a1 b0 (a1 b1 (a1 b2 trivial))) (by kernel_rfl)
      · try simp only [if_neg b2] at h ⊢
        replace b2 := Bool.eq_false_iff.2 b2
        exact AtV.ret Tryz.func35 tabOk ext35Ok mixed false [] tys35 [false, false, false] (a1 b0 (a1 b1 (a1 b2 trivial))) (by kernel_rfl)
def S35 : Am.Spec := { sig := sig35, pre := fun ⟨x0, x1, _⟩ => P35 x0 x1, res := fun ⟨x0, x1, _⟩ => [⟨Ty.bool, g35_0 x0 x1⟩], kds := kds35 }
theorem con35 : Contract Tryz.prog 35 S35 := contract_of Tryz.func35 hb35 (Nat.le_of_ble_eq_true (by kernel_rfl)) (fun ⟨x0, x1, _⟩ h _ K q => at35 x0 x1 h K q)
end
noncomputable section
def ext70 : Ext := []
theorem ext70Ok : ExtOk Tryz.prog ext70 := trivial
noncomputable def b70 : Code := bodyOf Tryz.f70
theorem hb70 : Tryz.f70.body = some b70 := by kernel_rfl
def sig70 : List AT := [AT.v YA3, AT.v YA3]
def tys70 : List Ty := [Ty.bool]
def kds70 : List RK := []
def oks70 : List AT := owns sig70
def P70 (x0 : ByteArray × Int × Int × Int × Int × Unit) (x1 : ByteArray × Int × Int × Int × Int × Unit) : Prop := True
def g70_0 (x0 : ByteArray × Int × Int × Int × Int × Unit) (x1 : ByteArray × Int × Int × Int × Int × Unit) : Bool := (if (!ByteArray.toList x0.1 == ByteArray.toList x1.1) = true then false else (if (x0.2.1 != x1.2.1) = true then false else (if (x0.2.2.1 != x1.2.2.1) = true then false else (if (x0.2.2.2.1 != x1.2.2.2.1) = true then false else (if (x0.2.2.2.2.1 != x1.2.2.2.2.1) = true then false else true)))))
theorem at70 (x0 : ByteArray × Int × Int × Int × Int × Unit) (x1 : ByteArray × Int × Int × Int × Int × Unit) (h : P70 x0 x1) (K : Ctx) (q : Nat → Value) : AtV Tryz.prog 70 (PostR kds70 oks70 [⟨Ty.bool, g70_0 x0 x1⟩] [] [] q K) 30 K q [] [.code b70] (entE 0 0 sig70 (x0, x1, ())) (entL sig70 (x0, x1, ())) := by
  unfold P70 at h
  unfold g70_0
  by_cases b0 : (!ByteArray.toList x0.1 == ByteArray.toList x1.1) = true
  · try simp only [if_pos b0] at h ⊢
    exact AtV.ret Tryz.func70 tabOk ext70Ok mixed false [] tys70 [true] (a1 b0 trivial) (by kernel_rfl)
  · try simp only [if_neg b0] at h ⊢
    replace b0 := Bool.eq_false_iff.2 b0
    by_cases b1 : (x0.2.1 != x1.2.1) = true
    · try simp only [if_pos b1] at h ⊢
      exact AtV.ret Tryz.func70 tabOk ext70Ok mixed false [] tys70 [false, true] (a1 b0 (a1 b1 trivial)) (by kernel_rfl)
    · try simp only [if_neg b1] at h ⊢
      replace b1 := Bool.eq_false_iff.2 b1
      by_cases b2 : (x0.2.2.1 != x1.2.2.1) = true
      · try simp only [if_pos b2] at h ⊢
        exact AtV.ret Tryz.func70 tabOk ext70Ok mixed false [] tys70 [false, false, true] (a1 b0 (a1 b1 (a1 b2 trivial))) (by kernel_rfl)
      · try simp only [if_neg b2] at h ⊢
        replace b2 := Bool.eq_false_iff.2 b2
        by_cases b3 : (x0.2.2.2.1 != x1.2.2.2.1) = true
        · try simp only [if_pos b3] at h ⊢
          exact AtV.ret Tryz.func70 tabOk ext70Ok mixed false [] tys70 [false, false, false, true] (a1 b0 (a1 b1 (a1 b2 (a1 b3 trivial)))) (by kernel_rfl)
        · try simp only [if_neg b3] at h ⊢
          replace b3 := Bool.eq_false_iff.2 b3
          by_cases b4 : (x0.2.2.2.2.1 != x1.2.2.2.2.1) = true
          · try simp only [if_pos b4] at h ⊢
            exact AtV.ret Tryz.func70 tabOk ext70Ok mixed false [] tys70 [false, false, false, false, true] (a1 b0 (a1 b1 (a1 b2 (a1 b3 (a1 b4 trivial))))) (by kernel_rfl)
          · try simp only [if_neg b4] at h ⊢
            replace b4 := Bool.eq_false_iff.2 b4
            exact AtV.ret Tryz.func70 tabOk ext70Ok mixed false [] tys70 [false, false, false, false, false] (a1 b0 (a1 b1 (a1 b2 (a1 b3 (a1 b4 trivial))))) (by kernel_rfl)
def S70 : Am.Spec := { sig := sig70, pre := fun ⟨x0, x1, _⟩ => P70 x0 x1, res := fun ⟨x0, x1, _⟩ => [⟨Ty.bool, g70_0 x0 x1⟩], kds := kds70 }
theorem con70 : Contract Tryz.prog 70 S70 := contract_of Tryz.func70 hb70 (Nat.le_of_ble_eq_true (by kernel_rfl)) (fun ⟨x0, x1, _⟩ h _ K q => at70 x0 x1 h K q)
theorem eqd70 (x y : TyB0) : g70_0 x y = true ↔ x = y := by
  obtain ⟨a, b, c, d, e, u⟩ := x
  obtain ⟨a', b', c', d', e', u'⟩ := y
  unfold g70_0
  simp only [Bool.not_eq_true', bytes_ne, bne_iff_ne, ne_eq, ite_not]
  by_cases h0 : a = a'
  · by_cases h1 : b = b'
    · by_cases h2 : c = c'
      · by_cases h3 : d = d'
        · by_cases h4 : e = e'
          · simp [h0, h1, h2, h3, h4]
          · simp [h0, h1, h2, h3, h4]
        · simp [h0, h1, h2, h3]
      · simp [h0, h1, h2]
    · simp [h0, h1]
  · simp [h0]
end
noncomputable section
def ext36 : Ext := [(70, S70)]
theorem ext36Ok : ExtOk Tryz.prog ext36 := ⟨⟨ca70, con70⟩, trivial⟩
noncomputable def b36 : Code := bodyOf Tryz.f36
theorem hb36 : Tryz.f36.body = some b36 := by kernel_rfl
def sig36 : List AT := [AT.v (Ty.sl YA3), AT.v (Ty.sl YA3)]
def tys36 : List Ty := [Ty.bool]
def kds36 : List RK := []
def oks36 : List AT := owns sig36
def E36_4 (v5 : Int) (x0 : List TyB0) (x1 : List TyB0) : Env := [(0, PV.a (Atom.sl YA3 x0)), (1, PV.a (Atom.sl YA3 x1)), (5, PV.a (Atom.val (Value.int .i64 v5)))]
def L36_4 (v5 : Int) (x0 : List TyB0) (x1 : List TyB0) : Heap := []
mutual
def R36 : Nat → List TyB0 → List TyB0 → List Dyn → Prop
  | 0, _, _, _ => False
  | n + 1, x0, x1, ds => (if ((↑(List.length x0) : Int) != (↑(List.length x1) : Int)) = true then (ds = [Dyn.mk Ty.bool false]) else (R36_4 n (0) (x0) (x1) ds))
def R36_4 : Nat → Int → List TyB0 → List TyB0 → List Dyn → Prop
  | 0, _, _, _, _ => False
  | n + 1, v5, x0, x1, ds => (if (decide (v5 < (↑(List.length x0) : Int))) = true then ((0 ≤ v5) ∧ (v5 < (↑(List.length x0) : Int)) ∧ ((0 ≤ v5) ∧ (v5 < (↑(List.length x1) : Int)) ∧ (if (!g70_0 (List.getD x0 (Int.toNat v5) (ByteArray.empty, 0, 0, 0, 0, ())) (List.getD x1 (Int.toNat v5) (ByteArray.empty, 0, 0, 0, 0, ()))) = true then (ds = [Dyn.mk Ty.bool false]) else ((InR .i64 (v5 + 1)) ∧ (R36_4 n (v5 + 1) (x0) (x1) ds))))) else (ds = [Dyn.mk Ty.bool true]))
end
theorem snd36 : ∀ n, (∀ (x0 : List TyB0) (x1 : List TyB0) ds, R36 n x0 x1 ds → ∀ K q, AtV Tryz.prog 36 (PostR kds36 oks36 ds [] [] q K) 27 K q [] [.code b36] (entE 0 0 sig36 (x0, x1, ())) (entL sig36 (x0, x1, ()))) ∧ (∀ (v5 : Int) (x0 : List TyB0) (x1 : List TyB0) ds, R36_4 n v5 x0 x1 ds → ∀ K q, AtV Tryz.prog 36 (PostR kds36 oks36 ds [] [] q K) 27 K q [] (cutAt b36 4) (E36_4 v5 x0 x1) (L36_4 v5 x0 x1)) := by
  intro n
  induction n with
  | zero => exact ⟨fun _ _ _ h => by simp only [R36] at h, fun _ _ _ _ h => by simp only [R36_4] at h⟩
  | succ n ih =>
  obtain ⟨ih, ih4⟩ := ih
  refine ⟨?_, ?_⟩
  · intro x0 x1 ds h K q
    rw [R36] at h
    by_cases b0 : ((↑(List.length x0) : Int) != (↑(List.length x1) : Int)) = true
    · rw [if_pos b0] at h
      subst h
      exact AtV.ret Tryz.func36 tabOk ext36Ok mixed false [] tys36 [true] (a1 b0 trivial) (by kernel_rfl)
    · rw [if_neg b0] at h
      replace b0 := Bool.eq_false_iff.2 b0
      exact AtV.go tabOk ext36Ok mixed false [] [] [0, 1, 5] [] [false] (a1 b0 trivial) (ih4 _ _ _ _ h K q) (by kernel_rfl)
  · intro v5 x0 x1 ds h K q
    rw [R36_4] at h
    by_cases b0 : (decide (v5 < (↑(List.length x0) : Int))) = true
    · rw [if_pos b0] at h
      obtain ⟨s0, s1, h⟩ := h
      obtain ⟨s2, s3, h⟩ := h
      by_cases b1 : (!g70_0 (List.getD x0 (Int.toNat v5) (ByteArray.empty, 0, 0, 0, 0, ())) (List.getD x1 (Int.toNat v5) (ByteArray.empty, 0, 0, 0, 0, ()))) = true
      · rw [if_pos b1] at h
        subst h
        exact AtV.ret Tryz.func36 tabOk ext36Ok mixed false [] tys36 [true, true] (a1 b0 (a1 s0 (a1 s1 (a1 s2 (a1 s3 (a1 trivial (a1 b1 trivial))))))) (by kernel_rfl)
      · rw [if_neg b1] at h
        replace b1 := Bool.eq_false_iff.2 b1
        obtain ⟨s4, h⟩ := h
        exact AtV.go tabOk ext36Ok mixed false [] [] [0, 1, 5] [] [true, false] (a1 b0 (a1 s0 (a1 s1 (a1 s2 (a1 s3 (a1 trivial (a1 b1 (a1 s4 trivial)))))))) (ih4 _ _ _ _ h K q) (by kernel_rfl)
    · rw [if_neg b0] at h
      replace b0 := Bool.eq_false_iff.2 b0
      subst h
      exact AtV.ret Tryz.func36 tabOk ext36Ok mixed false [] tys36 [false] (a1 b0 trivial) (by kernel_rfl)
theorem eq36 (x0 x1 : List TyB0) (hl : x0.length = x1.length) (hm : x0.length ≤ maxLen) : ∀ k i : Nat, i + k = x0.length → R36_4 (k + 1) (i : Int) x0 x1 [⟨.bool, decide (x0.drop i = x1.drop i)⟩] := by
  intro k
  induction k with
  | zero =>
    intro i hi
    have h1 : ¬ (i : Int) < (x0.length : Int) := by omega
    rw [R36_4, if_neg (by simpa using h1), drop_end x0 i (by omega), drop_end x1 i (by omega)]
    simp
  | succ k ih =>
    intro i hi
    have h1 : (i : Int) < (x0.length : Int) := by omega
    rw [R36_4, if_pos (by simpa using h1)]
    refine ⟨by omega, h1, by omega, by omega, ?_⟩
    simp only [Int.toNat_natCast]
    rw [drop_get x0 i (ByteArray.empty, (0 : Int), (0 : Int), (0 : Int), (0 : Int), ()) (by omega), drop_get x1 i (ByteArray.empty, (0 : Int), (0 : Int), (0 : Int), (0 : Int), ()) (by omega)]
    by_cases he : x0.getD i (ByteArray.empty, (0 : Int), (0 : Int), (0 : Int), (0 : Int), ()) = x1.getD i (ByteArray.empty, (0 : Int), (0 : Int), (0 : Int), (0 : Int), ())
    · have hd := (eqd70 _ _).2 he
      rw [if_neg (by rw [hd]; simp)]
      refine ⟨inR_up hm (by omega), ?_⟩
      have := ih (i + 1) (by omega)
      simp only [he, List.cons.injEq, true_and]
      exact this
    · have hd : g70_0 (x0.getD i (ByteArray.empty, (0 : Int), (0 : Int), (0 : Int), (0 : Int), ())) (x1.getD i (ByteArray.empty, (0 : Int), (0 : Int), (0 : Int), (0 : Int), ())) = false :=
        Bool.eq_false_iff.2 fun h => he ((eqd70 _ _).1 h)
      rw [if_pos (by rw [hd]; rfl)]
      simp only [he, List.cons.injEq, false_and, decide_false]
def g36_0 (x0 x1 : List TyB0) : Bool := decide (x0 = x1)
def P36 (x0 x1 : List TyB0) : Prop := True
def S36 : Am.Spec := { sig := sig36, pre := fun ⟨x0, x1, _⟩ => P36 x0 x1, res := fun ⟨x0, x1, _⟩ => [⟨Ty.bool, g36_0 x0 x1⟩] }
theorem con36 : Contract Tryz.prog 36 S36 := contract_of Tryz.func36 hb36 (Nat.le_of_ble_eq_true (by kernel_rfl)) (fun ⟨x0, x1, _⟩ h hwf K q => by
  refine (snd36 (x0.length + 2)).1 x0 x1 _ ?_ K q
  show R36 (x0.length + 1 + 1) x0 x1 [⟨Ty.bool, decide (x0 = x1)⟩]
  rw [R36]
  by_cases hl : x0.length = x1.length
  · rw [if_neg (by simp [hl])]
    have := eq36 x0 x1 hl hwf.1.1 x0.length 0 (by omega)
    simpa using this
  · rw [if_pos (by simp; omega)]
    have : x0 ≠ x1 := fun h => hl (by rw [h])
    simp [this])
end
noncomputable section
def ext71 : Ext := []
theorem ext71Ok : ExtOk Tryz.prog ext71 := trivial
noncomputable def b71 : Code := bodyOf Tryz.f71
theorem hb71 : Tryz.f71.body = some b71 := by kernel_rfl
def sig71 : List AT := [AT.v YA9, AT.v YA9]
def tys71 : List Ty := [Ty.bool]
def kds71 : List RK := []
def oks71 : List AT := owns sig71
def P71 (x0 : Int × Int × Unit) (x1 : Int × Int × Unit) : Prop := True
def g71_0 (x0 : Int × Int × Unit) (x1 : Int × Int × Unit) : Bool := (if (x0.1 != x1.1) = true then false else (if (x0.2.1 != x1.2.1) = true then false else true))
theorem at71 (x0 : Int × Int × Unit) (x1 : Int × Int × Unit) (h : P71 x0 x1) (K : Ctx) (q : Nat → Value) : AtV Tryz.prog 71 (PostR kds71 oks71 [⟨Ty.bool, g71_0 x0 x1⟩] [] [] q K) 15 K q [] [.code b71] (entE 0 0 sig71 (x0, x1, ())) (entL sig71 (x0, x1, ())) := by
  unfold P71 at h
  unfold g71_0
  by_cases b0 : (x0.1 != x1.1) = true
  · try simp only [if_pos b0] at h ⊢
    exact AtV.ret Tryz.func71 tabOk ext71Ok mixed false [] tys71 [true] (a1 b0 trivial) (by kernel_rfl)
  · try simp only [if_neg b0] at h ⊢
    replace b0 := Bool.eq_false_iff.2 b0
    by_cases b1 : (x0.2.1 != x1.2.1) = true
    · try simp only [if_pos b1] at h ⊢
      exact AtV.ret Tryz.func71 tabOk ext71Ok mixed false [] tys71 [false, true] (a1 b0 (a1 b1 trivial)) (by kernel_rfl)
    · try simp only [if_neg b1] at h ⊢
      replace b1 := Bool.eq_false_iff.2 b1
      exact AtV.ret Tryz.func71 tabOk ext71Ok mixed false [] tys71 [false, false] (a1 b0 (a1 b1 trivial)) (by kernel_rfl)
def S71 : Am.Spec := { sig := sig71, pre := fun ⟨x0, x1, _⟩ => P71 x0 x1, res := fun ⟨x0, x1, _⟩ => [⟨Ty.bool, g71_0 x0 x1⟩], kds := kds71 }
theorem con71 : Contract Tryz.prog 71 S71 := contract_of Tryz.func71 hb71 (Nat.le_of_ble_eq_true (by kernel_rfl)) (fun ⟨x0, x1, _⟩ h _ K q => at71 x0 x1 h K q)
theorem eqd71 (x y : TyB4) : g71_0 x y = true ↔ x = y := by
  obtain ⟨a, b, u⟩ := x
  obtain ⟨a', b', u'⟩ := y
  unfold g71_0
  simp only [Bool.not_eq_true', bytes_ne, bne_iff_ne, ne_eq, ite_not]
  by_cases h0 : a = a'
  · by_cases h1 : b = b'
    · simp [h0, h1]
    · simp [h0, h1]
  · simp [h0]
end
noncomputable section
def ext37 : Ext := [(71, S71)]
theorem ext37Ok : ExtOk Tryz.prog ext37 := ⟨⟨ca71, con71⟩, trivial⟩
noncomputable def b37 : Code := bodyOf Tryz.f37
theorem hb37 : Tryz.f37.body = some b37 := by kernel_rfl
def sig37 : List AT := [AT.v (Ty.sl YA9), AT.v (Ty.sl YA9)]
def tys37 : List Ty := [Ty.bool]
def kds37 : List RK := []
def oks37 : List AT := owns sig37
def E37_4 (v5 : Int) (x0 : List TyB4) (x1 : List TyB4) : Env := [(0, PV.a (Atom.sl YA9 x0)), (1, PV.a (Atom.sl YA9 x1)), (5, PV.a (Atom.val (Value.int .i64 v5)))]
def L37_4 (v5 : Int) (x0 : List TyB4) (x1 : List TyB4) : Heap := []
mutual
def R37 : Nat → List TyB4 → List TyB4 → List Dyn → Prop
  | 0, _, _, _ => False
  | n + 1, x0, x1, ds => (if ((↑(List.length x0) : Int) != (↑(List.length x1) : Int)) = true then (ds = [Dyn.mk Ty.bool false]) else (R37_4 n (0) (x0) (x1) ds))
def R37_4 : Nat → Int → List TyB4 → List TyB4 → List Dyn → Prop
  | 0, _, _, _, _ => False
  | n + 1, v5, x0, x1, ds => (if (decide (v5 < (↑(List.length x0) : Int))) = true then ((0 ≤ v5) ∧ (v5 < (↑(List.length x0) : Int)) ∧ ((0 ≤ v5) ∧ (v5 < (↑(List.length x1) : Int)) ∧ (if (!g71_0 (List.getD x0 (Int.toNat v5) (0, 0, ())) (List.getD x1 (Int.toNat v5) (0, 0, ()))) = true then (ds = [Dyn.mk Ty.bool false]) else ((InR .i64 (v5 + 1)) ∧ (R37_4 n (v5 + 1) (x0) (x1) ds))))) else (ds = [Dyn.mk Ty.bool true]))
end
theorem snd37 : ∀ n, (∀ (x0 : List TyB4) (x1 : List TyB4) ds, R37 n x0 x1 ds → ∀ K q, AtV Tryz.prog 37 (PostR kds37 oks37 ds [] [] q K) 27 K q [] [.code b37] (entE 0 0 sig37 (x0, x1, ())) (entL sig37 (x0, x1, ()))) ∧ (∀ (v5 : Int) (x0 : List TyB4) (x1 : List TyB4) ds, R37_4 n v5 x0 x1 ds → ∀ K q, AtV Tryz.prog 37 (PostR kds37 oks37 ds [] [] q K) 27 K q [] (cutAt b37 4) (E37_4 v5 x0 x1) (L37_4 v5 x0 x1)) := by
  intro n
  induction n with
  | zero => exact ⟨fun _ _ _ h => by simp only [R37] at h, fun _ _ _ _ h => by simp only [R37_4] at h⟩
  | succ n ih =>
  obtain ⟨ih, ih4⟩ := ih
  refine ⟨?_, ?_⟩
  · intro x0 x1 ds h K q
    rw [R37] at h
    by_cases b0 : ((↑(List.length x0) : Int) != (↑(List.length x1) : Int)) = true
    · rw [if_pos b0] at h
      subst h
      exact AtV.ret Tryz.func37 tabOk ext37Ok mixed false [] tys37 [true] (a1 b0 trivial) (by kernel_rfl)
    · rw [if_neg b0] at h
      replace b0 := Bool.eq_false_iff.2 b0
      exact AtV.go tabOk ext37Ok mixed false [] [] [0, 1, 5] [] [false] (a1 b0 trivial) (ih4 _ _ _ _ h K q) (by kernel_rfl)
  · intro v5 x0 x1 ds h K q
    rw [R37_4] at h
    by_cases b0 : (decide (v5 < (↑(List.length x0) : Int))) = true
    · rw [if_pos b0] at h
      obtain ⟨s0, s1, h⟩ := h
      obtain ⟨s2, s3, h⟩ := h
      by_cases b1 : (!g71_0 (List.getD x0 (Int.toNat v5) (0, 0, ())) (List.getD x1 (Int.toNat v5) (0, 0, ()))) = true
      · rw [if_pos b1] at h
        subst h
        exact AtV.ret Tryz.func37 tabOk ext37Ok mixed false [] tys37 [true, true] (a1 b0 (a1 s0 (a1 s1 (a1 s2 (a1 s3 (a1 trivial (a1 b1 trivial))))))) (by kernel_rfl)
      · rw [if_neg b1] at h
        replace b1 := Bool.eq_false_iff.2 b1
        obtain ⟨s4, h⟩ := h
        exact AtV.go tabOk ext37Ok mixed false [] [] [0, 1, 5] [] [true, false] (a1 b0 (a1 s0 (a1 s1 (a1 s2 (a1 s3 (a1 trivial (a1 b1 (a1 s4 trivial)))))))) (ih4 _ _ _ _ h K q) (by kernel_rfl)
    · rw [if_neg b0] at h
      replace b0 := Bool.eq_false_iff.2 b0
      subst h
      exact AtV.ret Tryz.func37 tabOk ext37Ok mixed false [] tys37 [false] (a1 b0 trivial) (by kernel_rfl)
theorem eq37 (x0 x1 : List TyB4) (hl : x0.length = x1.length) (hm : x0.length ≤ maxLen) : ∀ k i : Nat, i + k = x0.length → R37_4 (k + 1) (i : Int) x0 x1 [⟨.bool, decide (x0.drop i = x1.drop i)⟩] := by
  intro k
  induction k with
  | zero =>
    intro i hi
    have h1 : ¬ (i : Int) < (x0.length : Int) := by omega
    rw [R37_4, if_neg (by simpa using h1), drop_end x0 i (by omega), drop_end x1 i (by omega)]
    simp
  | succ k ih =>
    intro i hi
    have h1 : (i : Int) < (x0.length : Int) := by omega
    rw [R37_4, if_pos (by simpa using h1)]
    refine ⟨by omega, h1, by omega, by omega, ?_⟩
    simp only [Int.toNat_natCast]
    rw [drop_get x0 i ((0 : Int), (0 : Int), ()) (by omega), drop_get x1 i ((0 : Int), (0 : Int), ()) (by omega)]
    by_cases he : x0.getD i ((0 : Int), (0 : Int), ()) = x1.getD i ((0 : Int), (0 : Int), ())
    · have hd := (eqd71 _ _).2 he
      rw [if_neg (by rw [hd]; simp)]
      refine ⟨inR_up hm (by omega), ?_⟩
      have := ih (i + 1) (by omega)
      simp only [he, List.cons.injEq, true_and]
      exact this
    · have hd : g71_0 (x0.getD i ((0 : Int), (0 : Int), ())) (x1.getD i ((0 : Int), (0 : Int), ())) = false :=
        Bool.eq_false_iff.2 fun h => he ((eqd71 _ _).1 h)
      rw [if_pos (by rw [hd]; rfl)]
      simp only [he, List.cons.injEq, false_and, decide_false]
def g37_0 (x0 x1 : List TyB4) : Bool := decide (x0 = x1)
def P37 (x0 x1 : List TyB4) : Prop := True
def S37 : Am.Spec := { sig := sig37, pre := fun ⟨x0, x1, _⟩ => P37 x0 x1, res := fun ⟨x0, x1, _⟩ => [⟨Ty.bool, g37_0 x0 x1⟩] }
theorem con37 : Contract Tryz.prog 37 S37 := contract_of Tryz.func37 hb37 (Nat.le_of_ble_eq_true (by kernel_rfl)) (fun ⟨x0, x1, _⟩ h hwf K q => by
  refine (snd37 (x0.length + 2)).1 x0 x1 _ ?_ K q
  show R37 (x0.length + 1 + 1) x0 x1 [⟨Ty.bool, decide (x0 = x1)⟩]
  rw [R37]
  by_cases hl : x0.length = x1.length
  · rw [if_neg (by simp [hl])]
    have := eq37 x0 x1 hl hwf.1.1 x0.length 0 (by omega)
    simpa using this
  · rw [if_pos (by simp; omega)]
    have : x0 ≠ x1 := fun h => hl (by rw [h])
    simp [this])
end
noncomputable section
def ext72 : Ext := []
theorem ext72Ok : ExtOk Tryz.prog ext72 := trivial
noncomputable def b72 : Code := bodyOf Tryz.f72
theorem hb72 : Tryz.f72.body = some b72 := by kernel_rfl
def sig72 : List AT := [AT.v YA6, AT.v YA6]
def tys72 : List Ty := [Ty.bool]
def kds72 : List RK := []
def oks72 : List AT := owns sig72
def P72 (x0 : Int × Int × ByteArray × Int × Unit) (x1 : Int × Int × ByteArray × Int × Unit) : Prop := True
def g72_0 (x0 : Int × Int × ByteArray × Int × Unit) (x1 : Int × Int × ByteArray × Int × Unit) : Bool := (if (x0.1 != x1.1) = true then false else (if (x0.2.1 != x1.2.1) = true then false else (if (!ByteArray.toList x0.2.2.1 == ByteArray.toList x1.2.2.1) = true then false else (if (x0.2.2.2.1 != x1.2.2.2.1) = true then false else true))))
theorem at72 (x0 : Int × Int × ByteArray × Int × Unit) (x1 : Int × Int × ByteArray × Int × Unit) (h : P72 x0 x1) (K : Ctx) (q : Nat → Value) : AtV Tryz.prog 72 (PostR kds72 oks72 [⟨Ty.bool, g72_0 x0 x1⟩] [] [] q K) 25 K q [] [.code b72] (entE 0 0 sig72 (x0, x1, ())) (entL sig72 (x0, x1, ())) := by
  unfold P72 at h
  unfold g72_0
  by_cases b0 : (x0.1 != x1.1) = true
  · try simp only [if_pos b0] at h ⊢
    exact AtV.ret Tryz.func72 tabOk ext72Ok mixed false [] tys72 [true] (a1 b0 trivial) (by kernel_rfl)
  · try simp only [if_neg b0] at h ⊢
    replace b0 := Bool.eq_false_iff.2 b0
    by_cases b1 : (x0.2.1 != x1.2.1) = true
    · try simp only [if_pos b1] at h ⊢
      exact AtV.ret Tryz.func72 tabOk ext72Ok mixed false [] tys72 [false, true] (a1 b0 (a1 b1 trivial)) (by kernel_rfl)
    · try simp only [if_neg b1] at h ⊢
      replace b1 := Bool.eq_false_iff.2 b1
      by_cases b2 : (!ByteArray.toList x0.2.2.1 == ByteArray.toList x1.2.2.1) = true
      · try simp only [if_pos b2] at h ⊢
        exact AtV.ret Tryz.func72 tabOk ext72Ok mixed false [] tys72 [false, false, true] (a1 b0 (a1 b1 (a1 b2 trivial))) (by kernel_rfl)
      · try simp only [if_neg b2] at h ⊢
        replace b2 := Bool.eq_false_iff.2 b2
        by_cases b3 : (x0.2.2.2.1 != x1.2.2.2.1) = true
        · try simp only [if_pos b3] at h ⊢
          exact AtV.ret Tryz.func72 tabOk ext72Ok mixed false [] tys72 [false, false, false, true] (a1 b0 (a1 b1 (a1 b2 (a1 b3 trivial)))) (by kernel_rfl)
        · try simp only [if_neg b3] at h ⊢
          replace b3 := Bool.eq_false_iff.2 b3
          exact AtV.ret Tryz.func72 tabOk ext72Ok mixed false [] tys72 [false, false, false, false] (a1 b0 (a1 b1 (a1 b2 (a1 b3 trivial)))) (by kernel_rfl)
def S72 : Am.Spec := { sig := sig72, pre := fun ⟨x0, x1, _⟩ => P72 x0 x1, res := fun ⟨x0, x1, _⟩ => [⟨Ty.bool, g72_0 x0 x1⟩], kds := kds72 }
theorem con72 : Contract Tryz.prog 72 S72 := contract_of Tryz.func72 hb72 (Nat.le_of_ble_eq_true (by kernel_rfl)) (fun ⟨x0, x1, _⟩ h _ K q => at72 x0 x1 h K q)
theorem eqd72 (x y : TyB2) : g72_0 x y = true ↔ x = y := by
  obtain ⟨a, b, c, d, u⟩ := x
  obtain ⟨a', b', c', d', u'⟩ := y
  unfold g72_0
  simp only [Bool.not_eq_true', bytes_ne, bne_iff_ne, ne_eq, ite_not]
  by_cases h0 : a = a'
  · by_cases h1 : b = b'
    · by_cases h2 : c = c'
      · by_cases h3 : d = d'
        · simp [h0, h1, h2, h3]
        · simp [h0, h1, h2, h3]
      · simp [h0, h1, h2]
    · simp [h0, h1]
  · simp [h0]
end
noncomputable section
def ext38 : Ext := [(72, S72)]
theorem ext38Ok : ExtOk Tryz.prog ext38 := ⟨⟨ca72, con72⟩, trivial⟩
noncomputable def b38 : Code := bodyOf Tryz.f38
theorem hb38 : Tryz.f38.body = some b38 := by kernel_rfl
def sig38 : List AT := [AT.v (Ty.sl YA6), AT.v (Ty.sl YA6)]
def tys38 : List Ty := [Ty.bool]
def kds38 : List RK := []
def oks38 : List AT := owns sig38
def E38_4 (v5 : Int) (x0 : List TyB2) (x1 : List TyB2) : Env := [(0, PV.a (Atom.sl YA6 x0)), (1, PV.a (Atom.sl YA6 x1)), (5, PV.a (Atom.val (Value.int .i64 v5)))]
def L38_4 (v5 : Int) (x0 : List TyB2) (x1 : List TyB2) : Heap := []
mutual
def R38 : Nat → List TyB2 → List TyB2 → List Dyn → Prop
  | 0, _, _, _ => False
  | n + 1, x0, x1, ds => (if ((↑(List.length x0) : Int) != (↑(List.length x1) : Int)) = true then (ds = [Dyn.mk Ty.bool false]) else (R38_4 n (0) (x0) (x1) ds))
def R38_4 : Nat → Int → List TyB2 → List TyB2 → List Dyn → Prop
  | 0, _, _, _, _ => False
  | n + 1, v5, x0, x1, ds => (if (decide (v5 < (↑(List.length x0) : Int))) = true then ((0 ≤ v5) ∧ (v5 < (↑(List.length x0) : Int)) ∧ ((0 ≤ v5) ∧ (v5 < (↑(List.length x1) : Int)) ∧ (if (!g72_0 (List.getD x0 (Int.toNat v5) (0, 0, ByteArray.empty, 0, ())) (List.getD x1 (Int.toNat v5) (0, 0, ByteArray.empty, 0, ()))) = true then (ds = [Dyn.mk Ty.bool false]) else ((InR .i64 (v5 + 1)) ∧ (R38_4 n (v5 + 1) (x0) (x1) ds))))) else (ds = [Dyn.mk Ty.bool true]))
end
theorem snd38 : ∀ n, (∀ (x0 : List TyB2) (x1 : List TyB2) ds, R38 n x0 x1 ds → ∀ K q, AtV Tryz.prog 38 (PostR kds38 oks38 ds [] [] q K) 27 K q [] [.code b38] (entE 0 0 sig38 (x0, x1, ())) (entL sig38 (x0, x1, ()))) ∧ (∀ (v5 : Int) (x0 : List TyB2) (x1 : List TyB2) ds, R38_4 n v5 x0 x1 ds → ∀ K q, AtV Tryz.prog 38 (PostR kds38 oks38 ds [] [] q K) 27 K q [] (cutAt b38 4) (E38_4 v5 x0 x1) (L38_4 v5 x0 x1)) := by
  intro n
  induction n with
  | zero => exact ⟨fun _ _ _ h => by simp only [R38] at h, fun _ _ _ _ h => by simp only [R38_4] at h⟩
  | succ n ih =>
  obtain ⟨ih, ih4⟩ := ih
  refine ⟨?_, ?_⟩
  · intro x0 x1 ds h K q
    rw [R38] at h
    by_cases b0 : ((↑(List.length x0) : Int) != (↑(List.length x1) : Int)) = true
    · rw [if_pos b0] at h
      subst h
      exact AtV.ret Tryz.func38 tabOk ext38Ok mixed false [] tys38 [true] (a1 b0 trivial) (by kernel_rfl)
    · rw [if_neg b0] at h
      replace b0 := Bool.eq_false_iff.2 b0
      exact AtV.go tabOk ext38Ok mixed false [] [] [0, 1, 5] [] [false] (a1 b0 trivial) (ih4 _ _ _ _ h K q) (by kernel_rfl)
  · intro v5 x0 x1 ds h K q
    rw [R38_4] at h
    by_cases b0 : (decide (v5 < (↑(List.length x0) : Int))) = true
    · rw [if_pos b0] at h
      obtain ⟨s0, s1, h⟩ := h
      obtain ⟨s2, s3, h⟩ := h
      by_cases b1 : (!g72_0 (List.getD x0 (Int.toNat v5) (0, 0, ByteArray.empty, 0, ())) (List.getD x1 (Int.toNat v5) (0, 0, ByteArray.empty, 0, ()))) = true
      · rw [if_pos b1] at h
        subst h
        exact AtV.ret Tryz.func38 tabOk ext38Ok mixed false [] tys38 [true, true] (a1 b0 (a1 s0 (a1 s1 (a1 s2 (a1 s3 (a1 trivial (a1 b1 trivial))))))) (by kernel_rfl)
      · rw [if_neg b1] at h
        replace b1 := Bool.eq_false_iff.2 b1
        obtain ⟨s4, h⟩ := h
        exact AtV.go tabOk ext38Ok mixed false [] [] [0, 1, 5] [] [true, false] (a1 b0 (a1 s0 (a1 s1 (a1 s2 (a1 s3 (a1 trivial (a1 b1 (a1 s4 trivial)))))))) (ih4 _ _ _ _ h K q) (by kernel_rfl)
    · rw [if_neg b0] at h
      replace b0 := Bool.eq_false_iff.2 b0
      subst h
      exact AtV.ret Tryz.func38 tabOk ext38Ok mixed false [] tys38 [false] (a1 b0 trivial) (by kernel_rfl)
theorem eq38 (x0 x1 : List TyB2) (hl : x0.length = x1.length) (hm : x0.length ≤ maxLen) : ∀ k i : Nat, i + k = x0.length → R38_4 (k + 1) (i : Int) x0 x1 [⟨.bool, decide (x0.drop i = x1.drop i)⟩] := by
  intro k
  induction k with
  | zero =>
    intro i hi
    have h1 : ¬ (i : Int) < (x0.length : Int) := by omega
    rw [R38_4, if_neg (by simpa using h1), drop_end x0 i (by omega), drop_end x1 i (by omega)]
    simp
  | succ k ih =>
    intro i hi
    have h1 : (i : Int) < (x0.length : Int) := by omega
    rw [R38_4, if_pos (by simpa using h1)]
    refine ⟨by omega, h1, by omega, by omega, ?_⟩
    simp only [Int.toNat_natCast]
    rw [drop_get x0 i ((0 : Int), (0 : Int), ByteArray.empty, (0 : Int), ()) (by omega), drop_get x1 i ((0 : Int), (0 : Int), ByteArray.empty, (0 : Int), ()) (by omega)]
    by_cases he : x0.getD i ((0 : Int), (0 : Int), ByteArray.empty, (0 : Int), ()) = x1.getD i ((0 : Int), (0 : Int), ByteArray.empty, (0 : Int), ())
    · have hd := (eqd72 _ _).2 he
      rw [if_neg (by rw [hd]; simp)]
      refine ⟨inR_up hm (by omega), ?_⟩
      have := ih (i + 1) (by omega)
      simp only [he, List.cons.injEq, true_and]
      exact this
    · have hd : g72_0 (x0.getD i ((0 : Int), (0 : Int), ByteArray.empty, (0 : Int), ())) (x1.getD i ((0 : Int), (0 : Int), ByteArray.empty, (0 : Int), ())) = false :=
        Bool.eq_false_iff.2 fun h => he ((eqd72 _ _).1 h)
      rw [if_pos (by rw [hd]; rfl)]
      simp only [he, List.cons.injEq, false_and, decide_false]
def g38_0 (x0 x1 : List TyB2) : Bool := decide (x0 = x1)
def P38 (x0 x1 : List TyB2) : Prop := True
def S38 : Am.Spec := { sig := sig38, pre := fun ⟨x0, x1, _⟩ => P38 x0 x1, res := fun ⟨x0, x1, _⟩ => [⟨Ty.bool, g38_0 x0 x1⟩] }
theorem con38 : Contract Tryz.prog 38 S38 := contract_of Tryz.func38 hb38 (Nat.le_of_ble_eq_true (by kernel_rfl)) (fun ⟨x0, x1, _⟩ h hwf K q => by
  refine (snd38 (x0.length + 2)).1 x0 x1 _ ?_ K q
  show R38 (x0.length + 1 + 1) x0 x1 [⟨Ty.bool, decide (x0 = x1)⟩]
  rw [R38]
  by_cases hl : x0.length = x1.length
  · rw [if_neg (by simp [hl])]
    have := eq38 x0 x1 hl hwf.1.1 x0.length 0 (by omega)
    simpa using this
  · rw [if_pos (by simp; omega)]
    have : x0 ≠ x1 := fun h => hl (by rw [h])
    simp [this])
end
noncomputable section
def ext9 : Ext := [(31, S31), (32, S32), (33, S33), (34, S34), (35, S35), (36, S36), (37, S37), (38, S38)]
theorem ext9Ok : ExtOk Tryz.prog ext9 := ⟨⟨ca31, con31⟩, ⟨ca32, con32⟩, ⟨ca33, con33⟩, ⟨ca34, con34⟩, ⟨ca35, con35⟩, ⟨ca36, con36⟩, ⟨ca37, con37⟩, ⟨ca38, con38⟩, trivial⟩
noncomputable def b9 : Code := bodyOf Tryz.f9
theorem hb9 : Tryz.f9.body = some b9 := by kernel_rfl
def sig9 : List AT := [AT.v YA0, AT.v YA0]
def tys9 : List Ty := [Ty.bool]
def kds9 : List RK := []
def oks9 : List AT := owns sig9
def P9 (x0 : TyA0) (x1 : TyA0) : Prop := True
def g9_0 (x0 : TyA0) (x1 : TyA0) : Bool := (if (!g31_0 x0.1 x1.1) = true then false else (if (x0.2.1 != x1.2.1) = true then false else (if (!g32_0 x0.2.2.1 x1.2.2.1) = true then false else (if (!g33_0 x0.2.2.2.1 x1.2.2.2.1) = true then false else (if (!g34_0 x0.2.2.2.2.1 x1.2.2.2.2.1) = true then false else (if (!g35_0 x0.2.2.2.2.2.1 x1.2.2.2.2.2.1) = true then false else (if (!g36_0 x0.2.2.2.2.2.2.1 x1.2.2.2.2.2.2.1) = true then false else (if (x0.2.2.2.2.2.2.2.1 != x1.2.2.2.2.2.2.2.1) = true then false else (if (x0.2.2.2.2.2.2.2.2.1 != x1.2.2.2.2.2.2.2.2.1) = true then false else (if (!g37_0 x0.2.2.2.2.2.2.2.2.2.1 x1.2.2.2.2.2.2.2.2.2.1) = true then false else (if (x0.2.2.2.2.2.2.2.2.2.2.1 != x1.2.2.2.2.2.2.2.2.2.2.1) = true then false else (if (!g38_0 x0.2.2.2.2.2.2.2.2.2.2.2.1 x1.2.2.2.2.2.2.2.2.2.2.2.1) = true then false else true))))))))))))
theorem at9 (x0 : TyA0) (x1 : TyA0) (h : P9 x0 x1) (K : Ctx) (q : Nat → Value) : AtV Tryz.prog 9 (PostR kds9 oks9 [⟨Ty.bool, g9_0 x0 x1⟩] [] [] q K) 73 K q [] [.code b9] (entE 0 0 sig9 (x0, x1, ())) (entL sig9 (x0, x1, ())) := by
  unfold P9 at h
  unfold g9_0
  by_cases b0 : (!g31_0 x0.1 x1.1) = true
  · try simp only [if_pos b0] at h ⊢
    exact AtV.ret Tryz.func9 tabOk ext9Ok mixed false [] tys9 [true] (a1 trivial (a1 b0 trivial)) (by kernel_rfl)
  · try simp only [if_neg b0] at h ⊢
    replace b0 := Bool.eq_false_iff.2 b0
    by_cases b1 : (x0.2.1 != x1.2.1) = true
    · try simp only [if_pos b1] at h ⊢
      exact AtV.ret Tryz.func9 tabOk ext9Ok mixed false [] tys9 [false, true] (a1 trivial (a1 b0 (a1 b1 trivial))) (by kernel_rfl)
    · try simp only [if_neg b1] at h ⊢
      replace b1 := Bool.eq_false_iff.2 b1
      by_cases b2 : (!g32_0 x0.2.2.1 x1.2.2.1) = true
      · try simp only [if_pos b2] at h ⊢
        exact AtV.ret Tryz.func9 tabOk ext9Ok mixed false [] tys9 [false, false, true] (a1 trivial (a1 b0 (a1 b1 (a1 trivial (a1 b2 trivial))))) (by kernel_rfl)
      · try simp only [if_neg b2] at h ⊢
        replace b2 := Bool.eq_false_iff.2 b2
        by_cases b3 : (!g33_0 x0.2.2.2.1 x1.2.2.2.1) = true
        · try simp only [if_pos b3] at h ⊢
          exact AtV.ret Tryz.func9 tabOk ext9Ok mixed false [] tys9 [false, false, false, true] (a1 trivial (a1 b0 (a1 b1 (a1 trivial (a1 b2 (a1 trivial (a1 b3 trivial))))))) (by kernel_rfl)
        · try simp only [if_neg b3] at h ⊢
          replace b3 := Bool.eq_false_iff.2 b3
          by_cases b4 : (!g34_0 x0.2.2.2.2.1 x1.2.2.2.2.1) = true
          · try simp only [if_pos b4] at h ⊢
            exact AtV.ret Tryz.func9 tabOk ext9Ok mixed false [] tys9 [false, false, false, false, true] (a1 trivial (a1 b0 (a1 b1 (a1 trivial (a1 b2 (a1 trivial (a1 b3 (a1 trivial (a1 b4 trivial))))))))) (by kernel_rfl)
          · try simp only [if_neg b4] at h ⊢
            replace b4 := Bool.eq_false_iff.2 b4
            by_cases b5 : (!g35_0 x0.2.2.2.2.2.1 x1.2.2.2.2.2.1) = true
            · try simp only [if_pos b5] at h ⊢
              exact AtV.ret Tryz.func9 tabOk ext9Ok mixed false [] tys9 [false, false, false, false, false, true] (a1 trivial (a1 b0 (a1 b1 (a1 trivial (a1 b2 (a1 trivial (a1 b3 (a1 trivial (a1 b4 (a1 trivial (a1 b5 trivial))))))))))) (by kernel_rfl)
            · try simp only [if_neg b5] at h ⊢
              replace b5 := Bool.eq_false_iff.2 b5
              by_cases b6 : (!g36_0 x0.2.2.2.2.2.2.1 x1.2.2.2.2.2.2.1) = true
              · try simp only [if_pos b6] at h ⊢
                exact AtV.ret Tryz.func9 tabOk ext9Ok mixed false [] tys9 [false, false, false, false, false, false, true] (a1 trivial (a1 b0 (a1 b1 (a1 trivial (a1 b2 (a1 trivial (a1 b3 (a1 trivial (a1 b4 (a1 trivial (a1 b5 (a1 trivial (a1 b6 trivial))))))))))))) (by kernel_rfl)
              · try simp only [if_neg b6] at h ⊢
                replace b6 := Bool.eq_false_iff.2 b6
                by_cases b7 : (x0.2.2.2.2.2.2.2.1 != x1.2.2.2.2.2.2.2.1) = true
                · try simp only [if_pos b7] at h ⊢
                  exact AtV.ret Tryz.func9 tabOk ext9Ok mixed false [] tys9 [false, false, false, false, false, false, false, true] (a1 trivial (a1 b0 (a1 b1 (a1 trivial (a1 b2 (a1 trivial (a1 b3 (a1 trivial (a1 b4 (a1 trivial (a1 b5 (a1 trivial (a1 b6 (a1 b7 trivial)))))))))))))) (by kernel_rfl)
                · try simp only [if_neg b7] at h ⊢
                  replace b7 := Bool.eq_false_iff.2 b7
                  by_cases b8 : (x0.2.2.2.2.2.2.2.2.1 != x1.2.2.2.2.2.2.2.2.1) = true
                  · try simp only [if_pos b8] at h ⊢
                    exact AtV.ret Tryz.func9 tabOk ext9Ok mixed false [] tys9 [false, false, false, false, false, false, false, false, true] (a1 trivial (a1 b0 (a1 b1 (a1 trivial (a1 b2 (a1 trivial (a1 b3 (a1 trivial (a1 b4 (a1 trivial (a1 b5 (a1 trivial (a1 b6 (a1 b7 (a1 b8 trivial))))))))))))))) (by kernel_rfl)
                  · try simp only [if_neg b8] at h ⊢
                    replace b8 := Bool.eq_false_iff.2 b8
                    by_cases b9 : (!g37_0 x0.2.2.2.2.2.2.2.2.2.1 x1.2.2.2.2.2.2.2.2.2.1) = true
                    · try simp only [if_pos b9] at h ⊢
                      exact AtV.ret Tryz.func9 tabOk ext9Ok mixed false [] tys9 [false, false, false, false, false, false, false, false, false, true] (a1 trivial (a1 b0 (a1 b1 (a1 trivial (a1 b2 (a1 trivial (a1 b3 (a1 trivial (a1 b4 (a1 trivial (a1 b5 (a1 trivial (a1 b6 (a1 b7 (a1 b8 (a1 trivial (a1 b9 trivial))))))))))))))))) (by kernel_rfl)
                    · try simp only [if_neg b9] at h ⊢
                      replace b9 := Bool.eq_false_iff.2 b9
                      by_cases b10 : (x0.2.2.2.2.2.2.2.2.2.2.1 != x1.2.2.2.2.2.2.2.2.2.2.1) = true
                      · try simp only [if_pos b10] at h ⊢
                        exact AtV.ret Tryz.func9 tabOk ext9Ok mixed false [] tys9 [false, false, false, false, false, false, false, false, false, false, true] (a1 trivial (a1 b0 (a1 b1 (a1 trivial (a1 b2 (a1 trivial (a1 b3 (a1 trivial (a1 b4 (a1 trivial (a1 b5 (a1 trivial (a1 b6 (a1 b7 (a1 b8 (a1 trivial (a1 b9 (a1 b10 trivial)))))))))))))))))) (by kernel_rfl)
                      · try simp only [if_neg b10] at h ⊢
                        replace b10 := Bool.eq_false_iff.2 b10
                        by_cases b11 : (!g38_0 x0.2.2.2.2.2.2.2.2.2.2.2.1 x1.2.2.2.2.2.2.2.2.2.2.2.1) = true
                        · try simp only [if_pos b11] at h ⊢
                          exact AtV.ret Tryz.func9 tabOk ext9Ok mixed false [] tys9 [false, false, false, false, false, false, false, false, false, false, false, true] (a1 trivial (a1 b0 (a1 b1 (a1 trivial (a1 b2 (a1 trivial (a1 b3 (a1 trivial (a1 b4 (a1 trivial (a1 b5 (a1 trivial (a1 b6 (a1 b7 (a1 b8 (a1 trivial (a1 b9 (a1 b10 (a1 trivial (a1 b11 trivial)))))))))))))))))))) (by kernel_rfl)
                        · try simp only [if_neg b11] at h ⊢
                          replace b11 := Bool.eq_false_iff.2 b11
                          exact AtV.ret Tryz.func9 tabOk ext9Ok mixed false [] tys9 [false, false, false, false, false, false, false, false, false, false, false, false] (a1 trivial (a1 b0 (a1 b1 (a1 trivial (a1 b2 (a1 trivial (a1 b3 (a1 trivial (a1 b4 (a1 trivial (a1 b5 (a1 trivial (a1 b6 (a1 b7 (a1 b8 (a1 trivial (a1 b9 (a1 b10 (a1 trivial (a1 b11 trivial)))))))))))))))))))) (by kernel_rfl)
def S9 : Am.Spec := { sig := sig9, pre := fun ⟨x0, x1, _⟩ => P9 x0 x1, res := fun ⟨x0, x1, _⟩ => [⟨Ty.bool, g9_0 x0 x1⟩], kds := kds9 }
theorem con9 : Contract Tryz.prog 9 S9 := contract_of Tryz.func9 hb9 (Nat.le_of_ble_eq_true (by kernel_rfl)) (fun ⟨x0, x1, _⟩ h _ K q => at9 x0 x1 h K q)
end
noncomputable section
def ext73 : Ext := []
theorem ext73Ok : ExtOk Tryz.prog ext73 := trivial
noncomputable def b73 : Code := bodyOf Tryz.f73
theorem hb73 : Tryz.f73.body = some b73 := by kernel_rfl
def sig73 : List AT := [AT.own YA9, AT.v (Ty.int .i64)]
def tys73 : List Ty := [Ty.int .i64]
def kds73 : List RK := []
def oks73 : List AT := owns sig73
def E73_2 (v5 : Int) (x1 : Int) (x0 : List TyB4) : Env := [(0, PV.a (Atom.osl 0 Option.none)), (1, PV.a (Atom.val (Value.int .i64 x1))), (5, PV.a (Atom.val (Value.int .i64 v5)))]
def L73_2 (v5 : Int) (x1 : Int) (x0 : List TyB4) : Heap := [Option.some (Arr.mk YA9 x0 false Option.none Option.none)]
mutual
def R73 : Nat → List TyB4 → Int → List Dyn → List (Option Lst) → Prop
  | 0, _, _, _, _ => False
  | n + 1, x0, x1, ds, us => (R73_2 n (0) (x1) (x0) ds us)
def R73_2 : Nat → Int → Int → List TyB4 → List Dyn → List (Option Lst) → Prop
  | 0, _, _, _, _, _ => False
  | n + 1, v5, x1, x0, ds, us => (if (decide (v5 < (↑(List.length x0) : Int))) = true then ((0 ≤ v5) ∧ (v5 < (↑(List.length x0) : Int)) ∧ ((InR .i64 (x1 + 1)) ∧ ((0 ≤ v5) ∧ (v5 < (↑(List.length (List.set x0 (Int.toNat v5) (x1, (List.getD x0 (Int.toNat v5) (0, 0, ())).2))) : Int)) ∧ ((InR .i64 (x1 + 1 + 1)) ∧ ((InR .i64 (v5 + 1)) ∧ (R73_2 n (v5 + 1) (x1 + 1 + 1) (List.set (List.set x0 (Int.toNat v5) (x1, (List.getD x0 (Int.toNat v5) (0, 0, ())).2)) (Int.toNat v5) ((List.getD (List.set x0 (Int.toNat v5) (x1, (List.getD x0 (Int.toNat v5) (0, 0, ())).2)) (Int.toNat v5) (0, 0, ())).1, x1 + 1, (List.getD (List.set x0 (Int.toNat v5) (x1, (List.getD x0 (Int.toNat v5) (0, 0, ())).2)) (Int.toNat v5) (0, 0, ())).2.2)) ds us)))))) else (ds = [Dyn.mk (Ty.int .i64) x1] ∧ us = [Option.some (Lst.mk YA9 x0)]))
end
theorem snd73 : ∀ n, (∀ (x0 : List TyB4) (x1 : Int) ds us, R73 n x0 x1 ds us → ∀ K q, AtV Tryz.prog 73 (PostR kds73 oks73 ds us [0] q K) 27 K q [0] [.code b73] (entE 0 0 sig73 (x0, x1, ())) (entL sig73 (x0, x1, ()))) ∧ (∀ (v5 : Int) (x1 : Int) (x0 : List TyB4) ds us, R73_2 n v5 x1 x0 ds us → ∀ K q, AtV Tryz.prog 73 (PostR kds73 oks73 ds us [0] q K) 27 K q [0] (cutAt b73 2) (E73_2 v5 x1 x0) (L73_2 v5 x1 x0)) := by
  intro n
  induction n with
  | zero => exact ⟨fun _ _ _ _ h => by simp only [R73] at h, fun _ _ _ _ _ h => by simp only [R73_2] at h⟩
  | succ n ih =>
  obtain ⟨ih, ih2⟩ := ih
  refine ⟨?_, ?_⟩
  · intro x0 x1 ds us h K q
    rw [R73] at h
    exact AtV.go tabOk ext73Ok mixed false [] [] [0, 1, 5] [0] [] trivial (ih2 _ _ _ _ _ h K q) (by kernel_rfl)
  · intro v5 x1 x0 ds us h K q
    rw [R73_2] at h
    by_cases b0 : (decide (v5 < (↑(List.length x0) : Int))) = true
    · rw [if_pos b0] at h
      obtain ⟨s0, s1, h⟩ := h
      obtain ⟨s2, h⟩ := h
      obtain ⟨s3, s4, h⟩ := h
      obtain ⟨s5, h⟩ := h
      obtain ⟨s6, h⟩ := h
      exact AtV.go tabOk ext73Ok mixed false [] [] [0, 1, 5] [0] [true] (a1 b0 (a1 s0 (a1 s1 (a1 s2 (a1 s3 (a1 s4 (a1 s5 (a1 s6 trivial)))))))) (ih2 _ _ _ _ _ h K q) (by kernel_rfl)
    · rw [if_neg b0] at h
      replace b0 := Bool.eq_false_iff.2 b0
      obtain ⟨h, h'⟩ := h; subst h; subst h'
      exact AtV.ret Tryz.func73 tabOk ext73Ok mixed false [] tys73 [false] (a1 b0 trivial) (by kernel_rfl)
def M73 (x1 : Int) (n : Nat) : List TyB4 := (List.range n).map fun (j : Nat) => ((x1 + 2 * (j : Int)), (x1 + 2 * (j : Int) + 1), ())
theorem M73_len (x1 : Int) (n : Nat) : (M73 x1 n).length = n := by simp [M73]
theorem M73_succ (x1 : Int) (n : Nat) : M73 x1 (n + 1) = M73 x1 n ++ [((x1 + 2 * (n : Int)), (x1 + 2 * (n : Int) + 1), ())] := by
  simp [M73, List.range_succ]
theorem run73 (x0 : List TyB4) (x1 : Int) (hm : x0.length ≤ maxLen) (h0 : 0 ≤ x1) (h1 : x1 + 2 * x0.length ≤ 9223372036854775807) : ∀ (k i : Nat), i + k = x0.length →
    R73_2 (k + 1) (i : Int) (x1 + 2 * (i : Int)) (M73 x1 i ++ x0.drop i) [⟨.int .i64, x1 + 2 * (x0.length : Int)⟩] [some ⟨(.cons (.int .i64) (.cons (.int .i64) .unit)), M73 x1 x0.length⟩] := by
  intro k
  induction k with
  | zero =>
    intro i hi
    have hl : (M73 x1 i ++ x0.drop i).length = x0.length := by simp [M73_len]; omega
    rw [R73_2, if_neg (by rw [hl]; simp; omega), drop_end x0 i (by omega), List.append_nil]
    have : i = x0.length := by omega
    subst this
    exact ⟨rfl, rfl⟩
  | succ k ih =>
    intro i hi
    have hl : (M73 x1 i ++ x0.drop i).length = x0.length := by simp [M73_len]; omega
    have hA := M73_len x1 i
    rw [R73_2, if_pos (by rw [hl]; simp; omega)]
    rw [drop_get x0 i ((0 : Int), (0 : Int), ()) (by omega)] at hl ⊢
    simp only [Int.toNat_natCast, set_mid _ _ _ _ i hA, get_mid _ _ _ _ i hA]
    have hl' : ∀ y : TyB4, ((M73 x1 i ++ y :: x0.drop (i + 1)).length : Int) = x0.length := fun y => by rw [← hl]; simp
    simp only [hl']
    refine ⟨by omega, by omega, by rw [i64_iff]; omega, by omega, by omega, by rw [i64_iff]; omega, inR_up hm (by omega), ?_⟩
    have hx : x1 + 2 * (i : Int) + 1 + 1 = x1 + 2 * ((i + 1 : Nat) : Int) := by omega
    have := ih (i + 1) (by omega)
    rw [M73_succ, List.append_assoc] at this
    rw [hx]
    simpa using this
def P73 (x0 : List TyB4) (x1 : Int) : Prop := 0 ≤ x1 ∧ x1 + 2 * x0.length ≤ 9223372036854775807
def g73_0 (x0 : List TyB4) (x1 : Int) : Int := x1 + 2 * (x0.length : Int)
def u73_0 (x0 : List TyB4) (x1 : Int) : List TyB4 := M73 x1 x0.length
theorem top73 (x0 : List TyB4) (x1 : Int) (hm : x0.length ≤ maxLen) (h : P73 x0 x1) : R73 (x0.length + 1 + 1) x0 x1 [⟨.int .i64, g73_0 x0 x1⟩] [some ⟨(.cons (.int .i64) (.cons (.int .i64) .unit)), u73_0 x0 x1⟩] := by
  rw [R73]
  have := run73 x0 x1 hm h.1 h.2 x0.length 0 (by omega)
  simpa [M73, g73_0, u73_0] using this
def S73 : Am.Spec := { sig := sig73, pre := fun ⟨x0, x1, _⟩ => P73 x0 x1, upd := fun ⟨x0, x1, _⟩ => [some ⟨(.cons (.int .i64) (.cons (.int .i64) .unit)), u73_0 x0 x1⟩], res := fun ⟨x0, x1, _⟩ => [⟨.int .i64, g73_0 x0 x1⟩] }
theorem con73 : Contract Tryz.prog 73 S73 := contract_of Tryz.func73 hb73 (Nat.le_of_ble_eq_true (by kernel_rfl)) (fun ⟨x0, x1, _⟩ h hwf K q =>
  (snd73 _).1 x0 x1 _ _ (top73 x0 x1 hwf.1.1 h) K q)
end
noncomputable section
def ext39 : Ext := [(73, S73)]
theorem ext39Ok : ExtOk Tryz.prog ext39 := ⟨⟨ca73, con73⟩, trivial⟩
noncomputable def b39 : Code := bodyOf Tryz.f39
theorem hb39 : Tryz.f39.body = some b39 := by kernel_rfl
def sig39 : List AT := [AT.sv YA2, AT.v (Ty.int .i64)]
def tys39 : List Ty := [Ty.int .i64]
def kds39 : List RK := []
def oks39 : List AT := owns sig39
def P39 (x0 : List TyB4 × Int × Int × Unit) (x1 : Int) : Prop := ((P73 x0.1 x1) ∧ (List.length (u73_0 x0.1 x1) = List.length x0.1) ∧ True)
def g39_0 (x0 : List TyB4 × Int × Int × Unit) (x1 : Int) : Int := g73_0 x0.1 x1
def u39_0 (x0 : List TyB4 × Int × Int × Unit) (x1 : Int) : List TyB4 × Int × Int × Unit := (u73_0 x0.1 x1, x0.2.1, x0.2.2.1, ())
theorem at39 (x0 : List TyB4 × Int × Int × Unit) (x1 : Int) (h : P39 x0 x1) (K : Ctx) (q : Nat → Value) : AtV Tryz.prog 39 (PostR kds39 oks39 [⟨Ty.int .i64, g39_0 x0 x1⟩] [some ⟨Ty.cons (Ty.sl YA9) YA9, [u39_0 x0 x1]⟩] [0] q K) 10 K q [0] [.code b39] (entE 0 0 sig39 (x0, x1, ())) (entL sig39 (x0, x1, ())) := by
  unfold P39 at h
  unfold g39_0 u39_0
  obtain ⟨s0, s1, h⟩ := h
  exact AtV.weak (AtV.ret (us := [Option.some (Lst.mk YA2 [(u73_0 x0.1 x1, x0.2.1, x0.2.2.1, ())])]) Tryz.func39 tabOk ext39Ok mixed false [] tys39 [] (a1 s0 (a1 s1 trivial)) (by kernel_rfl)) ⟨.inl rfl, trivial⟩
def S39 : Am.Spec := { sig := sig39, pre := fun ⟨x0, x1, _⟩ => P39 x0 x1, upd := fun ⟨x0, x1, _⟩ => [some ⟨Ty.cons (Ty.sl YA9) YA9, [u39_0 x0 x1]⟩], res := fun ⟨x0, x1, _⟩ => [⟨Ty.int .i64, g39_0 x0 x1⟩], kds := kds39 }
theorem con39 : Contract Tryz.prog 39 S39 := contract_of Tryz.func39 hb39 (Nat.le_of_ble_eq_true (by kernel_rfl)) (fun ⟨x0, x1, _⟩ h _ K q => at39 x0 x1 h K q)
end
noncomputable section
def ext44 : Ext := []
theorem ext44Ok : ExtOk Tryz.prog ext44 := trivial
noncomputable def b44 : Code := bodyOf Tryz.f44
theorem hb44 : Tryz.f44.body = some b44 := by kernel_rfl
def sig44 : List AT := [AT.v (Ty.int .i64)]
def tys44 : List Ty := [Ty.str]
def kds44 : List RK := []
def oks44 : List AT := owns sig44
def E44_4 (v3 : ByteArray) (x0 : Int) : Env := [(0, PV.a (Atom.val (Value.int .i64 x0))), (3, PV.a (Atom.val (Value.string v3)))]
def L44_4 (v3 : ByteArray) (x0 : Int) : Heap := []
mutual
def R44 : Nat → Int → List Dyn → Prop
  | 0, _, _ => False
  | n + 1, x0, ds => (if (decide (x0 ≤ 0)) = true then (ds = [Dyn.mk Ty.str (ByteArray.mk #[109, 48])]) else (R44_4 n (ByteArray.mk #[]) (x0) ds))
def R44_4 : Nat → ByteArray → Int → List Dyn → Prop
  | 0, _, _, _ => False
  | n + 1, v3, x0, ds => (if (decide (x0 > 0)) = true then ((InR .i64 (Int.tmod x0 10)) ∧ ((InR .i64 (48 + Int.tmod x0 10)) ∧ ((InR .u8 (48 + Int.tmod x0 10)) ∧ ((ByteArray.size (bytesStr [48 + Int.tmod x0 10]) + ByteArray.size v3 ≤ 9223372036854775807) ∧ ((InR .i64 (Int.tdiv x0 10)) ∧ (R44_4 n (bytesStr [48 + Int.tmod x0 10] ++ v3) (Int.tdiv x0 10) ds)))))) else ((1 + ByteArray.size v3 ≤ 9223372036854775807) ∧ (ds = [Dyn.mk Ty.str (ByteArray.mk #[109] ++ v3)])))
end
theorem snd44 : ∀ n, (∀ (x0 : Int) ds, R44 n x0 ds → ∀ K q, AtV Tryz.prog 44 (PostR kds44 oks44 ds [] [] q K) 20 K q [] [.code b44] (entE 0 0 sig44 (x0, ())) (entL sig44 (x0, ()))) ∧ (∀ (v3 : ByteArray) (x0 : Int) ds, R44_4 n v3 x0 ds → ∀ K q, AtV Tryz.prog 44 (PostR kds44 oks44 ds [] [] q K) 20 K q [] (cutAt b44 4) (E44_4 v3 x0) (L44_4 v3 x0)) := by
  intro n
  induction n with
  | zero => exact ⟨fun _ _ h => by simp only [R44] at h, fun _ _ _ h => by simp only [R44_4] at h⟩
  | succ n ih =>
  obtain ⟨ih, ih4⟩ := ih
  refine ⟨?_, ?_⟩
  · intro x0 ds h K q
    rw [R44] at h
    by_cases b0 : (decide (x0 ≤ 0)) = true
    · rw [if_pos b0] at h
      subst h
      exact AtV.ret Tryz.func44 tabOk ext44Ok mixed false [] tys44 [true] (a1 b0 trivial) (by kernel_rfl)
    · rw [if_neg b0] at h
      replace b0 := Bool.eq_false_iff.2 b0
      exact AtV.go tabOk ext44Ok mixed false [] [] [0, 3] [] [false] (a1 b0 trivial) (ih4 _ _ _ h K q) (by kernel_rfl)
  · intro v3 x0 ds h K q
    rw [R44_4] at h
    by_cases b0 : (decide (x0 > 0)) = true
    · rw [if_pos b0] at h
      obtain ⟨s0, h⟩ := h
      obtain ⟨s1, h⟩ := h
      obtain ⟨s2, h⟩ := h
      obtain ⟨s3, h⟩ := h
      obtain ⟨s4, h⟩ := h
      exact AtV.go tabOk ext44Ok mixed false [] [] [0, 3] [] [true] (a1 b0 (a1 ((by decide) : (10 : Int) ≠ (0 : Int)) (a1 s0 (a1 s1 (a1 s2 (a1 s3 (a1 ((by decide) : (10 : Int) ≠ (0 : Int)) (a1 s4 trivial)))))))) (ih4 _ _ _ h K q) (by kernel_rfl)
    · rw [if_neg b0] at h
      replace b0 := Bool.eq_false_iff.2 b0
      obtain ⟨s0, h⟩ := h
      subst h
      exact AtV.ret Tryz.func44 tabOk ext44Ok mixed false [] tys44 [false] (a1 b0 (a1 s0 trivial)) (by kernel_rfl)
def loop44 : Nat → ByteArray → Int → ByteArray
  | 0, v, _ => v
  | n + 1, v, x => if 0 < x then loop44 n (bytesStr [48 + Int.tmod x 10] ++ v) (Int.tdiv x 10) else v
theorem run44 : ∀ (n : Nat) (v : ByteArray) (x : Int), x < 10 ^ n → InR .i64 x → v.size + n ≤ 1000 → R44_4 (n + 1) v x [⟨.str, ByteArray.mk #[109] ++ loop44 n v x⟩] := by
  intro n
  induction n with
  | zero =>
    intro v x h1 _ h2
    rw [R44_4, if_neg (by simp at h1 ⊢; omega)]
    exact ⟨by omega, rfl⟩
  | succ n ih =>
    intro v x h1 hi h2
    rw [i64_iff] at hi
    rw [R44_4]
    by_cases hx : 0 < x
    · rw [if_pos (by simpa using hx)]
      have e1 : Int.tmod x 10 = x % 10 := Int.tmod_eq_emod_of_nonneg (by omega)
      have e2 : Int.tdiv x 10 = x / 10 := Int.tdiv_eq_ediv_of_nonneg (by omega)
      have hs : (bytesStr [48 + Int.tmod x 10]).size = 1 := bytesStr_size _
      have hp : (10 : Int) ^ (n + 1) = 10 * 10 ^ n := by rw [Int.pow_succ, Int.mul_comm]
      refine ⟨by rw [i64_iff, e1]; omega, by rw [i64_iff, e1]; omega, by rw [u8_iff, e1]; omega, by rw [hs]; omega, by rw [i64_iff, e2]; omega, ?_⟩
      have := ih (bytesStr [48 + Int.tmod x 10] ++ v) (Int.tdiv x 10) (by rw [e2]; omega) (by rw [i64_iff, e2]; omega) (by rw [ByteArray.size_append, hs]; omega)
      simp only [loop44, if_pos hx]
      exact this
    · rw [if_neg (by simp; omega)]
      simp only [loop44, if_neg hx]
      exact ⟨by omega, trivial⟩
def g44_0 (x0 : Int) : ByteArray := if x0 ≤ 0 then ByteArray.mk #[109, 48] else ByteArray.mk #[109] ++ loop44 19 (ByteArray.mk #[]) x0
def P44 (x0 : Int) : Prop := True
theorem top44 (x0 : Int) (hi : InR .i64 x0) : R44 21 x0 [⟨.str, g44_0 x0⟩] := by
  rw [R44]
  unfold g44_0
  by_cases h : x0 ≤ 0
  · rw [if_pos (by simpa using h), if_pos h]
  · rw [if_neg (by simpa using h), if_neg h]
    have hi' := hi
    rw [i64_iff] at hi'
    exact run44 19 _ x0 (by omega) hi (by decide)
def S44 : Am.Spec := { sig := sig44, pre := fun ⟨x0, _⟩ => P44 x0, res := fun ⟨x0, _⟩ => [⟨.str, g44_0 x0⟩] }
theorem con44 : Contract Tryz.prog 44 S44 := contract_of Tryz.func44 hb44 (Nat.le_of_ble_eq_true (by kernel_rfl)) (fun ⟨x0, _⟩ h hwf K q =>
  (snd44 _).1 x0 _ (top44 x0 hwf.1) K q)
end
noncomputable section
def ext40 : Ext := [(44, S44)]
theorem ext40Ok : ExtOk Tryz.prog ext40 := ⟨⟨ca44, con44⟩, trivial⟩
noncomputable def b40 : Code := bodyOf Tryz.f40
theorem hb40 : Tryz.f40.body = some b40 := by kernel_rfl
def sig40 : List AT := [AT.own YA5, AT.v (Ty.int .i64)]
def tys40 : List Ty := [Ty.int .i64]
def kds40 : List RK := []
def oks40 : List AT := owns sig40
def E40_2 (v5 : Int) (x1 : Int) (x0 : List TyB1) : Env := [(0, PV.a (Atom.osl 0 Option.none)), (1, PV.a (Atom.val (Value.int .i64 x1))), (5, PV.a (Atom.val (Value.int .i64 v5)))]
def L40_2 (v5 : Int) (x1 : Int) (x0 : List TyB1) : Heap := [Option.some (Arr.mk YA5 x0 false Option.none Option.none)]
@[reducible] def q40_0 (v5 : Int) (x1 : Int) (x0 : List TyB1) := List.set x0 (Int.toNat v5) (g44_0 x1, (List.getD x0 (Int.toNat v5) (ByteArray.empty, 0, 0, 0, ())).2)
@[reducible] def q40_1 (v5 : Int) (x1 : Int) (x0 : List TyB1) := List.set (q40_0 v5 x1 x0) (Int.toNat v5) ((List.getD (q40_0 v5 x1 x0) (Int.toNat v5) (ByteArray.empty, 0, 0, 0, ())).1, x1 + 1, (List.getD (q40_0 v5 x1 x0) (Int.toNat v5) (ByteArray.empty, 0, 0, 0, ())).2.2)
@[reducible] def q40_2 (v5 : Int) (x1 : Int) (x0 : List TyB1) := List.set (q40_1 v5 x1 x0) (Int.toNat v5) ((List.getD (q40_1 v5 x1 x0) (Int.toNat v5) (ByteArray.empty, 0, 0, 0, ())).1, (List.getD (q40_1 v5 x1 x0) (Int.toNat v5) (ByteArray.empty, 0, 0, 0, ())).2.1, x1 + 1 + 1, (List.getD (q40_1 v5 x1 x0) (Int.toNat v5) (ByteArray.empty, 0, 0, 0, ())).2.2.2)
mutual
def R40 : Nat → List TyB1 → Int → List Dyn → List (Option Lst) → Prop
  | 0, _, _, _, _ => False
  | n + 1, x0, x1, ds, us => (R40_2 n (0) (x1) (x0) ds us)
def R40_2 : Nat → Int → Int → List TyB1 → List Dyn → List (Option Lst) → Prop
  | 0, _, _, _, _, _ => False
  | n + 1, v5, x1, x0, ds, us => (if (decide (v5 < (↑(List.length x0) : Int))) = true then ((0 ≤ v5) ∧ (v5 < (↑(List.length x0) : Int)) ∧ ((InR .i64 (x1 + 1)) ∧ ((0 ≤ v5) ∧ (v5 < (↑(List.length (q40_0 v5 x1 x0)) : Int)) ∧ ((InR .i64 (x1 + 1 + 1)) ∧ ((0 ≤ v5) ∧ (v5 < (↑(List.length (q40_1 v5 x1 x0)) : Int)) ∧ ((InR .i64 (x1 + 1 + 1 + 1)) ∧ ((0 ≤ v5) ∧ (v5 < (↑(List.length (q40_2 v5 x1 x0)) : Int)) ∧ ((InR .i64 (x1 + 1 + 1 + 1 + 1)) ∧ ((InR .i64 (v5 + 1)) ∧ (R40_2 n (v5 + 1) (x1 + 1 + 1 + 1 + 1) (List.set (q40_2 v5 x1 x0) (Int.toNat v5) ((List.getD (q40_2 v5 x1 x0) (Int.toNat v5) (ByteArray.empty, 0, 0, 0, ())).1, (List.getD (q40_2 v5 x1 x0) (Int.toNat v5) (ByteArray.empty, 0, 0, 0, ())).2.1, (List.getD (q40_2 v5 x1 x0) (Int.toNat v5) (ByteArray.empty, 0, 0, 0, ())).2.2.1, x1 + 1 + 1 + 1, (List.getD (q40_2 v5 x1 x0) (Int.toNat v5) (ByteArray.empty, 0, 0, 0, ())).2.2.2.2)) ds us)))))))))) else (ds = [Dyn.mk (Ty.int .i64) x1] ∧ us = [Option.some (Lst.mk YA5 x0)]))
end
theorem snd40 : ∀ n, (∀ (x0 : List TyB1) (x1 : Int) ds us, R40 n x0 x1 ds us → ∀ K q, AtV Tryz.prog 40 (PostR kds40 oks40 ds us [0] q K) 42 K q [0] [.code b40] (entE 0 0 sig40 (x0, x1, ())) (entL sig40 (x0, x1, ()))) ∧ (∀ (v5 : Int) (x1 : Int) (x0 : List TyB1) ds us, R40_2 n v5 x1 x0 ds us → ∀ K q, AtV Tryz.prog 40 (PostR kds40 oks40 ds us [0] q K) 42 K q [0] (cutAt b40 2) (E40_2 v5 x1 x0) (L40_2 v5 x1 x0)) := by
  intro n
  induction n with
  | zero => exact ⟨fun _ _ _ _ h => by simp only [R40] at h, fun _ _ _ _ _ h => by simp only [R40_2] at h⟩
  | succ n ih =>
  obtain ⟨ih, ih2⟩ := ih
  refine ⟨?_, ?_⟩
  · intro x0 x1 ds us h K q
    rw [R40] at h
    exact AtV.go tabOk ext40Ok mixed false [] [] [0, 1, 5] [0] [] trivial (ih2 _ _ _ _ _ h K q) (by kernel_rfl)
  · intro v5 x1 x0 ds us h K q
    rw [R40_2] at h
    by_cases b0 : (decide (v5 < (↑(List.length x0) : Int))) = true
    · rw [if_pos b0] at h
      obtain ⟨s0, s1, h⟩ := h
      obtain ⟨s2, h⟩ := h
      obtain ⟨s3, s4, h⟩ := h
      obtain ⟨s5, h⟩ := h
      obtain ⟨s6, s7, h⟩ := h
      obtain ⟨s8, h⟩ := h
      obtain ⟨s9, s10, h⟩ := h
      obtain ⟨s11, h⟩ := h
      obtain ⟨s12, h⟩ := h
      exact AtV.go tabOk ext40Ok mixed false [] [] [0, 1, 5] [0] [true] (a1 b0 (a1 trivial (a1 s0 (a1 s1 (a1 s2 (a1 s3 (a1 s4 (a1 s5 (a1 s6 (a1 s7 (a1 s8 (a1 s9 (a1 s10 (a1 s11 (a1 s12 trivial))))))))))))))) (ih2 _ _ _ _ _ h K q) (by kernel_rfl)
    · rw [if_neg b0] at h
      replace b0 := Bool.eq_false_iff.2 b0
      obtain ⟨h, h'⟩ := h; subst h; subst h'
      exact AtV.ret Tryz.func40 tabOk ext40Ok mixed false [] tys40 [false] (a1 b0 trivial) (by kernel_rfl)
def M40 (x1 : Int) (n : Nat) : List TyB1 := (List.range n).map fun (j : Nat) => (g44_0 (x1 + 4 * (j : Int)), (x1 + 4 * (j : Int) + 1), (x1 + 4 * (j : Int) + 1 + 1), (x1 + 4 * (j : Int) + 1 + 1 + 1), ())
theorem M40_len (x1 : Int) (n : Nat) : (M40 x1 n).length = n := by simp [M40]
theorem M40_succ (x1 : Int) (n : Nat) : M40 x1 (n + 1) = M40 x1 n ++ [(g44_0 (x1 + 4 * (n : Int)), (x1 + 4 * (n : Int) + 1), (x1 + 4 * (n : Int) + 1 + 1), (x1 + 4 * (n : Int) + 1 + 1 + 1), ())] := by
  simp [M40, List.range_succ]
theorem run40 (x0 : List TyB1) (x1 : Int) (hm : x0.length ≤ maxLen) (h0 : 0 ≤ x1) (h1 : x1 + 4 * x0.length ≤ 9223372036854775807) : ∀ (k i : Nat), i + k = x0.length →
    R40_2 (k + 1) (i : Int) (x1 + 4 * (i : Int)) (M40 x1 i ++ x0.drop i) [⟨.int .i64, x1 + 4 * (x0.length : Int)⟩] [some ⟨(.cons .str (.cons (.int .i64) (.cons (.int .i64) (.cons (.int .i64) .unit)))), M40 x1 x0.length⟩] := by
  intro k
  induction k with
  | zero =>
    intro i hi
    have hl : (M40 x1 i ++ x0.drop i).length = x0.length := by simp [M40_len]; omega
    rw [R40_2, if_neg (by rw [hl]; simp; omega), drop_end x0 i (by omega), List.append_nil]
    have : i = x0.length := by omega
    subst this
    exact ⟨rfl, rfl⟩
  | succ k ih =>
    intro i hi
    have hl : (M40 x1 i ++ x0.drop i).length = x0.length := by simp [M40_len]; omega
    have hA := M40_len x1 i
    rw [R40_2, if_pos (by rw [hl]; simp; omega)]
    rw [drop_get x0 i (ByteArray.empty, (0 : Int), (0 : Int), (0 : Int), ()) (by omega)] at hl ⊢
    simp only [Int.toNat_natCast, q40_0, q40_1, q40_2, set_mid _ _ _ _ i hA, get_mid _ _ _ _ i hA]
    have hl' : ∀ y : TyB1, ((M40 x1 i ++ y :: x0.drop (i + 1)).length : Int) = x0.length := fun y => by rw [← hl]; simp
    simp only [hl']
    refine ⟨by omega, by omega, by rw [i64_iff]; omega, by omega, by omega, by rw [i64_iff]; omega, by omega, by omega, by rw [i64_iff]; omega, by omega, by omega, by rw [i64_iff]; omega, inR_up hm (by omega), ?_⟩
    have hx : x1 + 4 * (i : Int) + 1 + 1 + 1 + 1 = x1 + 4 * ((i + 1 : Nat) : Int) := by omega
    have := ih (i + 1) (by omega)
    rw [M40_succ, List.append_assoc] at this
    rw [hx]
    simpa using this
def P40 (x0 : List TyB1) (x1 : Int) : Prop := 0 ≤ x1 ∧ x1 + 4 * x0.length ≤ 9223372036854775807
def g40_0 (x0 : List TyB1) (x1 : Int) : Int := x1 + 4 * (x0.length : Int)
def u40_0 (x0 : List TyB1) (x1 : Int) : List TyB1 := M40 x1 x0.length
theorem top40 (x0 : List TyB1) (x1 : Int) (hm : x0.length ≤ maxLen) (h : P40 x0 x1) : R40 (x0.length + 1 + 1) x0 x1 [⟨.int .i64, g40_0 x0 x1⟩] [some ⟨(.cons .str (.cons (.int .i64) (.cons (.int .i64) (.cons (.int .i64) .unit)))), u40_0 x0 x1⟩] := by
  rw [R40]
  have := run40 x0 x1 hm h.1 h.2 x0.length 0 (by omega)
  simpa [M40, g40_0, u40_0] using this
def S40 : Am.Spec := { sig := sig40, pre := fun ⟨x0, x1, _⟩ => P40 x0 x1, upd := fun ⟨x0, x1, _⟩ => [some ⟨(.cons .str (.cons (.int .i64) (.cons (.int .i64) (.cons (.int .i64) .unit)))), u40_0 x0 x1⟩], res := fun ⟨x0, x1, _⟩ => [⟨.int .i64, g40_0 x0 x1⟩] }
theorem con40 : Contract Tryz.prog 40 S40 := contract_of Tryz.func40 hb40 (Nat.le_of_ble_eq_true (by kernel_rfl)) (fun ⟨x0, x1, _⟩ h hwf K q =>
  (snd40 _).1 x0 x1 _ _ (top40 x0 x1 hwf.1.1 h) K q)
end
end Go.Proofs.YtnclnmljkoicdaaGreatDoor
