/- Several texts in one: the functions that this law reaches, and their laws. -/
import Derived.Test.YtkemillpgmdlgaaGreatDoorZ3A
import Derived.Test.YtkemillpgmdlgaaGreatDoorZ3B
import Derived.Test.YtkemillpgmdlgaaGreatDoorZ3C
import Derived.Test.YtkemillpgmdlgaaGreatDoorZ3D
import Derived.Lib.ItoaNum
set_option linter.unusedVariables false
set_option linter.unusedSimpArgs false
set_option maxRecDepth 100000
namespace Go.Proofs.YtkemillpgmdlgaaGreatDoor
open Go Go.Am Go.Proofs
noncomputable section
def ext127 : Ext := [(125, S125)]
theorem ext127Ok : ExtOk Tryz.prog ext127 := ⟨⟨ca125, con125⟩, trivial⟩
noncomputable def b127 : Code := bodyOf Tryz.f127
theorem hb127 : Tryz.f127.body = some b127 := by kernel_rfl
def sig127 : List AT := [AT.v (Ty.str)]
def tys127 : List Ty := [Ty.bool]
def kds127 : List RK := []
def oks127 : List AT := owns sig127
def E127_2 (v3 : Int) (x0 : ByteArray) : Env := [(0, PV.a (Atom.val (Value.string x0))), (3, PV.a (Atom.val (Value.int .i64 v3)))]
def L127_2 (v3 : Int) (x0 : ByteArray) : Heap := []
mutual
def R127 : Nat → ByteArray → List Dyn → Prop
  | 0, _, _ => False
  | n + 1, x0, ds => (R127_2 n (0) (x0) ds)
def R127_2 : Nat → Int → ByteArray → List Dyn → Prop
  | 0, _, _, _ => False
  | n + 1, v3, x0, ds => (if (decide (v3 < (↑(ByteArray.size x0) : Int))) = true then ((0 ≤ v3) ∧ (v3 < (↑(ByteArray.size x0) : Int)) ∧ (if (!g125_0 (↑(UInt8.toNat (List.getD (Array.toList (ByteArray.data x0)) (Int.toNat v3) 0)) : Int)) = true then ((0 ≤ v3) ∧ (v3 < (↑(ByteArray.size x0) : Int)) ∧ (if (decide ((↑(UInt8.toNat (List.getD (Array.toList (ByteArray.data x0)) (Int.toNat v3) 0)) : Int) < 97)) = true then (ds = [Dyn.mk Ty.bool false]) else ((0 ≤ v3) ∧ (v3 < (↑(ByteArray.size x0) : Int)) ∧ (if (decide ((↑(UInt8.toNat (List.getD (Array.toList (ByteArray.data x0)) (Int.toNat v3) 0)) : Int) > 122)) = true then (ds = [Dyn.mk Ty.bool false]) else ((InR .i64 (v3 + 1)) ∧ (R127_2 n (v3 + 1) (x0) ds)))))) else ((InR .i64 (v3 + 1)) ∧ (R127_2 n (v3 + 1) (x0) ds)))) else (ds = [Dyn.mk Ty.bool (decide ((↑(ByteArray.size x0) : Int) > 0))]))
end
theorem snd127 : ∀ n, (∀ (x0 : ByteArray) ds, R127 n x0 ds → ∀ K q, AtV Tryz.prog 127 (PostR kds127 oks127 ds [] [] q K) 30 K q [] [.code b127] (entE 0 0 sig127 (x0, ())) (entL sig127 (x0, ()))) ∧ (∀ (v3 : Int) (x0 : ByteArray) ds, R127_2 n v3 x0 ds → ∀ K q, AtV Tryz.prog 127 (PostR kds127 oks127 ds [] [] q K) 30 K q [] (cutAt b127 2) (E127_2 v3 x0) (L127_2 v3 x0)) := by
  intro n
  induction n with
  | zero => exact ⟨fun _ _ h => by simp only [R127] at h, fun _ _ _ h => by simp only [R127_2] at h⟩
  | succ n ih =>
  obtain ⟨ih, ih2⟩ := ih
  refine ⟨?_, ?_⟩
  · intro x0 ds h K q
    rw [R127] at h
    exact AtV.go tabOk ext127Ok mixed false [] [] [0, 3] [] [] trivial (ih2 _ _ _ h K q) (by kernel_rfl)
  · intro v3 x0 ds h K q
    rw [R127_2] at h
    by_cases b0 : (decide (v3 < (↑(ByteArray.size x0) : Int))) = true
    · rw [if_pos b0] at h
      obtain ⟨s0, s1, h⟩ := h
      by_cases b1 : (!g125_0 (↑(UInt8.toNat (List.getD (Array.toList (ByteArray.data x0)) (Int.toNat v3) 0)) : Int)) = true
      · rw [if_pos b1] at h
        obtain ⟨s2, s3, h⟩ := h
        by_cases b2 : (decide ((↑(UInt8.toNat (List.getD (Array.toList (ByteArray.data x0)) (Int.toNat v3) 0)) : Int) < 97)) = true
        · rw [if_pos b2] at h
          subst h
          exact AtV.ret Tryz.func127 tabOk ext127Ok mixed false [] tys127 [true, true, true, true] (a1 b0 (a1 s0 (a1 s1 (a1 trivial (a1 b1 (a1 s2 (a1 s3 (a1 b2 (a1 (rfl : true = true) trivial))))))))) (by kernel_rfl)
        · rw [if_neg b2] at h
          replace b2 := Bool.eq_false_iff.2 b2
          obtain ⟨s4, s5, h⟩ := h
          by_cases b3 : (decide ((↑(UInt8.toNat (List.getD (Array.toList (ByteArray.data x0)) (Int.toNat v3) 0)) : Int) > 122)) = true
          · rw [if_pos b3] at h
            subst h
            exact AtV.ret Tryz.func127 tabOk ext127Ok mixed false [] tys127 [true, true, false, true] (a1 b0 (a1 s0 (a1 s1 (a1 trivial (a1 b1 (a1 s2 (a1 s3 (a1 b2 (a1 s4 (a1 s5 (a1 b3 trivial))))))))))) (by kernel_rfl)
          · rw [if_neg b3] at h
            replace b3 := Bool.eq_false_iff.2 b3
            obtain ⟨s6, h⟩ := h
            exact AtV.go tabOk ext127Ok mixed false [] [] [0, 3] [] [true, true, false, false] (a1 b0 (a1 s0 (a1 s1 (a1 trivial (a1 b1 (a1 s2 (a1 s3 (a1 b2 (a1 s4 (a1 s5 (a1 b3 (a1 s6 trivial)))))))))))) (ih2 _ _ _ h K q) (by kernel_rfl)
      · rw [if_neg b1] at h
        replace b1 := Bool.eq_false_iff.2 b1
        obtain ⟨s2, h⟩ := h
        exact AtV.go tabOk ext127Ok mixed false [] [] [0, 3] [] [true, false, false] (a1 b0 (a1 s0 (a1 s1 (a1 trivial (a1 b1 (a1 (rfl : false = false) (a1 s2 trivial))))))) (ih2 _ _ _ h K q) (by kernel_rfl)
    · rw [if_neg b0] at h
      replace b0 := Bool.eq_false_iff.2 b0
      subst h
      exact AtV.ret Tryz.func127 tabOk ext127Ok mixed false [] tys127 [false] (a1 b0 trivial) (by kernel_rfl)
def ok127 (b : Int) : Bool := g125_0 b || (decide (97 ≤ b) && decide (b ≤ 122))
def g127_0 (x0 : ByteArray) : Bool := (bytesOf x0).all ok127 && decide ((x0.size : Int) > 0)
def P127 (x0 : ByteArray) : Prop := True
theorem top127 (x0 : ByteArray) (hw : Wf .str x0) : R127 (x0.size + 1 + 1) x0 [⟨.bool, g127_0 x0⟩] := by
  have hl := bytesOf_length x0
  rw [R127]
  have key := loop_test (bytesOf x0) 0 ok127 [(⟨.bool, false⟩ : Dyn)] [⟨.bool, decide ((x0.size : Int) > 0)⟩] (fun n i ds => R127_2 n i x0 ds) (fun n => ?_) (fun n i hi hok ds hr => ?_) (fun n i hi hok => ?_)
  · rw [hl] at key
    unfold g127_0
    cases h : (bytesOf x0).all ok127 <;> rw [h] at key <;> simpa using key
  · show R127_2 (n + 1) ((bytesOf x0).length : Int) x0 _
    rw [R127_2, hl, if_neg (by simp)]
  · have hu := inR_up (xs := bytesOf x0) (by rw [hl]; exact hw) hi
    rw [R127_2, if_pos (by simp; omega)]
    simp only [Int.toNat_natCast, byte_get]
    generalize (bytesOf x0).getD i 0 = c at *
    unfold ok127 at hok
    refine ⟨by omega, by omega, ?_⟩
    by_cases hd : g125_0 c = true
    · rw [if_neg (by rw [hd]; simp)]
      exact ⟨hu, hr⟩
    · rw [Bool.eq_false_iff.2 hd] at hok
      simp only [Bool.false_or, Bool.and_eq_true, decide_eq_true_eq] at hok
      rw [if_pos (by rw [Bool.eq_false_iff.2 hd]; rfl)]
      refine ⟨by omega, by omega, ?_⟩
      rw [if_neg (by simp only [decide_eq_true_eq]; omega)]
      refine ⟨by omega, by omega, ?_⟩
      rw [if_neg (by simp only [decide_eq_true_eq]; omega)]
      exact ⟨hu, hr⟩
  · rw [R127_2, if_pos (by simp; omega)]
    simp only [Int.toNat_natCast, byte_get]
    generalize (bytesOf x0).getD i 0 = c at *
    unfold ok127 at hok
    refine ⟨by omega, by omega, ?_⟩
    simp only [Bool.or_eq_false_iff] at hok
    obtain ⟨hd, h2⟩ := hok
    rw [if_pos (by rw [hd]; rfl)]
    refine ⟨by omega, by omega, ?_⟩
    by_cases h1 : c < 97
    · rw [if_pos (by simpa using h1)] <;> trivial
    · rw [if_neg (by simpa using h1)]
      refine ⟨by omega, by omega, ?_⟩
      rw [if_pos (by
        simp only [Bool.and_eq_false_iff, decide_eq_false_iff_not] at h2
        simp only [decide_eq_true_eq]; omega)] <;> trivial
def S127 : Am.Spec := { sig := sig127, pre := fun ⟨x0, _⟩ => P127 x0, res := fun ⟨x0, _⟩ => [⟨Ty.bool, g127_0 x0⟩] }
theorem con127 : Contract Tryz.prog 127 S127 := contract_of Tryz.func127 hb127 (Nat.le_of_ble_eq_true (by kernel_rfl)) (fun ⟨x0, _⟩ h hwf K q =>
  (snd127 _).1 x0 _ (top127 x0 hwf.1) K q)
end
noncomputable section
def ext109 : Ext := [(126, S126), (127, S127)]
theorem ext109Ok : ExtOk Tryz.prog ext109 := ⟨⟨ca126, con126⟩, ⟨ca127, con127⟩, trivial⟩
noncomputable def b109 : Code := bodyOf Tryz.f109
theorem hb109 : Tryz.f109.body = some b109 := by kernel_rfl
def sig109 : List AT := [AT.v (Ty.str)]
def tys109 : List Ty := [Ty.bool]
def kds109 : List RK := []
def oks109 : List AT := owns sig109
def E109_5 (v4 : Int) (x0 : ByteArray) : Env := [(3, PV.a (Atom.osl 0 Option.none)), (4, PV.a (Atom.val (Value.int .i64 v4)))]
def L109_5 (v4 : Int) (x0 : ByteArray) : Heap := [Option.some (Arr.mk Ty.str (g126_0 x0 32) false Option.none Option.none)]
mutual
def R109 : Nat → ByteArray → List Dyn → Prop
  | 0, _, _ => False
  | n + 1, x0, ds => (if ((↑(ByteArray.size x0) : Int) == 0) = true then (ds = [Dyn.mk Ty.bool false]) else (if (decide ((↑(ByteArray.size x0) : Int) > 40)) = true then (ds = [Dyn.mk Ty.bool false]) else ((P126 x0 32) ∧ (R109_5 n (0) (x0) ds))))
def R109_5 : Nat → Int → ByteArray → List Dyn → Prop
  | 0, _, _, _ => False
  | n + 1, v4, x0, ds => (if (decide (v4 < (↑(List.length (g126_0 x0 32)) : Int))) = true then ((0 ≤ v4) ∧ (v4 < (↑(List.length (g126_0 x0 32)) : Int)) ∧ (if (!g127_0 (List.getD (g126_0 x0 32) (Int.toNat v4) ByteArray.empty)) = true then (ds = [Dyn.mk Ty.bool false]) else ((InR .i64 (v4 + 1)) ∧ (R109_5 n (v4 + 1) (x0) ds)))) else (ds = [Dyn.mk Ty.bool true]))
end
theorem snd109 : ∀ n, (∀ (x0 : ByteArray) ds, R109 n x0 ds → ∀ K q, AtV Tryz.prog 109 (PostR kds109 oks109 ds [] [] q K) 27 K q [] [.code b109] (entE 0 0 sig109 (x0, ())) (entL sig109 (x0, ()))) ∧ (∀ (v4 : Int) (x0 : ByteArray) ds, R109_5 n v4 x0 ds → ∀ K q, AtV Tryz.prog 109 (PostR kds109 oks109 ds [] [] q K) 27 K q [] (cutAt b109 5) (E109_5 v4 x0) (L109_5 v4 x0)) := by
  intro n
  induction n with
  | zero => exact ⟨fun _ _ h => by simp only [R109] at h, fun _ _ _ h => by simp only [R109_5] at h⟩
  | succ n ih =>
  obtain ⟨ih, ih5⟩ := ih
  refine ⟨?_, ?_⟩
  · intro x0 ds h K q
    rw [R109] at h
    by_cases b0 : ((↑(ByteArray.size x0) : Int) == 0) = true
    · rw [if_pos b0] at h
      subst h
      exact AtV.ret Tryz.func109 tabOk ext109Ok mixed false [] tys109 [true, true] (a1 b0 (a1 (rfl : true = true) trivial)) (by kernel_rfl)
    · rw [if_neg b0] at h
      replace b0 := Bool.eq_false_iff.2 b0
      by_cases b1 : (decide ((↑(ByteArray.size x0) : Int) > 40)) = true
      · rw [if_pos b1] at h
        subst h
        exact AtV.ret Tryz.func109 tabOk ext109Ok mixed false [] tys109 [false, true] (a1 b0 (a1 b1 trivial)) (by kernel_rfl)
      · rw [if_neg b1] at h
        replace b1 := Bool.eq_false_iff.2 b1
        obtain ⟨s0, h⟩ := h
        exact AtV.go tabOk ext109Ok mixed false [] [] [3, 4] [0] [false, false] (a1 b0 (a1 b1 (a1 s0 trivial))) (ih5 _ _ _ h K q) (by kernel_rfl)
  · intro v4 x0 ds h K q
    rw [R109_5] at h
    by_cases b0 : (decide (v4 < (↑(List.length (g126_0 x0 32)) : Int))) = true
    · rw [if_pos b0] at h
      obtain ⟨s0, s1, h⟩ := h
      by_cases b1 : (!g127_0 (List.getD (g126_0 x0 32) (Int.toNat v4) ByteArray.empty)) = true
      · rw [if_pos b1] at h
        subst h
        exact AtV.ret Tryz.func109 tabOk ext109Ok mixed false [] tys109 [true, true] (a1 b0 (a1 s0 (a1 s1 (a1 trivial (a1 b1 trivial))))) (by kernel_rfl)
      · rw [if_neg b1] at h
        replace b1 := Bool.eq_false_iff.2 b1
        obtain ⟨s2, h⟩ := h
        exact AtV.go tabOk ext109Ok mixed false [] [] [3, 4] [0] [true, false] (a1 b0 (a1 s0 (a1 s1 (a1 trivial (a1 b1 (a1 s2 trivial)))))) (ih5 _ _ _ h K q) (by kernel_rfl)
    · rw [if_neg b0] at h
      replace b0 := Bool.eq_false_iff.2 b0
      subst h
      exact AtV.ret Tryz.func109 tabOk ext109Ok mixed false [] tys109 [false] (a1 b0 trivial) (by kernel_rfl)
def g109_0 (x0 : ByteArray) : Bool := !(((x0.size : Nat) : Int) == 0) && !decide (((x0.size : Nat) : Int) > 40) && (g126_0 x0 32).all g127_0
def P109 (x0 : ByteArray) : Prop := True
theorem top109 (x0 : ByteArray) : ∃ n, R109 n x0 [⟨.bool, g109_0 x0⟩] := by
  unfold g109_0
  by_cases h0 : (((x0.size : Nat) : Int) == 0) = true
  · refine ⟨1, ?_⟩
    rw [R109, if_pos h0, h0]; rfl
  by_cases h1 : ((x0.size : Nat) : Int) > 40
  · refine ⟨1, ?_⟩
    rw [R109, if_neg h0, if_pos (decide_eq_true h1), Bool.eq_false_iff.2 h0, decide_eq_true h1]; rfl
  · have hl : (g126_0 x0 32).length = x0.data.toList.count 32 + 1 := by
      show (bss (splitC (32 : UInt8) x0.data.toList)).length = _
      unfold bss
      rw [List.length_map, splitC_length]
    have hc : x0.data.toList.count (32 : UInt8) ≤ x0.size := List.count_le_length
    have hmx : 1000 ≤ maxLen := by decide
    have key := loop_test (g126_0 x0 32) ByteArray.empty g127_0 [(⟨.bool, false⟩ : Dyn)] [⟨.bool, true⟩] (fun n i ds => R109_5 n i x0 ds) (fun n => ?_) (fun n i hi hok ds hr => ?_) (fun n i hi hok => ?_)
    · refine ⟨(g126_0 x0 32).length + 1 + 1, ?_⟩
      rw [R109, if_neg h0, if_neg (by simpa using h1), Bool.eq_false_iff.2 h0, decide_eq_false h1]
      refine ⟨⟨by omega, by omega, by omega⟩, ?_⟩
      · cases h : (g126_0 x0 32).all g127_0 <;> rw [h] at key <;> exact key
    · rw [R109_5, if_neg (by simp)]
    · rw [R109_5, if_pos (by simp; omega)]
      simp only [Int.toNat_natCast]
      refine ⟨by omega, by omega, ?_⟩
      rw [if_neg (by rw [hok]; simp)]
      exact ⟨by rw [i64_iff]; omega, hr⟩
    · rw [R109_5, if_pos (by simp; omega)]
      simp only [Int.toNat_natCast]
      refine ⟨by omega, by omega, ?_⟩
      rw [if_pos (by rw [hok]; rfl)] <;> trivial
def S109 : Am.Spec := { sig := sig109, pre := fun ⟨x0, _⟩ => P109 x0, res := fun ⟨x0, _⟩ => [⟨Ty.bool, g109_0 x0⟩] }
theorem con109 : Contract Tryz.prog 109 S109 := contract_of Tryz.func109 hb109 (Nat.le_of_ble_eq_true (by kernel_rfl)) (fun ⟨x0, _⟩ h hwf K q =>
  let ⟨n, hn⟩ := top109 x0
  (snd109 n).1 x0 _ hn K q)
end
noncomputable section
def ext88 : Ext := [(83, S83), (79, S79), (109, S109)]
theorem ext88Ok : ExtOk Tryz.prog ext88 := ⟨⟨ca83, con83⟩, ⟨ca79, con79⟩, ⟨ca109, con109⟩, trivial⟩
noncomputable def b88 : Code := bodyOf Tryz.f88
theorem hb88 : Tryz.f88.body = some b88 := by kernel_rfl
def sig88 : List AT := [AT.p YA6]
def tys88 : List Ty := [Ty.bool]
def kds88 : List RK := []
def oks88 : List AT := owns sig88
def P88 (x0 : Int × Int × ByteArray × Int × Unit) : Prop := True
def g88_0 (x0 : Int × Int × ByteArray × Int × Unit) : Bool := (if (g83_0 x0.1) = true then (if (g79_0 x0.2.1 0 1439) = true then (if (g109_0 x0.2.2.1) = true then g79_0 x0.2.2.2.1 0 65535 else false) else false) else false)
theorem at88 (x0 : Int × Int × ByteArray × Int × Unit) (h : P88 x0) (K : Ctx) (q : Nat → Value) : AtV Tryz.prog 88 (PostR kds88 oks88 [⟨Ty.bool, g88_0 x0⟩] [] [] q K) 29 K q [] [.code b88] (entE 0 0 sig88 (x0, ())) (entL sig88 (x0, ())) := by
  unfold P88 at h
  unfold g88_0
  by_cases b0 : (g83_0 x0.1) = true
  · try simp only [if_pos b0] at h ⊢
    by_cases b1 : (g79_0 x0.2.1 0 1439) = true
    · try simp only [if_pos b1] at h ⊢
      by_cases b2 : (g109_0 x0.2.2.1) = true
      · try simp only [if_pos b2] at h ⊢
        exact AtV.ret Tryz.func88 tabOk ext88Ok mixed false [] tys88 [true, true, true] (a1 trivial (a1 b0 (a1 trivial (a1 b1 (a1 trivial (a1 b2 (a1 trivial trivial))))))) (by kernel_rfl)
      · try simp only [if_neg b2] at h ⊢
        replace b2 := Bool.eq_false_iff.2 b2
        exact AtV.ret Tryz.func88 tabOk ext88Ok mixed false [] tys88 [true, true, false] (a1 trivial (a1 b0 (a1 trivial (a1 b1 (a1 trivial (a1 b2 trivial)))))) (by kernel_rfl)
    · try simp only [if_neg b1] at h ⊢
      replace b1 := Bool.eq_false_iff.2 b1
      exact AtV.ret Tryz.func88 tabOk ext88Ok mixed false [] tys88 [true, false, false] (a1 trivial (a1 b0 (a1 trivial (a1 b1 (a1 (rfl : false = false) trivial))))) (by kernel_rfl)
  · try simp only [if_neg b0] at h ⊢
    replace b0 := Bool.eq_false_iff.2 b0
    exact AtV.ret Tryz.func88 tabOk ext88Ok mixed false [] tys88 [false, false, false] (a1 trivial (a1 b0 (a1 (rfl : false = false) (a1 (rfl : false = false) trivial)))) (by kernel_rfl)
def S88 : Am.Spec := { sig := sig88, pre := fun ⟨x0, _⟩ => P88 x0, res := fun ⟨x0, _⟩ => [⟨Ty.bool, g88_0 x0⟩], kds := kds88 }
theorem con88 : Contract Tryz.prog 88 S88 := contract_of Tryz.func88 hb88 (Nat.le_of_ble_eq_true (by kernel_rfl)) (fun ⟨x0, _⟩ h _ K q => at88 x0 h K q)
end
noncomputable section
def ext57 : Ext := [(88, S88)]
theorem ext57Ok : ExtOk Tryz.prog ext57 := ⟨⟨ca88, con88⟩, trivial⟩
noncomputable def b57 : Code := bodyOf Tryz.f57
theorem hb57 : Tryz.f57.body = some b57 := by kernel_rfl
def sig57 : List AT := [AT.v (Ty.sl YA6)]
def tys57 : List Ty := [Ty.bool]
def kds57 : List RK := []
def oks57 : List AT := owns sig57
def E57_2 (v3 : Int) (x0 : List TyB2) : Env := [(0, PV.a (Atom.sl YA6 x0)), (3, PV.a (Atom.val (Value.int .i64 v3)))]
def L57_2 (v3 : Int) (x0 : List TyB2) : Heap := []
mutual
def R57 : Nat → List TyB2 → List Dyn → Prop
  | 0, _, _ => False
  | n + 1, x0, ds => (R57_2 n (0) (x0) ds)
def R57_2 : Nat → Int → List TyB2 → List Dyn → Prop
  | 0, _, _, _ => False
  | n + 1, v3, x0, ds => (if (decide (v3 < (↑(List.length x0) : Int))) = true then ((0 ≤ v3) ∧ (v3 < (↑(List.length x0) : Int)) ∧ (if (!g88_0 (List.getD x0 (Int.toNat v3) (0, 0, ByteArray.empty, 0, ()))) = true then (ds = [Dyn.mk Ty.bool false]) else (if (decide (v3 > 0)) = true then ((InR .i64 (v3 - 1)) ∧ ((0 ≤ v3 - 1) ∧ (v3 - 1 < (↑(List.length x0) : Int)) ∧ (if (decide ((List.getD x0 (Int.toNat (v3 - 1)) (0, 0, ByteArray.empty, 0, ())).1 > (List.getD x0 (Int.toNat v3) (0, 0, ByteArray.empty, 0, ())).1)) = true then (ds = [Dyn.mk Ty.bool false]) else ((InR .i64 (v3 - 1)) ∧ ((0 ≤ v3 - 1) ∧ (v3 - 1 < (↑(List.length x0) : Int)) ∧ (if ((List.getD x0 (Int.toNat (v3 - 1)) (0, 0, ByteArray.empty, 0, ())).1 == (List.getD x0 (Int.toNat v3) (0, 0, ByteArray.empty, 0, ())).1) = true then ((InR .i64 (v3 - 1)) ∧ ((0 ≤ v3 - 1) ∧ (v3 - 1 < (↑(List.length x0) : Int)) ∧ (if (decide ((List.getD x0 (Int.toNat (v3 - 1)) (0, 0, ByteArray.empty, 0, ())).2.1 > (List.getD x0 (Int.toNat v3) (0, 0, ByteArray.empty, 0, ())).2.1)) = true then (ds = [Dyn.mk Ty.bool false]) else ((InR .i64 (v3 + 1)) ∧ (R57_2 n (v3 + 1) (x0) ds))))) else ((InR .i64 (v3 + 1)) ∧ (R57_2 n (v3 + 1) (x0) ds)))))))) else ((InR .i64 (v3 + 1)) ∧ (R57_2 n (v3 + 1) (x0) ds))))) else (ds = [Dyn.mk Ty.bool (decide ((↑(List.length x0) : Int) ≤ 40))]))
end
theorem snd57 : ∀ n, (∀ (x0 : List TyB2) ds, R57 n x0 ds → ∀ K q, AtV Tryz.prog 57 (PostR kds57 oks57 ds [] [] q K) 61 K q [] [.code b57] (entE 0 0 sig57 (x0, ())) (entL sig57 (x0, ()))) ∧ (∀ (v3 : Int) (x0 : List TyB2) ds, R57_2 n v3 x0 ds → ∀ K q, AtV Tryz.prog 57 (PostR kds57 oks57 ds [] [] q K) 61 K q [] (cutAt b57 2) (E57_2 v3 x0) (L57_2 v3 x0)) := by
  intro n
  induction n with
  | zero => exact ⟨fun _ _ h => by simp only [R57] at h, fun _ _ _ h => by simp only [R57_2] at h⟩
  | succ n ih =>
  obtain ⟨ih, ih2⟩ := ih
  refine ⟨?_, ?_⟩
  · intro x0 ds h K q
    rw [R57] at h
    exact AtV.go tabOk ext57Ok mixed false [] [] [0, 3] [] [] trivial (ih2 _ _ _ h K q) (by kernel_rfl)
  · intro v3 x0 ds h K q
    rw [R57_2] at h
    by_cases b0 : (decide (v3 < (↑(List.length x0) : Int))) = true
    · rw [if_pos b0] at h
      obtain ⟨s0, s1, h⟩ := h
      by_cases b1 : (!g88_0 (List.getD x0 (Int.toNat v3) (0, 0, ByteArray.empty, 0, ()))) = true
      · rw [if_pos b1] at h
        subst h
        exact AtV.ret Tryz.func57 tabOk ext57Ok mixed false [] tys57 [true, true] (a1 b0 (a1 s0 (a1 s1 (a1 trivial (a1 b1 trivial))))) (by kernel_rfl)
      · rw [if_neg b1] at h
        replace b1 := Bool.eq_false_iff.2 b1
        by_cases b2 : (decide (v3 > 0)) = true
        · rw [if_pos b2] at h
          obtain ⟨s2, h⟩ := h
          obtain ⟨s3, s4, h⟩ := h
          by_cases b3 : (decide ((List.getD x0 (Int.toNat (v3 - 1)) (0, 0, ByteArray.empty, 0, ())).1 > (List.getD x0 (Int.toNat v3) (0, 0, ByteArray.empty, 0, ())).1)) = true
          · rw [if_pos b3] at h
            subst h
            exact AtV.ret Tryz.func57 tabOk ext57Ok mixed false [] tys57 [true, false, true, true, true] (a1 b0 (a1 s0 (a1 s1 (a1 trivial (a1 b1 (a1 b2 (a1 s2 (a1 s3 (a1 s4 (a1 b3 (a1 (rfl : true = true) trivial))))))))))) (by kernel_rfl)
          · rw [if_neg b3] at h
            replace b3 := Bool.eq_false_iff.2 b3
            obtain ⟨s5, h⟩ := h
            obtain ⟨s6, s7, h⟩ := h
            by_cases b4 : ((List.getD x0 (Int.toNat (v3 - 1)) (0, 0, ByteArray.empty, 0, ())).1 == (List.getD x0 (Int.toNat v3) (0, 0, ByteArray.empty, 0, ())).1) = true
            · rw [if_pos b4] at h
              obtain ⟨s8, h⟩ := h
              obtain ⟨s9, s10, h⟩ := h
              by_cases b5 : (decide ((List.getD x0 (Int.toNat (v3 - 1)) (0, 0, ByteArray.empty, 0, ())).2.1 > (List.getD x0 (Int.toNat v3) (0, 0, ByteArray.empty, 0, ())).2.1)) = true
              · rw [if_pos b5] at h
                subst h
                exact AtV.ret Tryz.func57 tabOk ext57Ok mixed false [] tys57 [true, false, true, false, true, true] (a1 b0 (a1 s0 (a1 s1 (a1 trivial (a1 b1 (a1 b2 (a1 s2 (a1 s3 (a1 s4 (a1 b3 (a1 s5 (a1 s6 (a1 s7 (a1 b4 (a1 s8 (a1 s9 (a1 s10 (a1 b5 trivial)))))))))))))))))) (by kernel_rfl)
              · rw [if_neg b5] at h
                replace b5 := Bool.eq_false_iff.2 b5
                obtain ⟨s11, h⟩ := h
                exact AtV.go tabOk ext57Ok mixed false [] [] [0, 3] [] [true, false, true, false, true, false] (a1 b0 (a1 s0 (a1 s1 (a1 trivial (a1 b1 (a1 b2 (a1 s2 (a1 s3 (a1 s4 (a1 b3 (a1 s5 (a1 s6 (a1 s7 (a1 b4 (a1 s8 (a1 s9 (a1 s10 (a1 b5 (a1 s11 trivial))))))))))))))))))) (ih2 _ _ _ h K q) (by kernel_rfl)
            · rw [if_neg b4] at h
              replace b4 := Bool.eq_false_iff.2 b4
              obtain ⟨s8, h⟩ := h
              exact AtV.go tabOk ext57Ok mixed false [] [] [0, 3] [] [true, false, true, false, false, false] (a1 b0 (a1 s0 (a1 s1 (a1 trivial (a1 b1 (a1 b2 (a1 s2 (a1 s3 (a1 s4 (a1 b3 (a1 s5 (a1 s6 (a1 s7 (a1 b4 (a1 (rfl : false = false) (a1 s8 trivial)))))))))))))))) (ih2 _ _ _ h K q) (by kernel_rfl)
        · rw [if_neg b2] at h
          replace b2 := Bool.eq_false_iff.2 b2
          obtain ⟨s2, h⟩ := h
          exact AtV.go tabOk ext57Ok mixed false [] [] [0, 3] [] [true, false, false, false] (a1 b0 (a1 s0 (a1 s1 (a1 trivial (a1 b1 (a1 b2 (a1 (rfl : false = false) (a1 s2 trivial)))))))) (ih2 _ _ _ h K q) (by kernel_rfl)
    · rw [if_neg b0] at h
      replace b0 := Bool.eq_false_iff.2 b0
      subst h
      exact AtV.ret Tryz.func57 tabOk ext57Ok mixed false [] tys57 [false] (a1 b0 trivial) (by kernel_rfl)
def bad57 (y x : TyB2) : Bool := if decide (y.1 > x.1) = true then true else (if (y.1 == x.1) = true then decide (y.2.1 > x.2.1) else false)
def ok57 (x0 : List TyB2) (i : Nat) (x : TyB2) : Bool := g88_0 x && (i == 0 || !bad57 (x0.getD (i - 1) ((0 : Int), (0 : Int), ByteArray.empty, (0 : Int), ())) x)
def g57_0 (x0 : List TyB2) : Bool := allI (ok57 x0) 0 x0 && decide ((x0.length : Int) ≤ 40)
def P57 (x0 : List TyB2) : Prop := True
theorem step57 (n i : Nat) (x0 : List TyB2) (hm : x0.length ≤ maxLen) (hi : i < x0.length) (ds : List Dyn)
    (h : if ok57 x0 i (x0.getD i ((0 : Int), (0 : Int), ByteArray.empty, (0 : Int), ())) = true then R57_2 n ((i : Int) + 1) x0 ds else ds = [⟨.bool, false⟩]) : R57_2 (n + 1) (i : Int) x0 ds := by
  have hu := inR_up hm hi
  have hmx : maxLen ≤ 9223372036854775807 := by decide
  rw [R57_2, if_pos (by simp only [decide_eq_true_eq]; omega)]
  simp only [Int.toNat_natCast]
  refine ⟨by omega, by omega, ?_⟩
  unfold ok57 at h
  by_cases hv : g88_0 (x0.getD i ((0 : Int), (0 : Int), ByteArray.empty, (0 : Int), ())) = true
  case neg => rw [Bool.eq_false_iff.2 hv] at h; rw [if_pos (by rw [Bool.eq_false_iff.2 hv]; rfl)]; simpa using h
  rw [if_neg (by rw [hv]; simp)]
  rw [hv] at h
  by_cases h0 : (i : Int) > 0
  case neg =>
    rw [if_neg (by simpa using h0)]
    have hi0 : (i == 0) = true := by simp; omega
    rw [hi0] at h
    exact ⟨hu, by simpa using h⟩
  rw [if_pos (by simpa using h0)]
  have hi0 : (i == 0) = false := by simp; omega
  have e : ((i : Int) - 1).toNat = i - 1 := by omega
  have hd : InR .i64 ((i : Int) - 1) := by rw [i64_iff]; omega
  rw [hi0] at h
  simp only [e]
  refine ⟨hd, by omega, by omega, ?_⟩
  by_cases c0 : (x0.getD (i - 1) ((0 : Int), (0 : Int), ByteArray.empty, (0 : Int), ())).1 > (x0.getD i ((0 : Int), (0 : Int), ByteArray.empty, (0 : Int), ())).1
  · rw [if_pos (decide_eq_true c0)]
    have : bad57 (x0.getD (i - 1) ((0 : Int), (0 : Int), ByteArray.empty, (0 : Int), ())) (x0.getD i ((0 : Int), (0 : Int), ByteArray.empty, (0 : Int), ())) = true := by unfold bad57; rw [if_pos (decide_eq_true c0)]
    rw [this] at h
    simpa using h
  · rw [if_neg (by simpa using c0)]
    refine ⟨hd, by omega, by omega, ?_⟩
    by_cases c1 : ((x0.getD (i - 1) ((0 : Int), (0 : Int), ByteArray.empty, (0 : Int), ())).1 == (x0.getD i ((0 : Int), (0 : Int), ByteArray.empty, (0 : Int), ())).1) = true
    · rw [if_pos c1]
      refine ⟨hd, by omega, by omega, ?_⟩
      have eb : bad57 (x0.getD (i - 1) ((0 : Int), (0 : Int), ByteArray.empty, (0 : Int), ())) (x0.getD i ((0 : Int), (0 : Int), ByteArray.empty, (0 : Int), ())) = decide ((x0.getD (i - 1) ((0 : Int), (0 : Int), ByteArray.empty, (0 : Int), ())).2.1 > (x0.getD i ((0 : Int), (0 : Int), ByteArray.empty, (0 : Int), ())).2.1) := by unfold bad57; rw [if_neg (by simpa using c0), if_pos c1]
      rw [eb] at h
      by_cases c2 : (x0.getD (i - 1) ((0 : Int), (0 : Int), ByteArray.empty, (0 : Int), ())).2.1 > (x0.getD i ((0 : Int), (0 : Int), ByteArray.empty, (0 : Int), ())).2.1
      · rw [if_pos (decide_eq_true c2)]
        rw [decide_eq_true c2] at h
        simpa using h
      · rw [if_neg (by simpa using c2)]
        rw [decide_eq_false c2] at h
        exact ⟨hu, by simpa using h⟩
    · rw [if_neg c1]
      have eb : bad57 (x0.getD (i - 1) ((0 : Int), (0 : Int), ByteArray.empty, (0 : Int), ())) (x0.getD i ((0 : Int), (0 : Int), ByteArray.empty, (0 : Int), ())) = false := by unfold bad57; rw [if_neg (by simpa using c0), if_neg c1]
      rw [eb] at h
      exact ⟨hu, by simpa using h⟩
theorem top57 (x0 : List TyB2) (hw : x0.length ≤ maxLen) : R57 (x0.length + 1 + 1) x0 [⟨.bool, g57_0 x0⟩] := by
  rw [R57]
  have key := loop_testI x0 ((0 : Int), (0 : Int), ByteArray.empty, (0 : Int), ()) (ok57 x0) [(⟨.bool, false⟩ : Dyn)] [⟨.bool, decide ((x0.length : Int) ≤ 40)⟩] (fun n i ds => R57_2 n i x0 ds) (fun n => ?_) (fun n i hi hok ds hr => ?_) (fun n i hi hok => ?_)
  · unfold g57_0
    cases h : allI (ok57 x0) 0 x0 with
    | true => rw [if_pos h] at key; simpa using key
    | false => rw [if_neg (by rw [h]; simp)] at key; simpa using key
  · rw [R57_2, if_neg (by simp)]
  · exact step57 n i x0 hw hi ds (by rw [if_pos hok]; exact hr)
  · exact step57 n i x0 hw hi _ (by rw [if_neg (by rw [hok]; simp)])
def S57 : Am.Spec := { sig := sig57, pre := fun ⟨x0, _⟩ => P57 x0, res := fun ⟨x0, _⟩ => [⟨Ty.bool, g57_0 x0⟩] }
theorem con57 : Contract Tryz.prog 57 S57 := contract_of Tryz.func57 hb57 (Nat.le_of_ble_eq_true (by kernel_rfl)) (fun ⟨x0, _⟩ h hwf K q =>
  (snd57 _).1 x0 _ (top57 x0 hwf.1.1) K q)
end
noncomputable section
def ext18 : Ext := [(49, S49), (50, S50), (51, S51), (52, S52), (53, S53), (54, S54), (55, S55), (56, S56), (57, S57)]
theorem ext18Ok : ExtOk Tryz.prog ext18 := ⟨⟨ca49, con49⟩, ⟨ca50, con50⟩, ⟨ca51, con51⟩, ⟨ca52, con52⟩, ⟨ca53, con53⟩, ⟨ca54, con54⟩, ⟨ca55, con55⟩, ⟨ca56, con56⟩, ⟨ca57, con57⟩, trivial⟩
noncomputable def b18 : Code := bodyOf Tryz.f18
theorem hb18 : Tryz.f18.body = some b18 := by kernel_rfl
def sig18 : List AT := [AT.p YA0]
def tys18 : List Ty := [Ty.bool]
def kds18 : List RK := []
def oks18 : List AT := owns sig18
def P18 (x0 : TyA0) : Prop := True
def g18_0 (x0 : TyA0) : Bool := (if (!g49_0 x0.1) = true then false else (if (!g50_0 x0.2.1) = true then false else (if (!g51_0 x0.2.2.1) = true then false else (if (!g52_0 x0.2.2.2.1) = true then false else (if (!g53_0 x0.2.2.2.2.1) = true then false else (if (!g54_0 x0.2.2.2.2.2.1) = true then false else (if (g55_0 x0.2.2.2.2.2.2.1 x0.2.2.2.2.2.2.2.1 x0.2.2.2.2.2.2.2.2.1 != 0) = true then false else (if (g56_0 x0.2.2.2.2.2.2.2.2.2.1 x0.2.2.2.2.2.2.2.2.2.2.1 == 0) = true then g57_0 x0.2.2.2.2.2.2.2.2.2.2.2.1 else false))))))))
theorem at18 (x0 : TyA0) (h : P18 x0) (K : Ctx) (q : Nat → Value) : AtV Tryz.prog 18 (PostR kds18 oks18 [⟨Ty.bool, g18_0 x0⟩] [] [] q K) 76 K q [] [.code b18] (entE 0 0 sig18 (x0, ())) (entL sig18 (x0, ())) := by
  unfold P18 at h
  unfold g18_0
  by_cases b0 : (!g49_0 x0.1) = true
  · try simp only [if_pos b0] at h ⊢
    exact AtV.ret Tryz.func18 tabOk ext18Ok mixed false [] tys18 [true, true, true, true] (a1 trivial (a1 b0 (a1 (rfl : true = true) (a1 (rfl : true = true) (a1 (rfl : true = true) trivial))))) (by kernel_rfl)
  · try simp only [if_neg b0] at h ⊢
    replace b0 := Bool.eq_false_iff.2 b0
    by_cases b1 : (!g50_0 x0.2.1) = true
    · try simp only [if_pos b1] at h ⊢
      exact AtV.ret Tryz.func18 tabOk ext18Ok mixed false [] tys18 [false, true, true, true] (a1 trivial (a1 b0 (a1 trivial (a1 b1 (a1 (rfl : true = true) (a1 (rfl : true = true) trivial)))))) (by kernel_rfl)
    · try simp only [if_neg b1] at h ⊢
      replace b1 := Bool.eq_false_iff.2 b1
      by_cases b2 : (!g51_0 x0.2.2.1) = true
      · try simp only [if_pos b2] at h ⊢
        exact AtV.ret Tryz.func18 tabOk ext18Ok mixed false [] tys18 [false, false, true, true] (a1 trivial (a1 b0 (a1 trivial (a1 b1 (a1 trivial (a1 b2 (a1 (rfl : true = true) trivial))))))) (by kernel_rfl)
      · try simp only [if_neg b2] at h ⊢
        replace b2 := Bool.eq_false_iff.2 b2
        by_cases b3 : (!g52_0 x0.2.2.2.1) = true
        · try simp only [if_pos b3] at h ⊢
          exact AtV.ret Tryz.func18 tabOk ext18Ok mixed false [] tys18 [false, false, false, true] (a1 trivial (a1 b0 (a1 trivial (a1 b1 (a1 trivial (a1 b2 (a1 trivial (a1 b3 trivial)))))))) (by kernel_rfl)
        · try simp only [if_neg b3] at h ⊢
          replace b3 := Bool.eq_false_iff.2 b3
          by_cases b4 : (!g53_0 x0.2.2.2.2.1) = true
          · try simp only [if_pos b4] at h ⊢
            exact AtV.ret Tryz.func18 tabOk ext18Ok mixed false [] tys18 [false, false, false, false, true, true, true] (a1 trivial (a1 b0 (a1 trivial (a1 b1 (a1 trivial (a1 b2 (a1 trivial (a1 b3 (a1 trivial (a1 b4 (a1 (rfl : true = true) (a1 (rfl : true = true) trivial)))))))))))) (by kernel_rfl)
          · try simp only [if_neg b4] at h ⊢
            replace b4 := Bool.eq_false_iff.2 b4
            by_cases b5 : (!g54_0 x0.2.2.2.2.2.1) = true
            · try simp only [if_pos b5] at h ⊢
              exact AtV.ret Tryz.func18 tabOk ext18Ok mixed false [] tys18 [false, false, false, false, false, true, true] (a1 trivial (a1 b0 (a1 trivial (a1 b1 (a1 trivial (a1 b2 (a1 trivial (a1 b3 (a1 trivial (a1 b4 (a1 trivial (a1 b5 (a1 (rfl : true = true) trivial))))))))))))) (by kernel_rfl)
            · try simp only [if_neg b5] at h ⊢
              replace b5 := Bool.eq_false_iff.2 b5
              by_cases b6 : (g55_0 x0.2.2.2.2.2.2.1 x0.2.2.2.2.2.2.2.1 x0.2.2.2.2.2.2.2.2.1 != 0) = true
              · try simp only [if_pos b6] at h ⊢
                exact AtV.ret Tryz.func18 tabOk ext18Ok mixed false [] tys18 [false, false, false, false, false, false, true] (a1 trivial (a1 b0 (a1 trivial (a1 b1 (a1 trivial (a1 b2 (a1 trivial (a1 b3 (a1 trivial (a1 b4 (a1 trivial (a1 b5 (a1 trivial (a1 b6 trivial)))))))))))))) (by kernel_rfl)
              · try simp only [if_neg b6] at h ⊢
                replace b6 := Bool.eq_false_iff.2 b6
                by_cases b7 : (g56_0 x0.2.2.2.2.2.2.2.2.2.1 x0.2.2.2.2.2.2.2.2.2.2.1 == 0) = true
                · try simp only [if_pos b7] at h ⊢
                  exact AtV.ret Tryz.func18 tabOk ext18Ok mixed false [] tys18 [false, false, false, false, false, false, false, true] (a1 trivial (a1 b0 (a1 trivial (a1 b1 (a1 trivial (a1 b2 (a1 trivial (a1 b3 (a1 trivial (a1 b4 (a1 trivial (a1 b5 (a1 trivial (a1 b6 (a1 trivial (a1 b7 (a1 trivial trivial))))))))))))))))) (by kernel_rfl)
                · try simp only [if_neg b7] at h ⊢
                  replace b7 := Bool.eq_false_iff.2 b7
                  exact AtV.ret Tryz.func18 tabOk ext18Ok mixed false [] tys18 [false, false, false, false, false, false, false, false] (a1 trivial (a1 b0 (a1 trivial (a1 b1 (a1 trivial (a1 b2 (a1 trivial (a1 b3 (a1 trivial (a1 b4 (a1 trivial (a1 b5 (a1 trivial (a1 b6 (a1 trivial (a1 b7 trivial)))))))))))))))) (by kernel_rfl)
def S18 : Am.Spec := { sig := sig18, pre := fun ⟨x0, _⟩ => P18 x0, res := fun ⟨x0, _⟩ => [⟨Ty.bool, g18_0 x0⟩], kds := kds18 }
theorem con18 : Contract Tryz.prog 18 S18 := contract_of Tryz.func18 hb18 (Nat.le_of_ble_eq_true (by kernel_rfl)) (fun ⟨x0, _⟩ h _ K q => at18 x0 h K q)
end
noncomputable section
def ext60 : Ext := []
theorem ext60Ok : ExtOk Tryz.prog ext60 := trivial
noncomputable def b60 : Code := bodyOf Tryz.f60
theorem hb60 : Tryz.f60.body = some b60 := by kernel_rfl
def sig60 : List AT := [AT.p YA5]
def tys60 : List Ty := [Ty.int .i64]
def kds60 : List RK := []
def oks60 : List AT := owns sig60
def P60 (x0 : ByteArray × Int × Int × Int × Unit) : Prop := ((InR .i64 (x0.2.1 * 75)) ∧ ((InR .i64 (x0.2.2.1 * 15)) ∧ ((InR .i64 (x0.2.1 * 75 + x0.2.2.1 * 15)) ∧ ((InR .i64 (x0.2.1 * 75 + x0.2.2.1 * 15 + x0.2.2.2.1)) ∧ True))))
def g60_0 (x0 : ByteArray × Int × Int × Int × Unit) : Int := x0.2.1 * 75 + x0.2.2.1 * 15 + x0.2.2.2.1
theorem at60 (x0 : ByteArray × Int × Int × Int × Unit) (h : P60 x0) (K : Ctx) (q : Nat → Value) : AtV Tryz.prog 60 (PostR kds60 oks60 [⟨Ty.int .i64, g60_0 x0⟩] [] [] q K) 19 K q [] [.code b60] (entE 0 0 sig60 (x0, ())) (entL sig60 (x0, ())) := by
  unfold P60 at h
  unfold g60_0
  obtain ⟨s0, h⟩ := h
  obtain ⟨s1, h⟩ := h
  obtain ⟨s2, h⟩ := h
  obtain ⟨s3, h⟩ := h
  exact AtV.ret Tryz.func60 tabOk ext60Ok mixed false [] tys60 [] (a1 s0 (a1 s1 (a1 s2 (a1 s3 trivial)))) (by kernel_rfl)
def S60 : Am.Spec := { sig := sig60, pre := fun ⟨x0, _⟩ => P60 x0, res := fun ⟨x0, _⟩ => [⟨Ty.int .i64, g60_0 x0⟩], kds := kds60 }
theorem con60 : Contract Tryz.prog 60 S60 := contract_of Tryz.func60 hb60 (Nat.le_of_ble_eq_true (by kernel_rfl)) (fun ⟨x0, _⟩ h _ K q => at60 x0 h K q)
end
noncomputable section
def ext58 : Ext := [(60, S60)]
theorem ext58Ok : ExtOk Tryz.prog ext58 := ⟨⟨ca60, con60⟩, trivial⟩
noncomputable def b58 : Code := bodyOf Tryz.f58
theorem hb58 : Tryz.f58.body = some b58 := by kernel_rfl
def sig58 : List AT := [AT.v (Ty.sl YA5), AT.v (Ty.sl (Ty.int .i64)), AT.p YA7]
def tys58 : List Ty := [Ty.bool]
def kds58 : List RK := []
def oks58 : List AT := owns sig58
def E58_5 (v7 : Int) (v8 : Int) (v9 : Int) (v10 : Int) (x0 : List TyB1) (x1 : List Int) (x2 : Int × Int × Int × Unit) : Env := [(0, PV.a (Atom.sl YA5 x0)), (1, PV.a (Atom.sl (Ty.int .i64) x1)), (2, PV.a (Atom.ptr YA7 x2)), (7, PV.a (Atom.val (Value.int .i64 v7))), (8, PV.a (Atom.val (Value.int .i64 v8))), (9, PV.a (Atom.val (Value.int .i64 v9))), (10, PV.a (Atom.val (Value.int .i64 v10)))]
def L58_5 (v7 : Int) (v8 : Int) (v9 : Int) (v10 : Int) (x0 : List TyB1) (x1 : List Int) (x2 : Int × Int × Int × Unit) : Heap := []
mutual
def R58 : Nat → List TyB1 → List Int → Int × Int × Int × Unit → List Dyn → Prop
  | 0, _, _, _, _ => False
  | n + 1, x0, x1, x2, ds => (R58_5 n (0) (0) (0) (0) (x0) (x1) (x2) ds)
def R58_5 : Nat → Int → Int → Int → Int → List TyB1 → List Int → Int × Int × Int × Unit → List Dyn → Prop
  | 0, _, _, _, _, _, _, _, _ => False
  | n + 1, v7, v8, v9, v10, x0, x1, x2, ds => (if (decide (v10 < (↑(List.length x1) : Int))) = true then ((0 ≤ v10) ∧ (v10 < (↑(List.length x1) : Int)) ∧ ((0 ≤ List.getD x1 (Int.toNat v10) 0) ∧ (List.getD x1 (Int.toNat v10) 0 < (↑(List.length x0) : Int)) ∧ ((InR .i64 (v7 + (List.getD x0 (Int.toNat (List.getD x1 (Int.toNat v10) 0)) (ByteArray.empty, 0, 0, 0, ())).2.1)) ∧ ((InR .i64 (v8 + (List.getD x0 (Int.toNat (List.getD x1 (Int.toNat v10) 0)) (ByteArray.empty, 0, 0, 0, ())).2.2.1)) ∧ ((P60 (List.getD x0 (Int.toNat (List.getD x1 (Int.toNat v10) 0)) (ByteArray.empty, 0, 0, 0, ()))) ∧ ((InR .i64 (v9 + g60_0 (List.getD x0 (Int.toNat (List.getD x1 (Int.toNat v10) 0)) (ByteArray.empty, 0, 0, 0, ())))) ∧ ((InR .i64 (v10 + 1)) ∧ (R58_5 n (v7 + (List.getD x0 (Int.toNat (List.getD x1 (Int.toNat v10) 0)) (ByteArray.empty, 0, 0, 0, ())).2.1) (v8 + (List.getD x0 (Int.toNat (List.getD x1 (Int.toNat v10) 0)) (ByteArray.empty, 0, 0, 0, ())).2.2.1) (v9 + g60_0 (List.getD x0 (Int.toNat (List.getD x1 (Int.toNat v10) 0)) (ByteArray.empty, 0, 0, 0, ()))) (v10 + 1) (x0) (x1) (x2) ds)))))))) else (if (decide (v7 ≤ x2.1)) = true then (if (decide (v8 ≤ x2.2.1)) = true then (ds = [Dyn.mk Ty.bool (decide (v9 ≤ x2.2.2.1))]) else (ds = [Dyn.mk Ty.bool false])) else (ds = [Dyn.mk Ty.bool false])))
end
theorem snd58 : ∀ n, (∀ (x0 : List TyB1) (x1 : List Int) (x2 : Int × Int × Int × Unit) ds, R58 n x0 x1 x2 ds → ∀ K q, AtV Tryz.prog 58 (PostR kds58 oks58 ds [] [] q K) 58 K q [] [.code b58] (entE 0 0 sig58 (x0, x1, x2, ())) (entL sig58 (x0, x1, x2, ()))) ∧ (∀ (v7 : Int) (v8 : Int) (v9 : Int) (v10 : Int) (x0 : List TyB1) (x1 : List Int) (x2 : Int × Int × Int × Unit) ds, R58_5 n v7 v8 v9 v10 x0 x1 x2 ds → ∀ K q, AtV Tryz.prog 58 (PostR kds58 oks58 ds [] [] q K) 58 K q [] (cutAt b58 5) (E58_5 v7 v8 v9 v10 x0 x1 x2) (L58_5 v7 v8 v9 v10 x0 x1 x2)) := by
  intro n
  induction n with
  | zero => exact ⟨fun _ _ _ _ h => by simp only [R58] at h, fun _ _ _ _ _ _ _ _ h => by simp only [R58_5] at h⟩
  | succ n ih =>
  obtain ⟨ih, ih5⟩ := ih
  refine ⟨?_, ?_⟩
  · intro x0 x1 x2 ds h K q
    rw [R58] at h
    exact AtV.go tabOk ext58Ok mixed false [] [] [0, 1, 2, 7, 8, 9, 10] [] [] trivial (ih5 _ _ _ _ _ _ _ _ h K q) (by kernel_rfl)
  · intro v7 v8 v9 v10 x0 x1 x2 ds h K q
    rw [R58_5] at h
    by_cases b0 : (decide (v10 < (↑(List.length x1) : Int))) = true
    · rw [if_pos b0] at h
      obtain ⟨s0, s1, h⟩ := h
      obtain ⟨s2, s3, h⟩ := h
      obtain ⟨s4, h⟩ := h
      obtain ⟨s5, h⟩ := h
      obtain ⟨s6, h⟩ := h
      obtain ⟨s7, h⟩ := h
      obtain ⟨s8, h⟩ := h
      exact AtV.go tabOk ext58Ok mixed false [] [] [0, 1, 2, 7, 8, 9, 10] [] [true] (a1 b0 (a1 s0 (a1 s1 (a1 s2 (a1 s3 (a1 s4 (a1 s5 (a1 s6 (a1 s7 (a1 s8 trivial)))))))))) (ih5 _ _ _ _ _ _ _ _ h K q) (by kernel_rfl)
    · rw [if_neg b0] at h
      replace b0 := Bool.eq_false_iff.2 b0
      by_cases b1 : (decide (v7 ≤ x2.1)) = true
      · rw [if_pos b1] at h
        by_cases b2 : (decide (v8 ≤ x2.2.1)) = true
        · rw [if_pos b2] at h
          subst h
          exact AtV.ret Tryz.func58 tabOk ext58Ok mixed false [] tys58 [false, true, true] (a1 b0 (a1 b1 (a1 b2 trivial))) (by kernel_rfl)
        · rw [if_neg b2] at h
          replace b2 := Bool.eq_false_iff.2 b2
          subst h
          exact AtV.ret Tryz.func58 tabOk ext58Ok mixed false [] tys58 [false, true, false] (a1 b0 (a1 b1 (a1 b2 trivial))) (by kernel_rfl)
      · rw [if_neg b1] at h
        replace b1 := Bool.eq_false_iff.2 b1
        subst h
        exact AtV.ret Tryz.func58 tabOk ext58Ok mixed false [] tys58 [false, false, false] (a1 b0 (a1 b1 (a1 (rfl : false = false) trivial))) (by kernel_rfl)
def fit58 (x : ByteArray × Int × Int × Int × Unit) (x2 : Int × Int × Int × Unit) : Bool := if decide (x.2.1 ≤ x2.1) = true then (if decide (x.2.2.1 ≤ x2.2.1) = true then decide (g60_0 x ≤ x2.2.2.1) else false) else false
def g58_0 (x0 : List TyB1) (x1 : List Int) (x2 : Int × Int × Int × Unit) : Bool := match x1 with
  | [j] => fit58 (x0.getD j.toNat (ByteArray.empty, (0 : Int), (0 : Int), (0 : Int), ())) x2
  | _ => false
def P58 (x0 : List TyB1) (x1 : List Int) (x2 : Int × Int × Int × Unit) : Prop := ∃ j, x1 = [j] ∧ 0 ≤ j ∧ j < x0.length ∧ P60 (x0.getD j.toNat (ByteArray.empty, (0 : Int), (0 : Int), (0 : Int), ())) ∧ InR .i64 (g60_0 (x0.getD j.toNat (ByteArray.empty, (0 : Int), (0 : Int), (0 : Int), ()))) ∧
  InR .i64 (x0.getD j.toNat (ByteArray.empty, (0 : Int), (0 : Int), (0 : Int), ())).2.1 ∧ InR .i64 (x0.getD j.toNat (ByteArray.empty, (0 : Int), (0 : Int), (0 : Int), ())).2.2.1
theorem top58 (x0 : List TyB1) (x1 : List Int) (x2 : Int × Int × Int × Unit) (h : P58 x0 x1 x2) : R58 3 x0 x1 x2 [⟨.bool, g58_0 x0 x1 x2⟩] := by
  obtain ⟨j, rfl, h1, h2, h3, h4, h5, h6⟩ := h
  have e0 : List.getD [j] (Int.toNat 0) 0 = j := rfl
  have e1 : ((([j] : List Int).length : Nat) : Int) = 1 := rfl
  rw [R58, R58_5]
  simp only [e0, e1]
  rw [if_pos (show decide ((0 : Int) < 1) = true by decide)]
  refine ⟨by decide, (show (0 : Int) < 1 by decide), h1, h2, by rw [Int.zero_add]; exact h5, by rw [Int.zero_add]; exact h6, h3, by rw [Int.zero_add]; exact h4, by decide, ?_⟩
  rw [R58_5]
  simp only [e1]
  rw [if_neg (show ¬ decide ((0 : Int) + 1 < 1) = true by decide)]
  simp only [Int.zero_add, g58_0, fit58]
  by_cases c1 : (x0.getD j.toNat (ByteArray.empty, (0 : Int), (0 : Int), (0 : Int), ())).2.1 ≤ x2.1
  · rw [if_pos (decide_eq_true c1), if_pos (decide_eq_true c1)]
    by_cases c2 : (x0.getD j.toNat (ByteArray.empty, (0 : Int), (0 : Int), (0 : Int), ())).2.2.1 ≤ x2.2.1
    · rw [if_pos (decide_eq_true c2), if_pos (decide_eq_true c2)]
    · rw [if_neg (by simpa using c2), if_neg (by simpa using c2)]
  · rw [if_neg (by simpa using c1), if_neg (by simpa using c1)]
def S58 : Am.Spec := { sig := sig58, pre := fun ⟨x0, x1, x2, _⟩ => P58 x0 x1 x2, res := fun ⟨x0, x1, x2, _⟩ => [⟨.bool, g58_0 x0 x1 x2⟩] }
theorem con58 : Contract Tryz.prog 58 S58 := contract_of Tryz.func58 hb58 (Nat.le_of_ble_eq_true (by kernel_rfl)) (fun ⟨x0, x1, x2, _⟩ h hwf K q =>
  (snd58 _).1 x0 x1 x2 _ (top58 x0 x1 x2 h) K q)
end
noncomputable section
def ext59 : Ext := []
theorem ext59Ok : ExtOk Tryz.prog ext59 := trivial
noncomputable def b59 : Code := bodyOf Tryz.f59
theorem hb59 : Tryz.f59.body = some b59 := by kernel_rfl
def sig59 : List AT := [AT.v (Ty.int .i64)]
def tys59 : List Ty := [Ty.str]
def kds59 : List RK := []
def oks59 : List AT := owns sig59
def E59_5 (v4 : Int) (h0 : List Int) (x0 : Int) : Env := [(0, PV.a (Atom.val (Value.int .i64 x0))), (3, PV.a (Atom.osl 0 Option.none)), (4, PV.a (Atom.val (Value.int .i64 v4)))]
def L59_5 (v4 : Int) (h0 : List Int) (x0 : Int) : Heap := [Option.some (Arr.mk (Ty.int .u8) h0 false Option.none Option.none)]
def E59_15 (v7 : Int) (h0 : List Int) (h1 : List Int) : Env := [(3, PV.a (Atom.osl 0 Option.none)), (6, PV.a (Atom.osl 1 Option.none)), (7, PV.a (Atom.val (Value.int .i64 v7)))]
def L59_15 (v7 : Int) (h0 : List Int) (h1 : List Int) : Heap := [Option.some (Arr.mk (Ty.int .u8) h0 false Option.none Option.none), Option.some (Arr.mk (Ty.int .u8) h1 false Option.none Option.none)]
mutual
def R59 : Nat → Int → List Dyn → Prop
  | 0, _, _ => False
  | n + 1, x0, ds => (if (x0 == 0) = true then (ds = [Dyn.mk Ty.str (ByteArray.mk #[48])]) else (R59_5 n (x0) ([]) (x0) ds))
def R59_5 : Nat → Int → List Int → Int → List Dyn → Prop
  | 0, _, _, _, _ => False
  | n + 1, v4, h0, x0, ds => (if (v4 != 0) = true then ((InR .i64 (Int.tmod v4 10)) ∧ (if (decide (Int.tmod v4 10 < 0)) = true then ((InR .i64 (0 - Int.tmod v4 10)) ∧ ((InR .i64 (48 + (0 - Int.tmod v4 10))) ∧ ((InR .u8 (48 + (0 - Int.tmod v4 10))) ∧ (((List.length h0 + 1) * 1 ≤ 140737488355328) ∧ ((InR .i64 (Int.tdiv v4 10)) ∧ (R59_5 n (Int.tdiv v4 10) (h0 ++ [48 + (0 - Int.tmod v4 10)]) (x0) ds)))))) else ((InR .i64 (48 + Int.tmod v4 10)) ∧ ((InR .u8 (48 + Int.tmod v4 10)) ∧ (((List.length h0 + 1) * 1 ≤ 140737488355328) ∧ ((InR .i64 (Int.tdiv v4 10)) ∧ (R59_5 n (Int.tdiv v4 10) (h0 ++ [48 + Int.tmod v4 10]) (x0) ds))))))) else (if (decide (x0 < 0)) = true then (((List.length h0 + 1) * 1 ≤ 140737488355328) ∧ ((InR .i64 ((↑(List.length (h0 ++ [45])) : Int) - 1)) ∧ (R59_15 n ((↑(List.length (h0 ++ [45])) : Int) - 1) (h0 ++ [45]) ([]) ds))) else ((InR .i64 ((↑(List.length h0) : Int) - 1)) ∧ (R59_15 n ((↑(List.length h0) : Int) - 1) (h0) ([]) ds))))
def R59_15 : Nat → Int → List Int → List Int → List Dyn → Prop
  | 0, _, _, _, _ => False
  | n + 1, v7, h0, h1, ds => (if (decide (v7 ≥ 0)) = true then ((0 ≤ v7) ∧ (v7 < (↑(List.length h0) : Int)) ∧ (((List.length h1 + 1) * 1 ≤ 140737488355328) ∧ ((InR .i64 (v7 - 1)) ∧ (R59_15 n (v7 - 1) (h0) (h1 ++ [List.getD h0 (Int.toNat v7) 0]) ds)))) else (ds = [Dyn.mk Ty.str (bytesStr h1)]))
end
theorem snd59 : ∀ n, (∀ (x0 : Int) ds, R59 n x0 ds → ∀ K q, AtV Tryz.prog 59 (PostR kds59 oks59 ds [] [] q K) 50 K q [] [.code b59] (entE 0 0 sig59 (x0, ())) (entL sig59 (x0, ()))) ∧ (∀ (v4 : Int) (h0 : List Int) (x0 : Int) ds, R59_5 n v4 h0 x0 ds → ∀ K q, AtV Tryz.prog 59 (PostR kds59 oks59 ds [] [] q K) 50 K q [] (cutAt b59 5) (E59_5 v4 h0 x0) (L59_5 v4 h0 x0)) ∧ (∀ (v7 : Int) (h0 : List Int) (h1 : List Int) ds, R59_15 n v7 h0 h1 ds → ∀ K q, AtV Tryz.prog 59 (PostR kds59 oks59 ds [] [] q K) 50 K q [] (cutAt b59 15) (E59_15 v7 h0 h1) (L59_15 v7 h0 h1)) := by
  intro n
  induction n with
  | zero => exact ⟨fun _ _ h => by simp only [R59] at h, fun _ _ _ _ h => by simp only [R59_5] at h, fun _ _ _ _ h => by simp only [R59_15] at h⟩
  | succ n ih =>
  obtain ⟨ih, ih5, ih15⟩ := ih
  refine ⟨?_, ?_, ?_⟩
  · intro x0 ds h K q
    rw [R59] at h
    by_cases b0 : (x0 == 0) = true
    · rw [if_pos b0] at h
      subst h
      exact AtV.ret Tryz.func59 tabOk ext59Ok mixed false [] tys59 [true] (a1 b0 trivial) (by kernel_rfl)
    · rw [if_neg b0] at h
      replace b0 := Bool.eq_false_iff.2 b0
      exact AtV.go tabOk ext59Ok mixed false [] [] [0, 3, 4] [0] [false] (a1 b0 trivial) (ih5 _ _ _ _ h K q) (by kernel_rfl)
  · intro v4 h0 x0 ds h K q
    rw [R59_5] at h
    by_cases b0 : (v4 != 0) = true
    · rw [if_pos b0] at h
      obtain ⟨s0, h⟩ := h
      by_cases b1 : (decide (Int.tmod v4 10 < 0)) = true
      · rw [if_pos b1] at h
        obtain ⟨s1, h⟩ := h
        obtain ⟨s2, h⟩ := h
        obtain ⟨s3, h⟩ := h
        obtain ⟨s4, h⟩ := h
        obtain ⟨s5, h⟩ := h
        exact AtV.go tabOk ext59Ok mixed false [] [] [0, 3, 4] [0] [true, true] (a1 b0 (a1 ((by decide) : (10 : Int) ≠ (0 : Int)) (a1 s0 (a1 b1 (a1 s1 (a1 s2 (a1 s3 (a1 s4 (a1 ((by decide) : (10 : Int) ≠ (0 : Int)) (a1 s5 trivial)))))))))) (ih5 _ _ _ _ h K q) (by kernel_rfl)
      · rw [if_neg b1] at h
        replace b1 := Bool.eq_false_iff.2 b1
        obtain ⟨s1, h⟩ := h
        obtain ⟨s2, h⟩ := h
        obtain ⟨s3, h⟩ := h
        obtain ⟨s4, h⟩ := h
        exact AtV.go tabOk ext59Ok mixed false [] [] [0, 3, 4] [0] [true, false] (a1 b0 (a1 ((by decide) : (10 : Int) ≠ (0 : Int)) (a1 s0 (a1 b1 (a1 s1 (a1 s2 (a1 s3 (a1 ((by decide) : (10 : Int) ≠ (0 : Int)) (a1 s4 trivial))))))))) (ih5 _ _ _ _ h K q) (by kernel_rfl)
    · rw [if_neg b0] at h
      replace b0 := Bool.eq_false_iff.2 b0
      by_cases b1 : (decide (x0 < 0)) = true
      · rw [if_pos b1] at h
        obtain ⟨s0, h⟩ := h
        obtain ⟨s1, h⟩ := h
        exact AtV.go tabOk ext59Ok mixed false [] [] [3, 6, 7] [0, 2] [false, true] (a1 b0 (a1 b1 (a1 s0 (a1 s1 trivial)))) (ih15 _ _ _ _ h K q) (by kernel_rfl)
      · rw [if_neg b1] at h
        replace b1 := Bool.eq_false_iff.2 b1
        obtain ⟨s0, h⟩ := h
        exact AtV.go tabOk ext59Ok mixed false [] [] [3, 6, 7] [0, 1] [false, false] (a1 b0 (a1 b1 (a1 s0 trivial))) (ih15 _ _ _ _ h K q) (by kernel_rfl)
  · intro v7 h0 h1 ds h K q
    rw [R59_15] at h
    by_cases b0 : (decide (v7 ≥ 0)) = true
    · rw [if_pos b0] at h
      obtain ⟨s0, s1, h⟩ := h
      obtain ⟨s2, h⟩ := h
      obtain ⟨s3, h⟩ := h
      exact AtV.go tabOk ext59Ok mixed false [] [] [3, 6, 7] [0, 1] [true] (a1 b0 (a1 s0 (a1 s1 (a1 s2 (a1 s3 trivial))))) (ih15 _ _ _ _ h K q) (by kernel_rfl)
    · rw [if_neg b0] at h
      replace b0 := Bool.eq_false_iff.2 b0
      subst h
      exact AtV.ret Tryz.func59 tabOk ext59Ok mixed false [] tys59 [false] (a1 b0 trivial) (by kernel_rfl)
def g59_0 (x0 : Int) : ByteArray := numB x0
def P59 (x0 : Int) : Prop := True
theorem bstr59 (xs : List Int) : bytesStr xs = ⟨⟨xs.map fun n => UInt8.ofNat n.toNat⟩⟩ := by
  have key : ∀ (xs : List Int) (s : ByteArray), (xs.foldl (fun r n => r.push (UInt8.ofNat n.toNat)) s).data.toList = s.data.toList ++ xs.map fun n => UInt8.ofNat n.toNat := by
    intro xs
    induction xs with
    | nil => intro s; simp
    | cons a r ih =>
      intro s
      rw [List.foldl_cons, ih]
      show (s.data.push _).toList ++ _ = _
      rw [Array.toList_push]
      simp
  apply ByteArray.ext
  apply Array.ext'
  have := key xs ByteArray.empty
  unfold bytesStr
  rw [this]
  rfl
theorem bstrB59 (l : List UInt8) : bytesStr (l.map fun b => (b.toNat : Int)) = ⟨⟨l⟩⟩ := by
  rw [bstr59, List.map_map]
  congr 2
  conv => rhs; rw [← List.map_id l]
  refine List.map_congr_left fun b _ => ?_
  show UInt8.ofNat ((b.toNat : Int)).toNat = b
  rw [Int.toNat_natCast, UInt8.ofNat_toNat]
def rd59 (m : Nat) : List Int := if h : m = 0 then [] else ((48 + m % 10 : Nat) : Int) :: rd59 (m / 10)
termination_by m
decreasing_by omega
theorem rd059 : rd59 0 = [] := by rw [rd59, dif_pos rfl]
theorem rds59 {m : Nat} (h : m ≠ 0) : rd59 m = ((48 + m % 10 : Nat) : Int) :: rd59 (m / 10) := by rw [rd59, dif_neg h]
theorem rdl59 : ∀ (k m : Nat), m < 10 ^ k → (rd59 m).length ≤ k
  | 0, m, h => by obtain rfl : m = 0 := by simpa using h
                  rw [rd059]; exact Nat.le_refl _
  | k + 1, m, h => by
    by_cases h0 : m = 0
    · rw [h0, rd059]; exact Nat.zero_le _
    · rw [rds59 h0, List.length_cons]
      have := rdl59 k (m / 10) (by rw [Nat.pow_succ] at h; omega)
      omega
theorem rdd59 (m : Nat) (h : m ≠ 0) : bytesStr (rd59 m).reverse = ⟨⟨Lib.decDigits m⟩⟩ := by
  have key : ∀ m : Nat, m ≠ 0 → (rd59 m).reverse = (Lib.decDigits m).map fun b => (b.toNat : Int) := by
    intro m
    induction m using Nat.strongRecOn with
    | _ m ih =>
      intro h
      rw [rds59 h, List.reverse_cons, Lib.decDigits]
      have e : (UInt8.ofNat (48 + m % 10)).toNat = 48 + m % 10 := by rw [UInt8.toNat_ofNat']; omega
      split
      · rename_i hs
        rw [show m / 10 = 0 by omega, rd059]
        have e' : (UInt8.ofNat (48 + m)).toNat = 48 + m % 10 := by rw [UInt8.toNat_ofNat']; omega
        rw [List.map_singleton, e']
        rfl
      · rw [ih (m / 10) (by omega) (by omega), List.map_append, List.map_singleton, e]
  rw [key m h]
  exact bstrB59 _
theorem back59 (h0 : List Int) : ∀ (j : Nat) (h1 : List Int), j ≤ h0.length → h1.length + j ≤ 64 → R59_15 (j + 1) ((j : Int) - 1) h0 h1 [⟨.str, bytesStr (h1 ++ (h0.take j).reverse)⟩]
  | 0, h1, _, _ => by
    rw [R59_15, if_neg (by decide)]
    simp
  | j + 1, h1, hj, hl => by
    have ih := back59 h0 j (h1 ++ [h0.getD j 0]) (by omega) (by rw [List.length_append, List.length_singleton]; omega)
    have e : ((j + 1 : Nat) : Int) - 1 = (j : Int) := by omega
    rw [R59_15, e, if_pos (by simp only [decide_eq_true_eq]; omega), Int.toNat_natCast]
    refine ⟨by omega, by omega, by omega, by rw [i64_iff]; omega, ?_⟩
    have et : (h0.take (j + 1)).reverse = h0.getD j 0 :: (h0.take j).reverse := by
      have hlt : j < h0.length := by omega
      rw [List.take_add_one, List.getElem?_eq_getElem hlt, List.reverse_append, List.getD_eq_getElem?_getD, List.getElem?_eq_getElem hlt]
      rfl
    rw [et]
    rw [List.append_assoc] at ih
    exact ih
theorem last59 (x0 : Int) (h0 : List Int) (hl : h0.length ≤ 20) : R59_5 ((if x0 < 0 then h0.length + 1 else h0.length) + 1 + 1) 0 h0 x0 [⟨.str, bytesStr ((if x0 < 0 then h0 ++ [45] else h0)).reverse⟩] := by
  rw [R59_5, if_neg (by decide)]
  by_cases hx : x0 < 0
  · have b := back59 (h0 ++ [45]) (h0.length + 1) [] (by rw [List.length_append, List.length_singleton]; omega) (by simp; omega)
    have e : (h0 ++ [(45 : Int)]).length = h0.length + 1 := by rw [List.length_append, List.length_singleton]
    rw [List.take_of_length_le (by omega)] at b
    simp only [hx, decide_true, if_true]
    rw [e]
    exact ⟨by omega, by rw [i64_iff]; omega, b⟩
  · have b := back59 h0 h0.length [] (Nat.le_refl _) (by simp; omega)
    rw [List.take_of_length_le (Nat.le_refl _)] at b
    simp only [hx, decide_false, Bool.false_eq_true, if_false]
    exact ⟨by rw [i64_iff]; omega, b⟩
theorem run59 (x0 : Int) (ds : List Dyn) (F : List Int) (K : Nat) (hF : R59_5 K 0 F x0 ds) : ∀ (m : Nat) (v : Int) (h0 : List Int), (v = (m : Int) ∨ v = -(m : Int)) → m ≤ 9223372036854775808 → InR .i64 v → h0.length + (rd59 m).length ≤ 20 → h0 ++ rd59 m = F → R59_5 ((rd59 m).length + K) v h0 x0 ds := by
  intro m
  induction m using Nat.strongRecOn with
  | _ m ih =>
    intro v h0 hv hm hi hl he
    by_cases h : m = 0
    · subst h
      obtain rfl : v = 0 := by omega
      rw [rd059] at he ⊢
      rw [List.append_nil] at he
      rw [he, List.length_nil, Nat.zero_add]
      exact hF
    · have hr := rds59 h
      rw [hr] at he hl ⊢
      rw [List.length_cons] at hl ⊢
      have hne : (v != 0) = true := by
        have : v ≠ 0 := by omega
        simpa using this
      rw [i64_iff] at hi
      have e1 : (rd59 (m / 10)).length + 1 + K = ((rd59 (m / 10)).length + K) + 1 := by omega
      have next : ∀ v', (v' = ((m / 10 : Nat) : Int) ∨ v' = -((m / 10 : Nat) : Int)) → R59_5 ((rd59 (m / 10)).length + K) v' (h0 ++ [((48 + m % 10 : Nat) : Int)]) x0 ds := fun v' hv' =>
        ih (m / 10) (by omega) v' _ hv' (by omega) (by rw [i64_iff]; omega) (by rw [List.length_append, List.length_singleton]; omega) (by rw [List.append_assoc]; exact he)
      rw [e1, R59_5, if_pos hne]
      rcases hv with rfl | rfl
      · have t1 : Int.tmod (m : Int) 10 = ((m % 10 : Nat) : Int) := rfl
        have t2 : Int.tdiv (m : Int) 10 = ((m / 10 : Nat) : Int) := rfl
        rw [t1, t2]
        refine ⟨by rw [i64_iff]; omega, ?_⟩
        rw [if_neg (by simp only [decide_eq_true_eq]; omega)]
        have e2 : 48 + ((m % 10 : Nat) : Int) = ((48 + m % 10 : Nat) : Int) := by omega
        rw [e2]
        exact ⟨by rw [i64_iff]; omega, by rw [u8_iff]; omega, by omega, by rw [i64_iff]; omega, next _ (.inl rfl)⟩
      · have t1 : Int.tmod (-(m : Int)) 10 = -((m % 10 : Nat) : Int) := by rw [Int.neg_tmod]; rfl
        have t2 : Int.tdiv (-(m : Int)) 10 = -((m / 10 : Nat) : Int) := by rw [Int.neg_tdiv]; rfl
        rw [t1, t2]
        refine ⟨by rw [i64_iff]; omega, ?_⟩
        by_cases hz : m % 10 = 0
        · rw [if_neg (by simp only [decide_eq_true_eq]; omega)]
          have e2 : 48 + -((m % 10 : Nat) : Int) = ((48 + m % 10 : Nat) : Int) := by omega
          rw [e2]
          exact ⟨by rw [i64_iff]; omega, by rw [u8_iff]; omega, by omega, by rw [i64_iff]; omega, next _ (.inr rfl)⟩
        · rw [if_pos (by simp only [decide_eq_true_eq]; omega)]
          have e2 : 48 + (0 - -((m % 10 : Nat) : Int)) = ((48 + m % 10 : Nat) : Int) := by omega
          rw [e2]
          exact ⟨by rw [i64_iff]; omega, by rw [i64_iff]; omega, by rw [u8_iff]; omega, by omega, by rw [i64_iff]; omega, next _ (.inr rfl)⟩
theorem top59 (x0 : Int) (hi : InR .i64 x0) : ∃ n, R59 n x0 [⟨.str, g59_0 x0⟩] := by
  unfold g59_0 numB Lib.itoa
  by_cases h : x0 = 0
  · subst h
    refine ⟨1, ?_⟩
    rw [R59, if_pos (by rfl), if_neg (by decide)]
    have e : Lib.decDigits (Int.toNat 0) = [48] := by rw [Lib.decDigits, dif_pos (by decide)]; rfl
    rw [e]
  · have hi' := hi
    rw [i64_iff] at hi'
    have hn : x0.natAbs ≠ 0 := by omega
    have hl := rdl59 19 x0.natAbs (by omega)
    refine ⟨(rd59 x0.natAbs).length + ((if x0 < 0 then (rd59 x0.natAbs).length + 1 else (rd59 x0.natAbs).length) + 1 + 1) + 1, ?_⟩
    rw [R59, if_neg (by simpa using h)]
    have hlast := last59 x0 (rd59 x0.natAbs) (by omega)
    have hrun := run59 x0 _ (rd59 x0.natAbs) _ hlast x0.natAbs x0 [] (by omega) (by omega) hi (by simp; omega) rfl
    have e : bytesStr (if x0 < 0 then rd59 x0.natAbs ++ [45] else rd59 x0.natAbs).reverse = ⟨(if x0 < 0 then 45 :: Lib.decDigits x0.natAbs else Lib.decDigits x0.toNat).toArray⟩ := by
      by_cases hx : x0 < 0
      · rw [if_pos hx, if_pos hx, List.reverse_append]
        show bytesStr ((45 : Int) :: (rd59 x0.natAbs).reverse) = _
        have := rdd59 x0.natAbs hn
        have e0 : bytesStr ((45 : Int) :: (rd59 x0.natAbs).reverse) = ⟨⟨45 :: (bytesStr (rd59 x0.natAbs).reverse).data.toList⟩⟩ := by rw [bstr59, bstr59]; rfl
        rw [e0, this]
      · rw [if_neg hx, if_neg hx, rdd59 x0.natAbs hn, show x0.natAbs = x0.toNat by omega]
    rw [e] at hrun
    exact hrun
def S59 : Am.Spec := { sig := sig59, pre := fun ⟨x0, _⟩ => P59 x0, res := fun ⟨x0, _⟩ => [⟨.str, g59_0 x0⟩] }
theorem con59 : Contract Tryz.prog 59 S59 := contract_of Tryz.func59 hb59 (Nat.le_of_ble_eq_true (by kernel_rfl)) (fun ⟨x0, _⟩ h hwf K q => by
  obtain ⟨n, hn⟩ := top59 x0 hwf.1
  exact (snd59 n).1 x0 _ hn K q)
end
noncomputable section
def ext110 : Ext := []
theorem ext110Ok : ExtOk Tryz.prog ext110 := trivial
noncomputable def b110 : Code := bodyOf Tryz.f110
theorem hb110 : Tryz.f110.body = some b110 := by kernel_rfl
def sig110 : List AT := [AT.p YA3, AT.v (Ty.int .i64), AT.v (Ty.int .i64)]
def tys110 : List Ty := [Ty.int .i64, Ty.int .i64]
def kds110 : List RK := []
def oks110 : List AT := owns sig110
def P110 (x0 : ByteArray × Int × Int × Int × Int × Unit) (x1 : Int) (x2 : Int) : Prop := ((InR .i64 (x0.2.2.2.1 + x0.2.1)) ∧ ((InR .i64 (x0.2.2.2.1 + x0.2.1 - x1)) ∧ ((InR .i64 (x0.2.2.2.2.1 + x0.2.2.1)) ∧ ((InR .i64 (x0.2.2.2.2.1 + x0.2.2.1 - x2)) ∧ True))))
def g110_0 (x0 : ByteArray × Int × Int × Int × Int × Unit) (x1 : Int) (x2 : Int) : Int := x0.2.2.2.1 + x0.2.1 - x1
def g110_1 (x0 : ByteArray × Int × Int × Int × Int × Unit) (x1 : Int) (x2 : Int) : Int := x0.2.2.2.2.1 + x0.2.2.1 - x2
theorem at110 (x0 : ByteArray × Int × Int × Int × Int × Unit) (x1 : Int) (x2 : Int) (h : P110 x0 x1 x2) (K : Ctx) (q : Nat → Value) : AtV Tryz.prog 110 (PostR kds110 oks110 [⟨Ty.int .i64, g110_0 x0 x1 x2⟩, ⟨Ty.int .i64, g110_1 x0 x1 x2⟩] [] [] q K) 30 K q [] [.code b110] (entE 0 0 sig110 (x0, x1, x2, ())) (entL sig110 (x0, x1, x2, ())) := by
  unfold P110 at h
  unfold g110_0 g110_1
  obtain ⟨s0, h⟩ := h
  obtain ⟨s1, h⟩ := h
  obtain ⟨s2, h⟩ := h
  obtain ⟨s3, h⟩ := h
  exact AtV.ret Tryz.func110 tabOk ext110Ok mixed false [] tys110 [] (a1 s0 (a1 s1 (a1 s2 (a1 s3 trivial)))) (by kernel_rfl)
def S110 : Am.Spec := { sig := sig110, pre := fun ⟨x0, x1, x2, _⟩ => P110 x0 x1 x2, res := fun ⟨x0, x1, x2, _⟩ => [⟨Ty.int .i64, g110_0 x0 x1 x2⟩, ⟨Ty.int .i64, g110_1 x0 x1 x2⟩], kds := kds110 }
theorem con110 : Contract Tryz.prog 110 S110 := contract_of Tryz.func110 hb110 (Nat.le_of_ble_eq_true (by kernel_rfl)) (fun ⟨x0, x1, x2, _⟩ h _ K q => at110 x0 x1 x2 h K q)
end
noncomputable section
def ext89 : Ext := [(110, S110)]
theorem ext89Ok : ExtOk Tryz.prog ext89 := ⟨⟨ca110, con110⟩, trivial⟩
noncomputable def b89 : Code := bodyOf Tryz.f89
theorem hb89 : Tryz.f89.body = some b89 := by kernel_rfl
def sig89 : List AT := [AT.p YA3, AT.v (Ty.int .i64), AT.v (Ty.int .i64)]
def tys89 : List Ty := [Ty.bool]
def kds89 : List RK := []
def oks89 : List AT := owns sig89
def P89 (x0 : ByteArray × Int × Int × Int × Int × Unit) (x1 : Int) (x2 : Int) : Prop := ((P110 x0 x1 x2) ∧ True)
def g89_0 (x0 : ByteArray × Int × Int × Int × Int × Unit) (x1 : Int) (x2 : Int) : Bool := (if (decide (g110_0 x0 x1 x2 < 0)) = true then true else decide (g110_1 x0 x1 x2 < 0))
theorem at89 (x0 : ByteArray × Int × Int × Int × Int × Unit) (x1 : Int) (x2 : Int) (h : P89 x0 x1 x2) (K : Ctx) (q : Nat → Value) : AtV Tryz.prog 89 (PostR kds89 oks89 [⟨Ty.bool, g89_0 x0 x1 x2⟩] [] [] q K) 22 K q [] [.code b89] (entE 0 0 sig89 (x0, x1, x2, ())) (entL sig89 (x0, x1, x2, ())) := by
  unfold P89 at h
  unfold g89_0
  obtain ⟨s0, h⟩ := h
  by_cases b0 : (decide (g110_0 x0 x1 x2 < 0)) = true
  · try simp only [if_pos b0] at h ⊢
    exact AtV.ret Tryz.func89 tabOk ext89Ok mixed false [] tys89 [true] (a1 s0 (a1 b0 trivial)) (by kernel_rfl)
  · try simp only [if_neg b0] at h ⊢
    replace b0 := Bool.eq_false_iff.2 b0
    exact AtV.ret Tryz.func89 tabOk ext89Ok mixed false [] tys89 [false] (a1 s0 (a1 b0 trivial)) (by kernel_rfl)
def S89 : Am.Spec := { sig := sig89, pre := fun ⟨x0, x1, x2, _⟩ => P89 x0 x1 x2, res := fun ⟨x0, x1, x2, _⟩ => [⟨Ty.bool, g89_0 x0 x1 x2⟩], kds := kds89 }
theorem con89 : Contract Tryz.prog 89 S89 := contract_of Tryz.func89 hb89 (Nat.le_of_ble_eq_true (by kernel_rfl)) (fun ⟨x0, x1, x2, _⟩ h _ K q => at89 x0 x1 x2 h K q)
end
noncomputable section
def ext61 : Ext := [(89, S89)]
theorem ext61Ok : ExtOk Tryz.prog ext61 := ⟨⟨ca89, con89⟩, trivial⟩
noncomputable def b61 : Code := bodyOf Tryz.f61
theorem hb61 : Tryz.f61.body = some b61 := by kernel_rfl
def sig61 : List AT := [AT.v (Ty.sl YA3), AT.v (Ty.int .i64), AT.v (Ty.int .i64)]
def tys61 : List Ty := [Ty.sl Ty.str]
def kds61 : List RK := []
def oks61 : List AT := owns sig61
def E61_3 (v8 : Int) (h0 : List ByteArray) (x0 : List TyB0) (x1 : Int) (x2 : Int) : Env := [(0, PV.a (Atom.sl YA3 x0)), (1, PV.a (Atom.val (Value.int .i64 x1))), (2, PV.a (Atom.val (Value.int .i64 x2))), (7, PV.a (Atom.osl 0 Option.none)), (8, PV.a (Atom.val (Value.int .i64 v8)))]
def L61_3 (v8 : Int) (h0 : List ByteArray) (x0 : List TyB0) (x1 : Int) (x2 : Int) : Heap := [Option.some (Arr.mk Ty.str h0 false Option.none Option.none)]
mutual
def R61 : Nat → List TyB0 → Int → Int → List Dyn → Prop
  | 0, _, _, _, _ => False
  | n + 1, x0, x1, x2, ds => (R61_3 n (0) ([]) (x0) (x1) (x2) ds)
def R61_3 : Nat → Int → List ByteArray → List TyB0 → Int → Int → List Dyn → Prop
  | 0, _, _, _, _, _, _ => False
  | n + 1, v8, h0, x0, x1, x2, ds => (if (decide (v8 < (↑(List.length x0) : Int))) = true then ((0 ≤ v8) ∧ (v8 < (↑(List.length x0) : Int)) ∧ ((P89 (List.getD x0 (Int.toNat v8) (ByteArray.empty, 0, 0, 0, 0, ())) x1 x2) ∧ (if (g89_0 (List.getD x0 (Int.toNat v8) (ByteArray.empty, 0, 0, 0, 0, ())) x1 x2) = true then ((0 ≤ v8) ∧ (v8 < (↑(List.length x0) : Int)) ∧ (((List.length h0 + 1) * 16 ≤ 140737488355328) ∧ ((InR .i64 (v8 + 1)) ∧ (R61_3 n (v8 + 1) (h0 ++ [(List.getD x0 (Int.toNat v8) (ByteArray.empty, 0, 0, 0, 0, ())).1]) (x0) (x1) (x2) ds)))) else ((InR .i64 (v8 + 1)) ∧ (R61_3 n (v8 + 1) (h0) (x0) (x1) (x2) ds))))) else (ds = [Dyn.mk (Ty.sl Ty.str) h0]))
end
theorem snd61 : ∀ n, (∀ (x0 : List TyB0) (x1 : Int) (x2 : Int) ds, R61 n x0 x1 x2 ds → ∀ K q, AtV Tryz.prog 61 (PostR kds61 oks61 ds [] [] q K) 31 K q [] [.code b61] (entE 0 0 sig61 (x0, x1, x2, ())) (entL sig61 (x0, x1, x2, ()))) ∧ (∀ (v8 : Int) (h0 : List ByteArray) (x0 : List TyB0) (x1 : Int) (x2 : Int) ds, R61_3 n v8 h0 x0 x1 x2 ds → ∀ K q, AtV Tryz.prog 61 (PostR kds61 oks61 ds [] [] q K) 31 K q [] (cutAt b61 3) (E61_3 v8 h0 x0 x1 x2) (L61_3 v8 h0 x0 x1 x2)) := by
  intro n
  induction n with
  | zero => exact ⟨fun _ _ _ _ h => by simp only [R61] at h, fun _ _ _ _ _ _ h => by simp only [R61_3] at h⟩
  | succ n ih =>
  obtain ⟨ih, ih3⟩ := ih
  refine ⟨?_, ?_⟩
  · intro x0 x1 x2 ds h K q
    rw [R61] at h
    exact AtV.go tabOk ext61Ok mixed false [] [] [0, 1, 2, 7, 8] [0] [] trivial (ih3 _ _ _ _ _ _ h K q) (by kernel_rfl)
  · intro v8 h0 x0 x1 x2 ds h K q
    rw [R61_3] at h
    by_cases b0 : (decide (v8 < (↑(List.length x0) : Int))) = true
    · rw [if_pos b0] at h
      obtain ⟨s0, s1, h⟩ := h
      obtain ⟨s2, h⟩ := h
      by_cases b1 : (g89_0 (List.getD x0 (Int.toNat v8) (ByteArray.empty, 0, 0, 0, 0, ())) x1 x2) = true
      · rw [if_pos b1] at h
        obtain ⟨s3, s4, h⟩ := h
        obtain ⟨s5, h⟩ := h
        obtain ⟨s6, h⟩ := h
        exact AtV.go tabOk ext61Ok mixed false [] [] [0, 1, 2, 7, 8] [0] [true, true] (a1 b0 (a1 s0 (a1 s1 (a1 s2 (a1 b1 (a1 s3 (a1 s4 (a1 s5 (a1 s6 trivial))))))))) (ih3 _ _ _ _ _ _ h K q) (by kernel_rfl)
      · rw [if_neg b1] at h
        replace b1 := Bool.eq_false_iff.2 b1
        obtain ⟨s3, h⟩ := h
        exact AtV.go tabOk ext61Ok mixed false [] [] [0, 1, 2, 7, 8] [0] [true, false] (a1 b0 (a1 s0 (a1 s1 (a1 s2 (a1 b1 (a1 s3 trivial)))))) (ih3 _ _ _ _ _ _ h K q) (by kernel_rfl)
    · rw [if_neg b0] at h
      replace b0 := Bool.eq_false_iff.2 b0
      subst h
      exact AtV.ret Tryz.func61 tabOk ext61Ok mixed false [] tys61 [false] (a1 b0 trivial) (by kernel_rfl)
def g61_0 (x0 : List TyB0) (x1 x2 : Int) : List ByteArray := (x0.filter fun x => g89_0 x x1 x2).map fun x => x.1
def P61 (x0 : List TyB0) (x1 x2 : Int) : Prop := x0.length ≤ 1048576 ∧ ∀ x ∈ x0, P89 x x1 x2
theorem run61 (x0 : List TyB0) (x1 x2 : Int) (h : P61 x0 x1 x2) : ∀ (k i : Nat) (h0 : List ByteArray), i + k = x0.length → h0.length ≤ i → R61_3 (k + 1) (i : Int) h0 x0 x1 x2 [⟨.sl .str, h0 ++ g61_0 (x0.drop i) x1 x2⟩] := by
  obtain ⟨hl, hp⟩ := h
  intro k
  induction k with
  | zero =>
    intro i h0 hi hh
    rw [R61_3, if_neg (by simp only [decide_eq_true_eq]; omega), drop_end _ _ (by omega)]
    simp [g61_0]
  | succ k ih =>
    intro i h0 hi hh
    have hlt : i < x0.length := by omega
    have hm : x0.length ≤ maxLen := Nat.le_trans hl (by decide)
    rw [R61_3, if_pos (by simp only [decide_eq_true_eq]; omega), drop_get x0 i (ByteArray.empty, (0 : Int), (0 : Int), (0 : Int), (0 : Int), ()) hlt]
    simp only [Int.toNat_natCast]
    refine ⟨by omega, by omega, hp _ (mem_getD x0 i (ByteArray.empty, (0 : Int), (0 : Int), (0 : Int), (0 : Int), ()) hlt), ?_⟩
    have ih1 := ih (i + 1)
    by_cases hc : g89_0 (x0.getD i (ByteArray.empty, (0 : Int), (0 : Int), (0 : Int), (0 : Int), ())) x1 x2 = true
    · have h2 := ih1 (h0 ++ [(x0.getD i (ByteArray.empty, (0 : Int), (0 : Int), (0 : Int), (0 : Int), ())).1]) (by omega) (by simp; omega)
      have e : ∀ r, g61_0 (x0.getD i (ByteArray.empty, (0 : Int), (0 : Int), (0 : Int), (0 : Int), ()) :: r) x1 x2 = (x0.getD i (ByteArray.empty, (0 : Int), (0 : Int), (0 : Int), (0 : Int), ())).1 :: g61_0 r x1 x2 := fun r => by
        unfold g61_0; rw [List.filter_cons, if_pos hc]; rfl
      rw [if_pos hc, e]
      rw [List.append_assoc] at h2
      exact ⟨by omega, by omega, by omega, inR_up hm hlt, h2⟩
    · have h2 := ih1 h0 (by omega) (by omega)
      have e : ∀ r, g61_0 (x0.getD i (ByteArray.empty, (0 : Int), (0 : Int), (0 : Int), (0 : Int), ()) :: r) x1 x2 = g61_0 r x1 x2 := fun r => by
        unfold g61_0; rw [List.filter_cons, if_neg hc]
      rw [if_neg hc, e]
      exact ⟨inR_up hm hlt, h2⟩
theorem top61 (x0 : List TyB0) (x1 x2 : Int) (h : P61 x0 x1 x2) : R61 (x0.length + 1 + 1) x0 x1 x2 [⟨.sl .str, g61_0 x0 x1 x2⟩] := by
  rw [R61]
  simpa using run61 x0 x1 x2 h x0.length 0 [] (by omega) (by simp)
def S61 : Am.Spec := { sig := sig61, pre := fun ⟨x0, x1, x2, _⟩ => P61 x0 x1 x2, res := fun ⟨x0, x1, x2, _⟩ => [⟨.sl .str, g61_0 x0 x1 x2⟩] }
theorem con61 : Contract Tryz.prog 61 S61 := contract_of Tryz.func61 hb61 (Nat.le_of_ble_eq_true (by kernel_rfl)) (fun ⟨x0, x1, x2, _⟩ h hwf K q =>
  (snd61 _).1 x0 x1 x2 _ (top61 x0 x1 x2 h) K q)
end
noncomputable section
def ext19 : Ext := [(58, S58), (60, S60), (59, S59), (61, S61)]
theorem ext19Ok : ExtOk Tryz.prog ext19 := ⟨⟨ca58, con58⟩, ⟨ca60, con60⟩, ⟨ca59, con59⟩, ⟨ca61, con61⟩, trivial⟩
noncomputable def b19 : Code := bodyOf Tryz.f19
theorem hb19 : Tryz.f19.body = some b19 := by kernel_rfl
def sig19 : List AT := [AT.p YA0]
def tys19 : List Ty := [Ty.sl YA8]
def kds19 : List RK := []
def oks19 : List AT := owns sig19
def E19_3 (v4 : Int) (h0 : List TyB3) (x0 : TyA0) : Env := [(0, PV.a (Atom.ptr YA0 x0)), (3, PV.a (Atom.osl 0 Option.none)), (4, PV.a (Atom.val (Value.int .i64 v4)))]
def L19_3 (v4 : Int) (h0 : List TyB3) (x0 : TyA0) : Heap := [Option.some (Arr.mk YA8 h0 false Option.none Option.none)]
def E19_9 (v6 : Int) (h0 : List TyB3) (x0 : TyA0) : Env := [(0, PV.a (Atom.ptr YA0 x0)), (3, PV.a (Atom.osl 0 Option.none)), (5, PV.a (Atom.osl 1 Option.none)), (6, PV.a (Atom.val (Value.int .i64 v6)))]
def L19_9 (v6 : Int) (h0 : List TyB3) (x0 : TyA0) : Heap := [Option.some (Arr.mk YA8 h0 false Option.none Option.none), Option.some (Arr.mk Ty.str (g61_0 x0.2.2.2.2.2.2.1 x0.2.2.2.2.2.2.2.1 x0.2.2.2.2.2.2.2.2.1) false Option.none Option.none)]
def E19_13 (v7 : Int) (h0 : List TyB3) (x0 : TyA0) : Env := [(0, PV.a (Atom.ptr YA0 x0)), (3, PV.a (Atom.osl 0 Option.none)), (7, PV.a (Atom.val (Value.int .i64 v7)))]
def L19_13 (v7 : Int) (h0 : List TyB3) (x0 : TyA0) : Heap := [Option.some (Arr.mk YA8 h0 false Option.none Option.none)]
mutual
def R19 : Nat → TyA0 → List Dyn → Prop
  | 0, _, _ => False
  | n + 1, x0, ds => (R19_3 n (0) ([]) (x0) ds)
def R19_3 : Nat → Int → List TyB3 → TyA0 → List Dyn → Prop
  | 0, _, _, _, _ => False
  | n + 1, v4, h0, x0, ds => (if (decide (v4 < (↑(List.length x0.2.2.2.2.1) : Int))) = true then ((P58 x0.2.2.2.2.1 [v4] x0.2.2.2.2.2.1) ∧ (if (!g58_0 x0.2.2.2.2.1 [v4] x0.2.2.2.2.2.1) = true then ((0 ≤ v4) ∧ (v4 < (↑(List.length x0.2.2.2.2.1) : Int)) ∧ ((0 ≤ v4) ∧ (v4 < (↑(List.length x0.2.2.2.2.1) : Int)) ∧ ((P60 (List.getD x0.2.2.2.2.1 (Int.toNat v4) (ByteArray.empty, 0, 0, 0, ()))) ∧ (((List.length h0 + 1) * 40 ≤ 140737488355328) ∧ ((InR .i64 (v4 + 1)) ∧ (R19_3 n (v4 + 1) (h0 ++ [(3, (List.getD x0.2.2.2.2.1 (Int.toNat v4) (ByteArray.empty, 0, 0, 0, ())).1, g59_0 (g60_0 (List.getD x0.2.2.2.2.1 (Int.toNat v4) (ByteArray.empty, 0, 0, 0, ()))), ())]) (x0) ds)))))) else ((InR .i64 (v4 + 1)) ∧ (R19_3 n (v4 + 1) (h0) (x0) ds)))) else ((P61 x0.2.2.2.2.2.2.1 x0.2.2.2.2.2.2.2.1 x0.2.2.2.2.2.2.2.2.1) ∧ (R19_9 n (0) (h0) (x0) ds)))
def R19_9 : Nat → Int → List TyB3 → TyA0 → List Dyn → Prop
  | 0, _, _, _, _ => False
  | n + 1, v6, h0, x0, ds => (if (decide (v6 < (↑(List.length (g61_0 x0.2.2.2.2.2.2.1 x0.2.2.2.2.2.2.2.1 x0.2.2.2.2.2.2.2.2.1)) : Int))) = true then ((0 ≤ v6) ∧ (v6 < (↑(List.length (g61_0 x0.2.2.2.2.2.2.1 x0.2.2.2.2.2.2.2.1 x0.2.2.2.2.2.2.2.2.1)) : Int)) ∧ (((List.length h0 + 1) * 40 ≤ 140737488355328) ∧ ((InR .i64 (v6 + 1)) ∧ (R19_9 n (v6 + 1) (h0 ++ [(4, List.getD (g61_0 x0.2.2.2.2.2.2.1 x0.2.2.2.2.2.2.2.1 x0.2.2.2.2.2.2.2.2.1) (Int.toNat v6) ByteArray.empty, ByteArray.mk #[111, 118, 101, 114, 100, 117, 101], ())]) (x0) ds)))) else (R19_13 n (1) (h0) (x0) ds))
def R19_13 : Nat → Int → List TyB3 → TyA0 → List Dyn → Prop
  | 0, _, _, _, _ => False
  | n + 1, v7, h0, x0, ds => (if (decide (v7 < (↑(List.length x0.2.2.2.2.2.2.2.2.2.1) : Int))) = true then ((0 ≤ v7) ∧ (v7 < (↑(List.length x0.2.2.2.2.2.2.2.2.2.1) : Int)) ∧ ((InR .i64 (v7 - 1)) ∧ ((0 ≤ v7 - 1) ∧ (v7 - 1 < (↑(List.length x0.2.2.2.2.2.2.2.2.2.1) : Int)) ∧ ((InR .i64 ((List.getD x0.2.2.2.2.2.2.2.2.2.1 (Int.toNat v7) (0, 0, ())).1 - (List.getD x0.2.2.2.2.2.2.2.2.2.1 (Int.toNat (v7 - 1)) (0, 0, ())).1)) ∧ ((InR .i64 (v7 - 1)) ∧ ((0 ≤ v7 - 1) ∧ (v7 - 1 < (↑(List.length x0.2.2.2.2.2.2.2.2.2.1) : Int)) ∧ ((InR .i64 ((List.getD x0.2.2.2.2.2.2.2.2.2.1 (Int.toNat v7) (0, 0, ())).1 - (List.getD x0.2.2.2.2.2.2.2.2.2.1 (Int.toNat (v7 - 1)) (0, 0, ())).1 - (List.getD x0.2.2.2.2.2.2.2.2.2.1 (Int.toNat (v7 - 1)) (0, 0, ())).2.1)) ∧ ((InR .i64 ((List.getD x0.2.2.2.2.2.2.2.2.2.1 (Int.toNat v7) (0, 0, ())).1 - (List.getD x0.2.2.2.2.2.2.2.2.2.1 (Int.toNat (v7 - 1)) (0, 0, ())).1 - (List.getD x0.2.2.2.2.2.2.2.2.2.1 (Int.toNat (v7 - 1)) (0, 0, ())).2.1 - x0.2.2.2.2.2.2.2.2.2.2.1)) ∧ (if (decide ((List.getD x0.2.2.2.2.2.2.2.2.2.1 (Int.toNat v7) (0, 0, ())).1 - (List.getD x0.2.2.2.2.2.2.2.2.2.1 (Int.toNat (v7 - 1)) (0, 0, ())).1 - (List.getD x0.2.2.2.2.2.2.2.2.2.1 (Int.toNat (v7 - 1)) (0, 0, ())).2.1 - x0.2.2.2.2.2.2.2.2.2.2.1 < 0)) = true then (((List.length h0 + 1) * 40 ≤ 140737488355328) ∧ ((InR .i64 (v7 + 1)) ∧ (R19_13 n (v7 + 1) (h0 ++ [(5, g59_0 v7, g59_0 ((List.getD x0.2.2.2.2.2.2.2.2.2.1 (Int.toNat v7) (0, 0, ())).1 - (List.getD x0.2.2.2.2.2.2.2.2.2.1 (Int.toNat (v7 - 1)) (0, 0, ())).1 - (List.getD x0.2.2.2.2.2.2.2.2.2.1 (Int.toNat (v7 - 1)) (0, 0, ())).2.1 - x0.2.2.2.2.2.2.2.2.2.2.1), ())]) (x0) ds))) else ((InR .i64 (v7 + 1)) ∧ (R19_13 n (v7 + 1) (h0) (x0) ds))))))))))) else (ds = [Dyn.mk (Ty.sl YA8) h0]))
end
theorem snd19 : ∀ n, (∀ (x0 : TyA0) ds, R19 n x0 ds → ∀ K q, AtV Tryz.prog 19 (PostR kds19 oks19 ds [] [] q K) 130 K q [] [.code b19] (entE 0 0 sig19 (x0, ())) (entL sig19 (x0, ()))) ∧ (∀ (v4 : Int) (h0 : List TyB3) (x0 : TyA0) ds, R19_3 n v4 h0 x0 ds → ∀ K q, AtV Tryz.prog 19 (PostR kds19 oks19 ds [] [] q K) 130 K q [] (cutAt b19 3) (E19_3 v4 h0 x0) (L19_3 v4 h0 x0)) ∧ (∀ (v6 : Int) (h0 : List TyB3) (x0 : TyA0) ds, R19_9 n v6 h0 x0 ds → ∀ K q, AtV Tryz.prog 19 (PostR kds19 oks19 ds [] [] q K) 130 K q [] (cutAt b19 9) (E19_9 v6 h0 x0) (L19_9 v6 h0 x0)) ∧ (∀ (v7 : Int) (h0 : List TyB3) (x0 : TyA0) ds, R19_13 n v7 h0 x0 ds → ∀ K q, AtV Tryz.prog 19 (PostR kds19 oks19 ds [] [] q K) 130 K q [] (cutAt b19 13) (E19_13 v7 h0 x0) (L19_13 v7 h0 x0)) := by
  intro n
  induction n with
  | zero => exact ⟨fun _ _ h => by simp only [R19] at h, fun _ _ _ _ h => by simp only [R19_3] at h, fun _ _ _ _ h => by simp only [R19_9] at h, fun _ _ _ _ h => by simp only [R19_13] at h⟩
  | succ n ih =>
  obtain ⟨ih, ih3, ih9, ih13⟩ := ih
  refine ⟨?_, ?_, ?_, ?_⟩
  · intro x0 ds h K q
    rw [R19] at h
    exact AtV.go tabOk ext19Ok mixed false [] [] [0, 3, 4] [0] [] trivial (ih3 _ _ _ _ h K q) (by kernel_rfl)
  · intro v4 h0 x0 ds h K q
    rw [R19_3] at h
    by_cases b0 : (decide (v4 < (↑(List.length x0.2.2.2.2.1) : Int))) = true
    · rw [if_pos b0] at h
      obtain ⟨s0, h⟩ := h
      by_cases b1 : (!g58_0 x0.2.2.2.2.1 [v4] x0.2.2.2.2.2.1) = true
      · rw [if_pos b1] at h
        obtain ⟨s1, s2, h⟩ := h
        obtain ⟨s3, s4, h⟩ := h
        obtain ⟨s5, h⟩ := h
        obtain ⟨s6, h⟩ := h
        obtain ⟨s7, h⟩ := h
        exact AtV.go tabOk ext19Ok mixed false [] [] [0, 3, 4] [0] [true, true] (a1 b0 (a1 s0 (a1 b1 (a1 s1 (a1 s2 (a1 s3 (a1 s4 (a1 s5 (a1 trivial (a1 s6 (a1 s7 trivial))))))))))) (ih3 _ _ _ _ h K q) (by kernel_rfl)
      · rw [if_neg b1] at h
        replace b1 := Bool.eq_false_iff.2 b1
        obtain ⟨s1, h⟩ := h
        exact AtV.go tabOk ext19Ok mixed false [] [] [0, 3, 4] [0] [true, false] (a1 b0 (a1 s0 (a1 b1 (a1 s1 trivial)))) (ih3 _ _ _ _ h K q) (by kernel_rfl)
    · rw [if_neg b0] at h
      replace b0 := Bool.eq_false_iff.2 b0
      obtain ⟨s0, h⟩ := h
      exact AtV.go tabOk ext19Ok mixed false [] [] [0, 3, 5, 6] [0, 1] [false] (a1 b0 (a1 s0 trivial)) (ih9 _ _ _ _ h K q) (by kernel_rfl)
  · intro v6 h0 x0 ds h K q
    rw [R19_9] at h
    by_cases b0 : (decide (v6 < (↑(List.length (g61_0 x0.2.2.2.2.2.2.1 x0.2.2.2.2.2.2.2.1 x0.2.2.2.2.2.2.2.2.1)) : Int))) = true
    · rw [if_pos b0] at h
      obtain ⟨s0, s1, h⟩ := h
      obtain ⟨s2, h⟩ := h
      obtain ⟨s3, h⟩ := h
      exact AtV.go tabOk ext19Ok mixed false [] [] [0, 3, 5, 6] [0, 1] [true] (a1 b0 (a1 s0 (a1 s1 (a1 s2 (a1 s3 trivial))))) (ih9 _ _ _ _ h K q) (by kernel_rfl)
    · rw [if_neg b0] at h
      replace b0 := Bool.eq_false_iff.2 b0
      exact AtV.go tabOk ext19Ok mixed false [] [] [0, 3, 7] [0] [false] (a1 b0 trivial) (ih13 _ _ _ _ h K q) (by kernel_rfl)
  · intro v7 h0 x0 ds h K q
    rw [R19_13] at h
    by_cases b0 : (decide (v7 < (↑(List.length x0.2.2.2.2.2.2.2.2.2.1) : Int))) = true
    · rw [if_pos b0] at h
      obtain ⟨s0, s1, h⟩ := h
      obtain ⟨s2, h⟩ := h
      obtain ⟨s3, s4, h⟩ := h
      obtain ⟨s5, h⟩ := h
      obtain ⟨s6, h⟩ := h
      obtain ⟨s7, s8, h⟩ := h
      obtain ⟨s9, h⟩ := h
      obtain ⟨s10, h⟩ := h
      by_cases b1 : (decide ((List.getD x0.2.2.2.2.2.2.2.2.2.1 (Int.toNat v7) (0, 0, ())).1 - (List.getD x0.2.2.2.2.2.2.2.2.2.1 (Int.toNat (v7 - 1)) (0, 0, ())).1 - (List.getD x0.2.2.2.2.2.2.2.2.2.1 (Int.toNat (v7 - 1)) (0, 0, ())).2.1 - x0.2.2.2.2.2.2.2.2.2.2.1 < 0)) = true
      · rw [if_pos b1] at h
        obtain ⟨s11, h⟩ := h
        obtain ⟨s12, h⟩ := h
        exact AtV.go tabOk ext19Ok mixed false [] [] [0, 3, 7] [0] [true, true] (a1 b0 (a1 s0 (a1 s1 (a1 s2 (a1 s3 (a1 s4 (a1 s5 (a1 s6 (a1 s7 (a1 s8 (a1 s9 (a1 s10 (a1 b1 (a1 trivial (a1 trivial (a1 s11 (a1 s12 trivial))))))))))))))))) (ih13 _ _ _ _ h K q) (by kernel_rfl)
      · rw [if_neg b1] at h
        replace b1 := Bool.eq_false_iff.2 b1
        obtain ⟨s11, h⟩ := h
        exact AtV.go tabOk ext19Ok mixed false [] [] [0, 3, 7] [0] [true, false] (a1 b0 (a1 s0 (a1 s1 (a1 s2 (a1 s3 (a1 s4 (a1 s5 (a1 s6 (a1 s7 (a1 s8 (a1 s9 (a1 s10 (a1 b1 (a1 s11 trivial)))))))))))))) (ih13 _ _ _ _ h K q) (by kernel_rfl)
    · rw [if_neg b0] at h
      replace b0 := Bool.eq_false_iff.2 b0
      subst h
      exact AtV.ret Tryz.func19 tabOk ext19Ok mixed false [] tys19 [false] (a1 b0 trivial) (by kernel_rfl)
def fG19 (r : Int × Int × Int × Unit) (_ : Nat) (x : ByteArray × Int × Int × Int × Unit) : List TyB3 :=
  if (!fit58 x r) = true then [(3, x.1, g59_0 (g60_0 x), ())] else []
def fC19 (_ : Nat) (x : ByteArray) : List TyB3 := [(4, x, ByteArray.mk #[111, 118, 101, 114, 100, 117, 101], ())]
def fS19 (i : Nat) (n : Int) : List TyB3 := if decide (n < 0) = true then [(5, g59_0 ((i : Int) + 1), g59_0 n, ())] else []
def sk19 (x1 : Int) : List TyB4 → List Int
  | x :: y :: r => (y.1 - x.1 - x.2.1 - x1) :: sk19 x1 (y :: r)
  | _ => []
theorem sk19_len (x1 : Int) : ∀ l, (sk19 x1 l).length = l.length - 1
  | [] => rfl
  | [_] => rfl
  | x :: y :: r => by
    simp only [sk19, List.length_cons, sk19_len x1 (y :: r)]
    omega
theorem sk19_get (x1 : Int) : ∀ (l : List TyB4) (i : Nat), i < l.length - 1 → (sk19 x1 l).getD i 0 = (l.getD (i + 1) ((0 : Int), (0 : Int), ())).1 - (l.getD i ((0 : Int), (0 : Int), ())).1 - (l.getD i ((0 : Int), (0 : Int), ())).2.1 - x1
  | [], i, h => by simp at h
  | [_], i, h => by simp at h
  | x :: y :: r, 0, h => rfl
  | x :: y :: r, i + 1, h => by
    have := sk19_get x1 (y :: r) i (by simp only [List.length_cons] at h ⊢; omega)
    simpa [sk19] using this
def g19_0 (x0 : (TyA0)) : List TyB3 :=
  bl (fG19 x0.2.2.2.2.2.1) 0 x0.2.2.2.2.1 ++ bl fC19 0 (g61_0 x0.2.2.2.2.2.2.1 x0.2.2.2.2.2.2.2.1 x0.2.2.2.2.2.2.2.2.1) ++ bl fS19 0 (sk19 x0.2.2.2.2.2.2.2.2.2.2.1 x0.2.2.2.2.2.2.2.2.2.1)
def P19 (x0 : (TyA0)) : Prop := x0.2.2.2.2.1.length ≤ 1048576 ∧ (g61_0 x0.2.2.2.2.2.2.1 x0.2.2.2.2.2.2.2.1 x0.2.2.2.2.2.2.2.2.1).length ≤ 1048576 ∧ x0.2.2.2.2.2.2.2.2.2.1.length ≤ 1048576 ∧
  (∀ x ∈ x0.2.2.2.2.1, P60 x ∧ InR .i64 (g60_0 x) ∧ InR .i64 x.2.1 ∧ InR .i64 x.2.2.1) ∧ P61 x0.2.2.2.2.2.2.1 x0.2.2.2.2.2.2.2.1 x0.2.2.2.2.2.2.2.2.1 ∧
  0 ≤ x0.2.2.2.2.2.2.2.2.2.2.1 ∧ x0.2.2.2.2.2.2.2.2.2.2.1 ≤ 100000 ∧ ∀ x ∈ x0.2.2.2.2.2.2.2.2.2.1, 0 ≤ x.1 ∧ x.1 ≤ 100000 ∧ 0 ≤ x.2.1 ∧ x.2.1 ≤ 100000
theorem top19 (x0 : (TyA0)) (h : P19 x0) : ∃ n, R19 n x0 [⟨.sl (.cons (.int .i64) (.cons .str (.cons .str .unit))), g19_0 x0⟩] := by
  obtain ⟨h1, h2, h3, h4, h5, h6, h7, h8⟩ := h
  have hm : 1048576 ≤ maxLen := by decide
  have hmx : maxLen ≤ 9223372036854775807 := by decide
  have l1 : ∀ i x, (fG19 x0.2.2.2.2.2.1 i x).length ≤ 1 := fun i x => by unfold fG19; split <;> simp
  have l2 : ∀ i x, (fC19 i x).length ≤ 1 := fun i x => by simp [fC19]
  have l3 : ∀ i x, (fS19 i x).length ≤ 1 := fun i x => by unfold fS19; split <;> simp
  have b1 := bl_len _ l1 x0.2.2.2.2.1 0
  have b2 := bl_len _ l2 (g61_0 x0.2.2.2.2.2.2.1 x0.2.2.2.2.2.2.2.1 x0.2.2.2.2.2.2.2.2.1) 0
  have sl := sk19_len x0.2.2.2.2.2.2.2.2.2.2.1 x0.2.2.2.2.2.2.2.2.2.1
  have sg := sk19_get x0.2.2.2.2.2.2.2.2.2.2.1 x0.2.2.2.2.2.2.2.2.2.1
  have k3 := loop_build0 (sk19 x0.2.2.2.2.2.2.2.2.2.2.1 x0.2.2.2.2.2.2.2.2.2.1) 0 fS19 l3 2097152 (fun n i h => R19_13 n (i + 1) h x0 [⟨.sl (.cons (.int .i64) (.cons .str (.cons .str .unit))), g19_0 x0⟩]) (fun n i h hi hh hr => by
    have hlt : i + 1 < x0.2.2.2.2.2.2.2.2.2.1.length := by omega
    have e1 : ((i : Int) + 1).toNat = i + 1 := by omega
    have e2 : ((i : Int) + 1 - 1).toNat = i := by omega
    obtain ⟨a1, a2, a3, a4⟩ := h8 _ (mem_getD _ i ((0 : Int), (0 : Int), ()) (by omega))
    obtain ⟨c1, c2, c3, c4⟩ := h8 _ (mem_getD _ (i + 1) ((0 : Int), (0 : Int), ()) hlt)
    unfold fS19 at hr
    rw [sg i (by omega)] at hr
    show R19_13 (n + 1) ((i : Int) + 1) h x0 _
    rw [R19_13, if_pos (by simp only [decide_eq_true_eq]; omega)]
    simp only [e1, e2]
    generalize x0.2.2.2.2.2.2.2.2.2.1.getD i ((0 : Int), (0 : Int), ()) = p at a1 a2 a3 a4 hr ⊢
    generalize x0.2.2.2.2.2.2.2.2.2.1.getD (i + 1) ((0 : Int), (0 : Int), ()) = q at c1 c2 c3 c4 hr ⊢
    have i1 : InR .i64 ((i : Int) + 1 - 1) := by rw [i64_iff]; omega
    refine ⟨by omega, by omega, i1, by omega, by omega, by rw [i64_iff]; omega, i1, by omega, by omega, by rw [i64_iff]; omega, by rw [i64_iff]; omega, ?_⟩
    by_cases hc : decide (q.1 - p.1 - p.2.1 - x0.2.2.2.2.2.2.2.2.2.2.1 < 0) = true
    · rw [if_pos hc] at hr ⊢
      exact ⟨by omega, by rw [i64_iff]; omega, hr⟩
    · rw [if_neg hc] at hr ⊢
      rw [List.append_nil] at hr
      exact ⟨by rw [i64_iff]; omega, hr⟩) 1 (bl (fG19 x0.2.2.2.2.2.1) 0 x0.2.2.2.2.1 ++ bl fC19 0 (g61_0 x0.2.2.2.2.2.2.1 x0.2.2.2.2.2.2.2.1 x0.2.2.2.2.2.2.2.2.1)) (by simp only [List.length_append]; omega) (by
    show R19_13 1 _ _ x0 _
    rw [R19_13, if_neg (by simp only [decide_eq_true_eq]; omega)]
    rfl)
  have k2 := loop_build0 (g61_0 x0.2.2.2.2.2.2.1 x0.2.2.2.2.2.2.2.1 x0.2.2.2.2.2.2.2.2.1) ByteArray.empty fC19 l2 1048576 (fun n i h => R19_9 n i h x0 [⟨.sl (.cons (.int .i64) (.cons .str (.cons .str .unit))), g19_0 x0⟩]) (fun n i h hi hh hr => by
    rw [R19_9, if_pos (by simp only [decide_eq_true_eq]; omega)]
    simp only [Int.toNat_natCast]
    exact ⟨by omega, by omega, by omega, by rw [i64_iff]; omega, hr⟩) (1 + (sk19 x0.2.2.2.2.2.2.2.2.2.2.1 x0.2.2.2.2.2.2.2.2.2.1).length + 1) (bl (fG19 x0.2.2.2.2.2.1) 0 x0.2.2.2.2.1) (by omega) (by
    rw [R19_9, if_neg (by simp)]
    exact k3)
  have k1 := loop_build0 x0.2.2.2.2.1 (ByteArray.empty, (0 : Int), (0 : Int), (0 : Int), ()) (fG19 x0.2.2.2.2.2.1) l1 0 (fun n i h => R19_3 n i h x0 [⟨.sl (.cons (.int .i64) (.cons .str (.cons .str .unit))), g19_0 x0⟩]) (fun n i h hi hh hr => by
    have hy := h4 _ (mem_getD _ i (ByteArray.empty, (0 : Int), (0 : Int), (0 : Int), ()) hi)
    have hp : P58 x0.2.2.2.2.1 [(i : Int)] x0.2.2.2.2.2.1 := ⟨i, rfl, by omega, by omega, hy⟩
    have hg : g58_0 x0.2.2.2.2.1 [(i : Int)] x0.2.2.2.2.2.1 = fit58 (x0.2.2.2.2.1.getD i (ByteArray.empty, (0 : Int), (0 : Int), (0 : Int), ())) x0.2.2.2.2.2.1 := rfl
    rw [R19_3, if_pos (by simp only [decide_eq_true_eq]; omega), hg]
    simp only [Int.toNat_natCast]
    refine ⟨hp, ?_⟩
    unfold fG19 at hr
    generalize x0.2.2.2.2.1.getD i (ByteArray.empty, (0 : Int), (0 : Int), (0 : Int), ()) = y at hy hr ⊢
    by_cases hc : (!fit58 y x0.2.2.2.2.2.1) = true
    · rw [if_pos hc] at hr ⊢
      exact ⟨by omega, by omega, by omega, by omega, hy.1, by omega, by rw [i64_iff]; omega, hr⟩
    · rw [if_neg hc] at hr ⊢
      rw [List.append_nil] at hr
      exact ⟨by rw [i64_iff]; omega, hr⟩) (1 + (sk19 x0.2.2.2.2.2.2.2.2.2.2.1 x0.2.2.2.2.2.2.2.2.2.1).length + 1 + (g61_0 x0.2.2.2.2.2.2.1 x0.2.2.2.2.2.2.2.1 x0.2.2.2.2.2.2.2.2.1).length + 1) [] (by simp) (by
    rw [R19_3, if_neg (by simp)]
    exact ⟨h5, k2⟩)
  exact ⟨1 + (sk19 x0.2.2.2.2.2.2.2.2.2.2.1 x0.2.2.2.2.2.2.2.2.2.1).length + 1 + (g61_0 x0.2.2.2.2.2.2.1 x0.2.2.2.2.2.2.2.1 x0.2.2.2.2.2.2.2.2.1).length + 1 + x0.2.2.2.2.1.length + 1, by rw [R19]; exact k1⟩
def S19 : Am.Spec := { sig := sig19, pre := fun ⟨x0, _⟩ => P19 x0, res := fun ⟨x0, _⟩ => [⟨.sl (.cons (.int .i64) (.cons .str (.cons .str .unit))), g19_0 x0⟩] }
theorem con19 : Contract Tryz.prog 19 S19 := contract_of Tryz.func19 hb19 (Nat.le_of_ble_eq_true (by kernel_rfl)) (fun ⟨x0, _⟩ h hwf K q =>
  let ⟨_, hn⟩ := top19 x0 h
  (snd19 _).1 x0 _ hn K q)
end
noncomputable section
def ext5 : Ext := [(18, S18), (19, S19)]
theorem ext5Ok : ExtOk Tryz.prog ext5 := ⟨⟨ca18, con18⟩, ⟨ca19, con19⟩, trivial⟩
noncomputable def b5 : Code := bodyOf Tryz.f5
theorem hb5 : Tryz.f5.body = some b5 := by kernel_rfl
def sig5 : List AT := [AT.v YA0]
def tys5 : List Ty := [Ty.sl YA8, Ty.int .i64]
def kds5 : List RK := []
def oks5 : List AT := owns sig5
def P5 (x0 : TyA0) : Prop := (if (!g18_0 x0) = true then True else ((P19 x0) ∧ True))
def g5_0 (x0 : TyA0) : List TyB3 := (if (!g18_0 x0) = true then [] else g19_0 x0)
def g5_1 (x0 : TyA0) : Int := (if (!g18_0 x0) = true then 1 else 0)
theorem at5 (x0 : TyA0) (h : P5 x0) (K : Ctx) (q : Nat → Value) : AtV Tryz.prog 5 (PostR kds5 oks5 [⟨Ty.sl YA8, g5_0 x0⟩, ⟨Ty.int .i64, g5_1 x0⟩] [] [] q K) 7 K q [] [.code b5] (entE 0 0 sig5 (x0, ())) (entL sig5 (x0, ())) := by
  unfold P5 at h
  unfold g5_0 g5_1
  by_cases b0 : (!g18_0 x0) = true
  · try simp only [if_pos b0] at h ⊢
    exact AtV.ret Tryz.func5 tabOk ext5Ok mixed false [] tys5 [true] (a1 trivial (a1 b0 trivial)) (by kernel_rfl)
  · try simp only [if_neg b0] at h ⊢
    replace b0 := Bool.eq_false_iff.2 b0
    obtain ⟨s0, h⟩ := h
    exact AtV.ret Tryz.func5 tabOk ext5Ok mixed false [] tys5 [false] (a1 trivial (a1 b0 (a1 s0 trivial))) (by kernel_rfl)
def S5 : Am.Spec := { sig := sig5, pre := fun ⟨x0, _⟩ => P5 x0, res := fun ⟨x0, _⟩ => [⟨Ty.sl YA8, g5_0 x0⟩, ⟨Ty.int .i64, g5_1 x0⟩], kds := kds5 }
theorem con5 : Contract Tryz.prog 5 S5 := contract_of Tryz.func5 hb5 (Nat.le_of_ble_eq_true (by kernel_rfl)) (fun ⟨x0, _⟩ h _ K q => at5 x0 h K q)
end
noncomputable section
def ext45 : Ext := []
theorem ext45Ok : ExtOk Tryz.prog ext45 := trivial
noncomputable def b45 : Code := bodyOf Tryz.f45
theorem hb45 : Tryz.f45.body = some b45 := by kernel_rfl
def sig45 : List AT := [AT.v (Ty.sl YA9), AT.v (Ty.int .i64)]
def tys45 : List Ty := [Ty.int .i64]
def kds45 : List RK := []
def oks45 : List AT := owns sig45
def P45 (x0 : List TyB4) (x1 : Int) : Prop := ((InR .i64 (x1 - (↑(List.length x0) : Int))) ∧ True)
def g45_0 (x0 : List TyB4) (x1 : Int) : Int := (if (decide (x1 - (↑(List.length x0) : Int) < 0)) = true then -1 else x1 - (↑(List.length x0) : Int))
theorem at45 (x0 : List TyB4) (x1 : Int) (h : P45 x0 x1) (K : Ctx) (q : Nat → Value) : AtV Tryz.prog 45 (PostR kds45 oks45 [⟨Ty.int .i64, g45_0 x0 x1⟩] [] [] q K) 12 K q [] [.code b45] (entE 0 0 sig45 (x0, x1, ())) (entL sig45 (x0, x1, ())) := by
  unfold P45 at h
  unfold g45_0
  obtain ⟨s0, h⟩ := h
  by_cases b0 : (decide (x1 - (↑(List.length x0) : Int) < 0)) = true
  · try simp only [if_pos b0] at h ⊢
    exact AtV.ret Tryz.func45 tabOk ext45Ok mixed false [] tys45 [true] (a1 s0 (a1 b0 trivial)) (by kernel_rfl)
  · try simp only [if_neg b0] at h ⊢
    replace b0 := Bool.eq_false_iff.2 b0
    exact AtV.ret Tryz.func45 tabOk ext45Ok mixed false [] tys45 [false] (a1 s0 (a1 b0 trivial)) (by kernel_rfl)
def S45 : Am.Spec := { sig := sig45, pre := fun ⟨x0, x1, _⟩ => P45 x0 x1, res := fun ⟨x0, x1, _⟩ => [⟨Ty.int .i64, g45_0 x0 x1⟩], kds := kds45 }
theorem con45 : Contract Tryz.prog 45 S45 := contract_of Tryz.func45 hb45 (Nat.le_of_ble_eq_true (by kernel_rfl)) (fun ⟨x0, x1, _⟩ h _ K q => at45 x0 x1 h K q)
theorem g45_le (x0 : List TyB4) (x1 : Int) (h : 0 ≤ x1) (hi : InR .i64 x1) (hw : Wf (.sl (.cons (.int .i64) (.cons (.int .i64) .unit))) x0) (hg : ¬ g45_0 x0 x1 < 0) : P45 x0 x1 ∧ g45_0 x0 x1 ≤ x1 - x0.length := by
  have hm : x0.length ≤ 9223372036854775807 := hw.1
  rw [i64_iff] at hi
  unfold g45_0 P45 at *
  simp only [decide_eq_true_eq, i64_iff] at *
  refine ⟨?_, ?_⟩
  · repeat' (first | apply And.intro | split)
    all_goals first | trivial | omega
  · split at hg <;> rename_i hc
    · omega
    · rw [if_neg hc]; omega
end
noncomputable section
def ext13 : Ext := [(45, S45)]
theorem ext13Ok : ExtOk Tryz.prog ext13 := ⟨⟨ca45, con45⟩, trivial⟩
noncomputable def b13 : Code := bodyOf Tryz.f13
theorem hb13 : Tryz.f13.body = some b13 := by kernel_rfl
def sig13 : List AT := [AT.v YA2, AT.v (Ty.int .i64)]
def tys13 : List Ty := [Ty.int .i64]
def kds13 : List RK := []
def oks13 : List AT := owns sig13
def P13 (x0 : List TyB4 × Int × Int × Unit) (x1 : Int) : Prop := ((P45 x0.1 x1) ∧ True)
def g13_0 (x0 : List TyB4 × Int × Int × Unit) (x1 : Int) : Int := (if (decide (g45_0 x0.1 x1 < 0)) = true then -1 else g45_0 x0.1 x1)
theorem at13 (x0 : List TyB4 × Int × Int × Unit) (x1 : Int) (h : P13 x0 x1) (K : Ctx) (q : Nat → Value) : AtV Tryz.prog 13 (PostR kds13 oks13 [⟨Ty.int .i64, g13_0 x0 x1⟩] [] [] q K) 12 K q [] [.code b13] (entE 0 0 sig13 (x0, x1, ())) (entL sig13 (x0, x1, ())) := by
  unfold P13 at h
  unfold g13_0
  obtain ⟨s0, h⟩ := h
  by_cases b0 : (decide (g45_0 x0.1 x1 < 0)) = true
  · try simp only [if_pos b0] at h ⊢
    exact AtV.ret Tryz.func13 tabOk ext13Ok mixed false [] tys13 [true] (a1 s0 (a1 b0 trivial)) (by kernel_rfl)
  · try simp only [if_neg b0] at h ⊢
    replace b0 := Bool.eq_false_iff.2 b0
    exact AtV.ret Tryz.func13 tabOk ext13Ok mixed false [] tys13 [false] (a1 s0 (a1 b0 trivial)) (by kernel_rfl)
def S13 : Am.Spec := { sig := sig13, pre := fun ⟨x0, x1, _⟩ => P13 x0 x1, res := fun ⟨x0, x1, _⟩ => [⟨Ty.int .i64, g13_0 x0 x1⟩], kds := kds13 }
theorem con13 : Contract Tryz.prog 13 S13 := contract_of Tryz.func13 hb13 (Nat.le_of_ble_eq_true (by kernel_rfl)) (fun ⟨x0, x1, _⟩ h _ K q => at13 x0 x1 h K q)
end
noncomputable section
def ext46 : Ext := []
theorem ext46Ok : ExtOk Tryz.prog ext46 := trivial
noncomputable def b46 : Code := bodyOf Tryz.f46
theorem hb46 : Tryz.f46.body = some b46 := by kernel_rfl
def sig46 : List AT := [AT.v YA5, AT.v (Ty.int .i64)]
def tys46 : List Ty := [Ty.int .i64]
def kds46 : List RK := []
def oks46 : List AT := owns sig46
def P46 (x0 : ByteArray × Int × Int × Int × Unit) (x1 : Int) : Prop := ((InR .i64 (x1 - (↑(ByteArray.size x0.1) : Int))) ∧ True)
def g46_0 (x0 : ByteArray × Int × Int × Int × Unit) (x1 : Int) : Int := (if (decide (x1 - (↑(ByteArray.size x0.1) : Int) < 0)) = true then -1 else x1 - (↑(ByteArray.size x0.1) : Int))
theorem at46 (x0 : ByteArray × Int × Int × Int × Unit) (x1 : Int) (h : P46 x0 x1) (K : Ctx) (q : Nat → Value) : AtV Tryz.prog 46 (PostR kds46 oks46 [⟨Ty.int .i64, g46_0 x0 x1⟩] [] [] q K) 13 K q [] [.code b46] (entE 0 0 sig46 (x0, x1, ())) (entL sig46 (x0, x1, ())) := by
  unfold P46 at h
  unfold g46_0
  obtain ⟨s0, h⟩ := h
  by_cases b0 : (decide (x1 - (↑(ByteArray.size x0.1) : Int) < 0)) = true
  · try simp only [if_pos b0] at h ⊢
    exact AtV.ret Tryz.func46 tabOk ext46Ok mixed false [] tys46 [true] (a1 s0 (a1 b0 trivial)) (by kernel_rfl)
  · try simp only [if_neg b0] at h ⊢
    replace b0 := Bool.eq_false_iff.2 b0
    exact AtV.ret Tryz.func46 tabOk ext46Ok mixed false [] tys46 [false] (a1 s0 (a1 b0 trivial)) (by kernel_rfl)
def S46 : Am.Spec := { sig := sig46, pre := fun ⟨x0, x1, _⟩ => P46 x0 x1, res := fun ⟨x0, x1, _⟩ => [⟨Ty.int .i64, g46_0 x0 x1⟩], kds := kds46 }
theorem con46 : Contract Tryz.prog 46 S46 := contract_of Tryz.func46 hb46 (Nat.le_of_ble_eq_true (by kernel_rfl)) (fun ⟨x0, x1, _⟩ h _ K q => at46 x0 x1 h K q)
theorem sz46 (x0 : TyB1) (x1 : Int) (h : 0 ≤ x1) (hi : InR .i64 x1) (hw : Wf (.cons .str (.cons (.int .i64) (.cons (.int .i64) (.cons (.int .i64) .unit)))) x0) :
    P46 x0 x1 ∧ -1 ≤ g46_0 x0 x1 ∧ g46_0 x0 x1 ≤ x1 := by
  have h0 : x0.1.size ≤ 9223372036854775807 := hw.1
  rw [i64_iff] at hi
  unfold P46 g46_0
  simp only [decide_eq_true_eq, i64_iff]
  repeat' (first | apply And.intro | split)
  all_goals first | trivial | omega
end
noncomputable section
def ext14 : Ext := [(46, S46)]
theorem ext14Ok : ExtOk Tryz.prog ext14 := ⟨⟨ca46, con46⟩, trivial⟩
noncomputable def b14 : Code := bodyOf Tryz.f14
theorem hb14 : Tryz.f14.body = some b14 := by kernel_rfl
def sig14 : List AT := [AT.v (Ty.sl YA5), AT.v (Ty.int .i64)]
def tys14 : List Ty := [Ty.int .i64]
def kds14 : List RK := []
def oks14 : List AT := owns sig14
def E14_5 (v1 : Int) (v5 : Int) (x0 : List TyB1) : Env := [(0, PV.a (Atom.sl YA5 x0)), (1, PV.a (Atom.val (Value.int .i64 v1))), (5, PV.a (Atom.val (Value.int .i64 v5)))]
def L14_5 (v1 : Int) (v5 : Int) (x0 : List TyB1) : Heap := []
mutual
def R14 : Nat → List TyB1 → Int → List Dyn → Prop
  | 0, _, _, _ => False
  | n + 1, x0, x1, ds => ((InR .i64 (x1 - (↑(List.length x0) : Int))) ∧ (if (decide (x1 - (↑(List.length x0) : Int) < 0)) = true then (ds = [Dyn.mk (Ty.int .i64) (-1)]) else (R14_5 n (x1 - (↑(List.length x0) : Int)) (0) (x0) ds)))
def R14_5 : Nat → Int → Int → List TyB1 → List Dyn → Prop
  | 0, _, _, _, _ => False
  | n + 1, v1, v5, x0, ds => (if (decide (v5 < (↑(List.length x0) : Int))) = true then ((0 ≤ v5) ∧ (v5 < (↑(List.length x0) : Int)) ∧ ((P46 (List.getD x0 (Int.toNat v5) (ByteArray.empty, 0, 0, 0, ())) v1) ∧ (if (decide (g46_0 (List.getD x0 (Int.toNat v5) (ByteArray.empty, 0, 0, 0, ())) v1 < 0)) = true then (ds = [Dyn.mk (Ty.int .i64) (-1)]) else ((InR .i64 (v5 + 1)) ∧ (R14_5 n (g46_0 (List.getD x0 (Int.toNat v5) (ByteArray.empty, 0, 0, 0, ())) v1) (v5 + 1) (x0) ds))))) else (ds = [Dyn.mk (Ty.int .i64) v1]))
end
theorem snd14 : ∀ n, (∀ (x0 : List TyB1) (x1 : Int) ds, R14 n x0 x1 ds → ∀ K q, AtV Tryz.prog 14 (PostR kds14 oks14 ds [] [] q K) 27 K q [] [.code b14] (entE 0 0 sig14 (x0, x1, ())) (entL sig14 (x0, x1, ()))) ∧ (∀ (v1 : Int) (v5 : Int) (x0 : List TyB1) ds, R14_5 n v1 v5 x0 ds → ∀ K q, AtV Tryz.prog 14 (PostR kds14 oks14 ds [] [] q K) 27 K q [] (cutAt b14 5) (E14_5 v1 v5 x0) (L14_5 v1 v5 x0)) := by
  intro n
  induction n with
  | zero => exact ⟨fun _ _ _ h => by simp only [R14] at h, fun _ _ _ _ h => by simp only [R14_5] at h⟩
  | succ n ih =>
  obtain ⟨ih, ih5⟩ := ih
  refine ⟨?_, ?_⟩
  · intro x0 x1 ds h K q
    rw [R14] at h
    obtain ⟨s0, h⟩ := h
    by_cases b0 : (decide (x1 - (↑(List.length x0) : Int) < 0)) = true
    · rw [if_pos b0] at h
      subst h
      exact AtV.ret Tryz.func14 tabOk ext14Ok mixed false [] tys14 [true] (a1 s0 (a1 b0 trivial)) (by kernel_rfl)
    · rw [if_neg b0] at h
      replace b0 := Bool.eq_false_iff.2 b0
      exact AtV.go tabOk ext14Ok mixed false [] [] [0, 1, 5] [] [false] (a1 s0 (a1 b0 trivial)) (ih5 _ _ _ _ h K q) (by kernel_rfl)
  · intro v1 v5 x0 ds h K q
    rw [R14_5] at h
    by_cases b0 : (decide (v5 < (↑(List.length x0) : Int))) = true
    · rw [if_pos b0] at h
      obtain ⟨s0, s1, h⟩ := h
      obtain ⟨s2, h⟩ := h
      by_cases b1 : (decide (g46_0 (List.getD x0 (Int.toNat v5) (ByteArray.empty, 0, 0, 0, ())) v1 < 0)) = true
      · rw [if_pos b1] at h
        subst h
        exact AtV.ret Tryz.func14 tabOk ext14Ok mixed false [] tys14 [true, true] (a1 b0 (a1 s0 (a1 s1 (a1 s2 (a1 b1 trivial))))) (by kernel_rfl)
      · rw [if_neg b1] at h
        replace b1 := Bool.eq_false_iff.2 b1
        obtain ⟨s3, h⟩ := h
        exact AtV.go tabOk ext14Ok mixed false [] [] [0, 1, 5] [] [true, false] (a1 b0 (a1 s0 (a1 s1 (a1 s2 (a1 b1 (a1 s3 trivial)))))) (ih5 _ _ _ _ h K q) (by kernel_rfl)
    · rw [if_neg b0] at h
      replace b0 := Bool.eq_false_iff.2 b0
      subst h
      exact AtV.ret Tryz.func14 tabOk ext14Ok mixed false [] tys14 [false] (a1 b0 trivial) (by kernel_rfl)
def szL14 : List TyB1 → Int → Int
  | [], l => l
  | x :: r, l => if g46_0 x l < 0 then -1 else szL14 r (g46_0 x l)
theorem szL14_ok : ∀ (x0 : List TyB1) (l : Int), 0 ≤ l → InR .i64 l → (∀ x ∈ x0, Wf (.cons .str (.cons (.int .i64) (.cons (.int .i64) (.cons (.int .i64) .unit)))) x) → szL14 x0 l ≤ l
  | [], l, _, _, _ => Int.le_refl _
  | x :: r, l, h, hi, hw => by
    obtain ⟨_, h2, h3⟩ := sz46 x l h hi (hw x (List.mem_cons_self ..))
    simp only [szL14]
    rw [i64_iff] at hi
    split
    · omega
    · have := szL14_ok r (g46_0 x l) (by omega) (by rw [i64_iff]; omega) (fun y hy => hw y (List.mem_cons_of_mem _ hy))
      omega
theorem run14 (x0 : List TyB1) (hm : x0.length ≤ maxLen) (hw : ∀ x ∈ x0, Wf (.cons .str (.cons (.int .i64) (.cons (.int .i64) (.cons (.int .i64) .unit)))) x) : ∀ (k i : Nat) (l : Int), i + k = x0.length → 0 ≤ l → InR .i64 l →
    R14_5 (k + 1) l (i : Int) x0 [⟨.int .i64, szL14 (x0.drop i) l⟩] := by
  intro k
  induction k with
  | zero =>
    intro i l hi _ _
    rw [R14_5, if_neg (by simp; omega), drop_end x0 i (by omega)]
    rfl
  | succ k ih =>
    intro i l hi h0 hl
    rw [R14_5, if_pos (by simp; omega)]
    simp only [Int.toNat_natCast]
    have hmem : x0.getD i (ByteArray.empty, (0 : Int), (0 : Int), (0 : Int), ()) ∈ x0 := by rw [getD_lt _ _ _ (by omega)]; exact List.getElem_mem _
    obtain ⟨h1, h2, h3⟩ := sz46 _ l h0 hl (hw _ hmem)
    refine ⟨by omega, by omega, h1, ?_⟩
    rw [drop_get x0 i (ByteArray.empty, (0 : Int), (0 : Int), (0 : Int), ()) (by omega)]
    simp only [szL14]
    have hl' := hl
    rw [i64_iff] at hl'
    by_cases hn : g46_0 (x0.getD i (ByteArray.empty, (0 : Int), (0 : Int), (0 : Int), ())) l < 0
    · rw [if_pos (by simpa using hn), if_pos hn]
    · rw [if_neg (by simpa using hn), if_neg hn]
      exact ⟨inR_up hm (by omega), ih (i + 1) _ (by omega) (by omega) (by rw [i64_iff]; omega)⟩
def g14_0 (x0 : List TyB1) (x1 : Int) : Int := if x1 - x0.length < 0 then -1 else szL14 x0 (x1 - x0.length)
def P14 (x0 : List TyB1) (x1 : Int) : Prop := 0 ≤ x1
theorem g14_le (x0 : List TyB1) (x1 : Int) (h : 0 ≤ x1) (hi : InR .i64 x1) (hw : Wf (.sl (.cons .str (.cons (.int .i64) (.cons (.int .i64) (.cons (.int .i64) .unit))))) x0) (hg : ¬ g14_0 x0 x1 < 0) : g14_0 x0 x1 ≤ x1 - x0.length := by
  unfold g14_0 at hg ⊢
  rw [i64_iff] at hi
  split
  · rename_i h1
    rw [if_pos h1] at hg
    omega
  · exact szL14_ok x0 _ (by omega) (by rw [i64_iff]; omega) hw.2
theorem top14 (x0 : List TyB1) (x1 : Int) (hw : Wf (.sl (.cons .str (.cons (.int .i64) (.cons (.int .i64) (.cons (.int .i64) .unit))))) x0) (hi : InR .i64 x1) (h : 0 ≤ x1) : R14 (x0.length + 1 + 1) x0 x1 [⟨Ty.int .i64, g14_0 x0 x1⟩] := by
  have hm : x0.length ≤ maxLen := hw.1
  have hm' : x0.length ≤ 9223372036854775807 := hm
  rw [i64_iff] at hi
  rw [R14]
  refine ⟨by rw [i64_iff]; omega, ?_⟩
  unfold g14_0
  by_cases hn : x1 - (x0.length : Int) < 0
  · rw [if_pos (by simpa using hn), if_pos hn]
  · rw [if_neg (by simpa using hn), if_neg hn]
    have := run14 x0 hm hw.2 x0.length 0 (x1 - x0.length) (by omega) (by omega) (by rw [i64_iff]; omega)
    simpa using this
def S14 : Am.Spec := { sig := sig14, pre := fun ⟨x0, x1, _⟩ => P14 x0 x1, res := fun ⟨x0, x1, _⟩ => [⟨Ty.int .i64, g14_0 x0 x1⟩] }
theorem con14 : Contract Tryz.prog 14 S14 := contract_of Tryz.func14 hb14 (Nat.le_of_ble_eq_true (by kernel_rfl)) (fun ⟨x0, x1, _⟩ h hwf K q =>
  (snd14 _).1 x0 x1 _ (top14 x0 x1 hwf.1 hwf.2.1 h) K q)
end
noncomputable section
def ext47 : Ext := []
theorem ext47Ok : ExtOk Tryz.prog ext47 := trivial
noncomputable def b47 : Code := bodyOf Tryz.f47
theorem hb47 : Tryz.f47.body = some b47 := by kernel_rfl
def sig47 : List AT := [AT.v YA3, AT.v (Ty.int .i64)]
def tys47 : List Ty := [Ty.int .i64]
def kds47 : List RK := []
def oks47 : List AT := owns sig47
def P47 (x0 : ByteArray × Int × Int × Int × Int × Unit) (x1 : Int) : Prop := ((InR .i64 (x1 - (↑(ByteArray.size x0.1) : Int))) ∧ True)
def g47_0 (x0 : ByteArray × Int × Int × Int × Int × Unit) (x1 : Int) : Int := (if (decide (x1 - (↑(ByteArray.size x0.1) : Int) < 0)) = true then -1 else x1 - (↑(ByteArray.size x0.1) : Int))
theorem at47 (x0 : ByteArray × Int × Int × Int × Int × Unit) (x1 : Int) (h : P47 x0 x1) (K : Ctx) (q : Nat → Value) : AtV Tryz.prog 47 (PostR kds47 oks47 [⟨Ty.int .i64, g47_0 x0 x1⟩] [] [] q K) 13 K q [] [.code b47] (entE 0 0 sig47 (x0, x1, ())) (entL sig47 (x0, x1, ())) := by
  unfold P47 at h
  unfold g47_0
  obtain ⟨s0, h⟩ := h
  by_cases b0 : (decide (x1 - (↑(ByteArray.size x0.1) : Int) < 0)) = true
  · try simp only [if_pos b0] at h ⊢
    exact AtV.ret Tryz.func47 tabOk ext47Ok mixed false [] tys47 [true] (a1 s0 (a1 b0 trivial)) (by kernel_rfl)
  · try simp only [if_neg b0] at h ⊢
    replace b0 := Bool.eq_false_iff.2 b0
    exact AtV.ret Tryz.func47 tabOk ext47Ok mixed false [] tys47 [false] (a1 s0 (a1 b0 trivial)) (by kernel_rfl)
def S47 : Am.Spec := { sig := sig47, pre := fun ⟨x0, x1, _⟩ => P47 x0 x1, res := fun ⟨x0, x1, _⟩ => [⟨Ty.int .i64, g47_0 x0 x1⟩], kds := kds47 }
theorem con47 : Contract Tryz.prog 47 S47 := contract_of Tryz.func47 hb47 (Nat.le_of_ble_eq_true (by kernel_rfl)) (fun ⟨x0, x1, _⟩ h _ K q => at47 x0 x1 h K q)
theorem sz47 (x0 : TyB0) (x1 : Int) (h : 0 ≤ x1) (hi : InR .i64 x1) (hw : Wf (.cons .str (.cons (.int .i64) (.cons (.int .i64) (.cons (.int .i64) (.cons (.int .i64) .unit))))) x0) :
    P47 x0 x1 ∧ -1 ≤ g47_0 x0 x1 ∧ g47_0 x0 x1 ≤ x1 := by
  have h0 : x0.1.size ≤ 9223372036854775807 := hw.1
  rw [i64_iff] at hi
  unfold P47 g47_0
  simp only [decide_eq_true_eq, i64_iff]
  repeat' (first | apply And.intro | split)
  all_goals first | trivial | omega
end
noncomputable section
def ext15 : Ext := [(47, S47)]
theorem ext15Ok : ExtOk Tryz.prog ext15 := ⟨⟨ca47, con47⟩, trivial⟩
noncomputable def b15 : Code := bodyOf Tryz.f15
theorem hb15 : Tryz.f15.body = some b15 := by kernel_rfl
def sig15 : List AT := [AT.v (Ty.sl YA3), AT.v (Ty.int .i64)]
def tys15 : List Ty := [Ty.int .i64]
def kds15 : List RK := []
def oks15 : List AT := owns sig15
def E15_5 (v1 : Int) (v5 : Int) (x0 : List TyB0) : Env := [(0, PV.a (Atom.sl YA3 x0)), (1, PV.a (Atom.val (Value.int .i64 v1))), (5, PV.a (Atom.val (Value.int .i64 v5)))]
def L15_5 (v1 : Int) (v5 : Int) (x0 : List TyB0) : Heap := []
mutual
def R15 : Nat → List TyB0 → Int → List Dyn → Prop
  | 0, _, _, _ => False
  | n + 1, x0, x1, ds => ((InR .i64 (x1 - (↑(List.length x0) : Int))) ∧ (if (decide (x1 - (↑(List.length x0) : Int) < 0)) = true then (ds = [Dyn.mk (Ty.int .i64) (-1)]) else (R15_5 n (x1 - (↑(List.length x0) : Int)) (0) (x0) ds)))
def R15_5 : Nat → Int → Int → List TyB0 → List Dyn → Prop
  | 0, _, _, _, _ => False
  | n + 1, v1, v5, x0, ds => (if (decide (v5 < (↑(List.length x0) : Int))) = true then ((0 ≤ v5) ∧ (v5 < (↑(List.length x0) : Int)) ∧ ((P47 (List.getD x0 (Int.toNat v5) (ByteArray.empty, 0, 0, 0, 0, ())) v1) ∧ (if (decide (g47_0 (List.getD x0 (Int.toNat v5) (ByteArray.empty, 0, 0, 0, 0, ())) v1 < 0)) = true then (ds = [Dyn.mk (Ty.int .i64) (-1)]) else ((InR .i64 (v5 + 1)) ∧ (R15_5 n (g47_0 (List.getD x0 (Int.toNat v5) (ByteArray.empty, 0, 0, 0, 0, ())) v1) (v5 + 1) (x0) ds))))) else (ds = [Dyn.mk (Ty.int .i64) v1]))
end
theorem snd15 : ∀ n, (∀ (x0 : List TyB0) (x1 : Int) ds, R15 n x0 x1 ds → ∀ K q, AtV Tryz.prog 15 (PostR kds15 oks15 ds [] [] q K) 27 K q [] [.code b15] (entE 0 0 sig15 (x0, x1, ())) (entL sig15 (x0, x1, ()))) ∧ (∀ (v1 : Int) (v5 : Int) (x0 : List TyB0) ds, R15_5 n v1 v5 x0 ds → ∀ K q, AtV Tryz.prog 15 (PostR kds15 oks15 ds [] [] q K) 27 K q [] (cutAt b15 5) (E15_5 v1 v5 x0) (L15_5 v1 v5 x0)) := by
  intro n
  induction n with
  | zero => exact ⟨fun _ _ _ h => by simp only [R15] at h, fun _ _ _ _ h => by simp only [R15_5] at h⟩
  | succ n ih =>
  obtain ⟨ih, ih5⟩ := ih
  refine ⟨?_, ?_⟩
  · intro x0 x1 ds h K q
    rw [R15] at h
    obtain ⟨s0, h⟩ := h
    by_cases b0 : (decide (x1 - (↑(List.length x0) : Int) < 0)) = true
    · rw [if_pos b0] at h
      subst h
      exact AtV.ret Tryz.func15 tabOk ext15Ok mixed false [] tys15 [true] (a1 s0 (a1 b0 trivial)) (by kernel_rfl)
    · rw [if_neg b0] at h
      replace b0 := Bool.eq_false_iff.2 b0
      exact AtV.go tabOk ext15Ok mixed false [] [] [0, 1, 5] [] [false] (a1 s0 (a1 b0 trivial)) (ih5 _ _ _ _ h K q) (by kernel_rfl)
  · intro v1 v5 x0 ds h K q
    rw [R15_5] at h
    by_cases b0 : (decide (v5 < (↑(List.length x0) : Int))) = true
    · rw [if_pos b0] at h
      obtain ⟨s0, s1, h⟩ := h
      obtain ⟨s2, h⟩ := h
      by_cases b1 : (decide (g47_0 (List.getD x0 (Int.toNat v5) (ByteArray.empty, 0, 0, 0, 0, ())) v1 < 0)) = true
      · rw [if_pos b1] at h
        subst h
        exact AtV.ret Tryz.func15 tabOk ext15Ok mixed false [] tys15 [true, true] (a1 b0 (a1 s0 (a1 s1 (a1 s2 (a1 b1 trivial))))) (by kernel_rfl)
      · rw [if_neg b1] at h
        replace b1 := Bool.eq_false_iff.2 b1
        obtain ⟨s3, h⟩ := h
        exact AtV.go tabOk ext15Ok mixed false [] [] [0, 1, 5] [] [true, false] (a1 b0 (a1 s0 (a1 s1 (a1 s2 (a1 b1 (a1 s3 trivial)))))) (ih5 _ _ _ _ h K q) (by kernel_rfl)
    · rw [if_neg b0] at h
      replace b0 := Bool.eq_false_iff.2 b0
      subst h
      exact AtV.ret Tryz.func15 tabOk ext15Ok mixed false [] tys15 [false] (a1 b0 trivial) (by kernel_rfl)
def szL15 : List TyB0 → Int → Int
  | [], l => l
  | x :: r, l => if g47_0 x l < 0 then -1 else szL15 r (g47_0 x l)
theorem szL15_ok : ∀ (x0 : List TyB0) (l : Int), 0 ≤ l → InR .i64 l → (∀ x ∈ x0, Wf (.cons .str (.cons (.int .i64) (.cons (.int .i64) (.cons (.int .i64) (.cons (.int .i64) .unit))))) x) → szL15 x0 l ≤ l
  | [], l, _, _, _ => Int.le_refl _
  | x :: r, l, h, hi, hw => by
    obtain ⟨_, h2, h3⟩ := sz47 x l h hi (hw x (List.mem_cons_self ..))
    simp only [szL15]
    rw [i64_iff] at hi
    split
    · omega
    · have := szL15_ok r (g47_0 x l) (by omega) (by rw [i64_iff]; omega) (fun y hy => hw y (List.mem_cons_of_mem _ hy))
      omega
theorem run15 (x0 : List TyB0) (hm : x0.length ≤ maxLen) (hw : ∀ x ∈ x0, Wf (.cons .str (.cons (.int .i64) (.cons (.int .i64) (.cons (.int .i64) (.cons (.int .i64) .unit))))) x) : ∀ (k i : Nat) (l : Int), i + k = x0.length → 0 ≤ l → InR .i64 l →
    R15_5 (k + 1) l (i : Int) x0 [⟨.int .i64, szL15 (x0.drop i) l⟩] := by
  intro k
  induction k with
  | zero =>
    intro i l hi _ _
    rw [R15_5, if_neg (by simp; omega), drop_end x0 i (by omega)]
    rfl
  | succ k ih =>
    intro i l hi h0 hl
    rw [R15_5, if_pos (by simp; omega)]
    simp only [Int.toNat_natCast]
    have hmem : x0.getD i (ByteArray.empty, (0 : Int), (0 : Int), (0 : Int), (0 : Int), ()) ∈ x0 := by rw [getD_lt _ _ _ (by omega)]; exact List.getElem_mem _
    obtain ⟨h1, h2, h3⟩ := sz47 _ l h0 hl (hw _ hmem)
    refine ⟨by omega, by omega, h1, ?_⟩
    rw [drop_get x0 i (ByteArray.empty, (0 : Int), (0 : Int), (0 : Int), (0 : Int), ()) (by omega)]
    simp only [szL15]
    have hl' := hl
    rw [i64_iff] at hl'
    by_cases hn : g47_0 (x0.getD i (ByteArray.empty, (0 : Int), (0 : Int), (0 : Int), (0 : Int), ())) l < 0
    · rw [if_pos (by simpa using hn), if_pos hn]
    · rw [if_neg (by simpa using hn), if_neg hn]
      exact ⟨inR_up hm (by omega), ih (i + 1) _ (by omega) (by omega) (by rw [i64_iff]; omega)⟩
def g15_0 (x0 : List TyB0) (x1 : Int) : Int := if x1 - x0.length < 0 then -1 else szL15 x0 (x1 - x0.length)
def P15 (x0 : List TyB0) (x1 : Int) : Prop := 0 ≤ x1
theorem g15_le (x0 : List TyB0) (x1 : Int) (h : 0 ≤ x1) (hi : InR .i64 x1) (hw : Wf (.sl (.cons .str (.cons (.int .i64) (.cons (.int .i64) (.cons (.int .i64) (.cons (.int .i64) .unit)))))) x0) (hg : ¬ g15_0 x0 x1 < 0) : g15_0 x0 x1 ≤ x1 - x0.length := by
  unfold g15_0 at hg ⊢
  rw [i64_iff] at hi
  split
  · rename_i h1
    rw [if_pos h1] at hg
    omega
  · exact szL15_ok x0 _ (by omega) (by rw [i64_iff]; omega) hw.2
theorem top15 (x0 : List TyB0) (x1 : Int) (hw : Wf (.sl (.cons .str (.cons (.int .i64) (.cons (.int .i64) (.cons (.int .i64) (.cons (.int .i64) .unit)))))) x0) (hi : InR .i64 x1) (h : 0 ≤ x1) : R15 (x0.length + 1 + 1) x0 x1 [⟨Ty.int .i64, g15_0 x0 x1⟩] := by
  have hm : x0.length ≤ maxLen := hw.1
  have hm' : x0.length ≤ 9223372036854775807 := hm
  rw [i64_iff] at hi
  rw [R15]
  refine ⟨by rw [i64_iff]; omega, ?_⟩
  unfold g15_0
  by_cases hn : x1 - (x0.length : Int) < 0
  · rw [if_pos (by simpa using hn), if_pos hn]
  · rw [if_neg (by simpa using hn), if_neg hn]
    have := run15 x0 hm hw.2 x0.length 0 (x1 - x0.length) (by omega) (by omega) (by rw [i64_iff]; omega)
    simpa using this
def S15 : Am.Spec := { sig := sig15, pre := fun ⟨x0, x1, _⟩ => P15 x0 x1, res := fun ⟨x0, x1, _⟩ => [⟨Ty.int .i64, g15_0 x0 x1⟩] }
theorem con15 : Contract Tryz.prog 15 S15 := contract_of Tryz.func15 hb15 (Nat.le_of_ble_eq_true (by kernel_rfl)) (fun ⟨x0, x1, _⟩ h hwf K q =>
  (snd15 _).1 x0 x1 _ (top15 x0 x1 hwf.1 hwf.2.1 h) K q)
end
noncomputable section
def ext16 : Ext := []
theorem ext16Ok : ExtOk Tryz.prog ext16 := trivial
noncomputable def b16 : Code := bodyOf Tryz.f16
theorem hb16 : Tryz.f16.body = some b16 := by kernel_rfl
def sig16 : List AT := [AT.v (Ty.sl YA9), AT.v (Ty.int .i64)]
def tys16 : List Ty := [Ty.int .i64]
def kds16 : List RK := []
def oks16 : List AT := owns sig16
def P16 (x0 : List TyB4) (x1 : Int) : Prop := ((InR .i64 (x1 - (↑(List.length x0) : Int))) ∧ True)
def g16_0 (x0 : List TyB4) (x1 : Int) : Int := (if (decide (x1 - (↑(List.length x0) : Int) < 0)) = true then -1 else x1 - (↑(List.length x0) : Int))
theorem at16 (x0 : List TyB4) (x1 : Int) (h : P16 x0 x1) (K : Ctx) (q : Nat → Value) : AtV Tryz.prog 16 (PostR kds16 oks16 [⟨Ty.int .i64, g16_0 x0 x1⟩] [] [] q K) 12 K q [] [.code b16] (entE 0 0 sig16 (x0, x1, ())) (entL sig16 (x0, x1, ())) := by
  unfold P16 at h
  unfold g16_0
  obtain ⟨s0, h⟩ := h
  by_cases b0 : (decide (x1 - (↑(List.length x0) : Int) < 0)) = true
  · try simp only [if_pos b0] at h ⊢
    exact AtV.ret Tryz.func16 tabOk ext16Ok mixed false [] tys16 [true] (a1 s0 (a1 b0 trivial)) (by kernel_rfl)
  · try simp only [if_neg b0] at h ⊢
    replace b0 := Bool.eq_false_iff.2 b0
    exact AtV.ret Tryz.func16 tabOk ext16Ok mixed false [] tys16 [false] (a1 s0 (a1 b0 trivial)) (by kernel_rfl)
def S16 : Am.Spec := { sig := sig16, pre := fun ⟨x0, x1, _⟩ => P16 x0 x1, res := fun ⟨x0, x1, _⟩ => [⟨Ty.int .i64, g16_0 x0 x1⟩], kds := kds16 }
theorem con16 : Contract Tryz.prog 16 S16 := contract_of Tryz.func16 hb16 (Nat.le_of_ble_eq_true (by kernel_rfl)) (fun ⟨x0, x1, _⟩ h _ K q => at16 x0 x1 h K q)
theorem g16_le (x0 : List TyB4) (x1 : Int) (h : 0 ≤ x1) (hi : InR .i64 x1) (hw : Wf (.sl (.cons (.int .i64) (.cons (.int .i64) .unit))) x0) (hg : ¬ g16_0 x0 x1 < 0) : P16 x0 x1 ∧ g16_0 x0 x1 ≤ x1 - x0.length := by
  have hm : x0.length ≤ 9223372036854775807 := hw.1
  rw [i64_iff] at hi
  unfold g16_0 P16 at *
  simp only [decide_eq_true_eq, i64_iff] at *
  refine ⟨?_, ?_⟩
  · repeat' (first | apply And.intro | split)
    all_goals first | trivial | omega
  · split at hg <;> rename_i hc
    · omega
    · rw [if_neg hc]; omega
end
noncomputable section
def ext48 : Ext := []
theorem ext48Ok : ExtOk Tryz.prog ext48 := trivial
noncomputable def b48 : Code := bodyOf Tryz.f48
theorem hb48 : Tryz.f48.body = some b48 := by kernel_rfl
def sig48 : List AT := [AT.v YA6, AT.v (Ty.int .i64)]
def tys48 : List Ty := [Ty.int .i64]
def kds48 : List RK := []
def oks48 : List AT := owns sig48
def P48 (x0 : Int × Int × ByteArray × Int × Unit) (x1 : Int) : Prop := ((InR .i64 (x1 - (↑(ByteArray.size x0.2.2.1) : Int))) ∧ True)
def g48_0 (x0 : Int × Int × ByteArray × Int × Unit) (x1 : Int) : Int := (if (decide (x1 - (↑(ByteArray.size x0.2.2.1) : Int) < 0)) = true then -1 else x1 - (↑(ByteArray.size x0.2.2.1) : Int))
theorem at48 (x0 : Int × Int × ByteArray × Int × Unit) (x1 : Int) (h : P48 x0 x1) (K : Ctx) (q : Nat → Value) : AtV Tryz.prog 48 (PostR kds48 oks48 [⟨Ty.int .i64, g48_0 x0 x1⟩] [] [] q K) 13 K q [] [.code b48] (entE 0 0 sig48 (x0, x1, ())) (entL sig48 (x0, x1, ())) := by
  unfold P48 at h
  unfold g48_0
  obtain ⟨s0, h⟩ := h
  by_cases b0 : (decide (x1 - (↑(ByteArray.size x0.2.2.1) : Int) < 0)) = true
  · try simp only [if_pos b0] at h ⊢
    exact AtV.ret Tryz.func48 tabOk ext48Ok mixed false [] tys48 [true] (a1 s0 (a1 b0 trivial)) (by kernel_rfl)
  · try simp only [if_neg b0] at h ⊢
    replace b0 := Bool.eq_false_iff.2 b0
    exact AtV.ret Tryz.func48 tabOk ext48Ok mixed false [] tys48 [false] (a1 s0 (a1 b0 trivial)) (by kernel_rfl)
def S48 : Am.Spec := { sig := sig48, pre := fun ⟨x0, x1, _⟩ => P48 x0 x1, res := fun ⟨x0, x1, _⟩ => [⟨Ty.int .i64, g48_0 x0 x1⟩], kds := kds48 }
theorem con48 : Contract Tryz.prog 48 S48 := contract_of Tryz.func48 hb48 (Nat.le_of_ble_eq_true (by kernel_rfl)) (fun ⟨x0, x1, _⟩ h _ K q => at48 x0 x1 h K q)
theorem sz48 (x0 : TyB2) (x1 : Int) (h : 0 ≤ x1) (hi : InR .i64 x1) (hw : Wf (.cons (.int .i64) (.cons (.int .i64) (.cons .str (.cons (.int .i64) .unit)))) x0) :
    P48 x0 x1 ∧ -1 ≤ g48_0 x0 x1 ∧ g48_0 x0 x1 ≤ x1 := by
  have h2 : x0.2.2.1.size ≤ 9223372036854775807 := hw.2.2.1
  rw [i64_iff] at hi
  unfold P48 g48_0
  simp only [decide_eq_true_eq, i64_iff]
  repeat' (first | apply And.intro | split)
  all_goals first | trivial | omega
end
noncomputable section
def ext17 : Ext := [(48, S48)]
theorem ext17Ok : ExtOk Tryz.prog ext17 := ⟨⟨ca48, con48⟩, trivial⟩
noncomputable def b17 : Code := bodyOf Tryz.f17
theorem hb17 : Tryz.f17.body = some b17 := by kernel_rfl
def sig17 : List AT := [AT.v (Ty.sl YA6), AT.v (Ty.int .i64)]
def tys17 : List Ty := [Ty.int .i64]
def kds17 : List RK := []
def oks17 : List AT := owns sig17
def E17_5 (v1 : Int) (v5 : Int) (x0 : List TyB2) : Env := [(0, PV.a (Atom.sl YA6 x0)), (1, PV.a (Atom.val (Value.int .i64 v1))), (5, PV.a (Atom.val (Value.int .i64 v5)))]
def L17_5 (v1 : Int) (v5 : Int) (x0 : List TyB2) : Heap := []
mutual
def R17 : Nat → List TyB2 → Int → List Dyn → Prop
  | 0, _, _, _ => False
  | n + 1, x0, x1, ds => ((InR .i64 (x1 - (↑(List.length x0) : Int))) ∧ (if (decide (x1 - (↑(List.length x0) : Int) < 0)) = true then (ds = [Dyn.mk (Ty.int .i64) (-1)]) else (R17_5 n (x1 - (↑(List.length x0) : Int)) (0) (x0) ds)))
def R17_5 : Nat → Int → Int → List TyB2 → List Dyn → Prop
  | 0, _, _, _, _ => False
  | n + 1, v1, v5, x0, ds => (if (decide (v5 < (↑(List.length x0) : Int))) = true then ((0 ≤ v5) ∧ (v5 < (↑(List.length x0) : Int)) ∧ ((P48 (List.getD x0 (Int.toNat v5) (0, 0, ByteArray.empty, 0, ())) v1) ∧ (if (decide (g48_0 (List.getD x0 (Int.toNat v5) (0, 0, ByteArray.empty, 0, ())) v1 < 0)) = true then (ds = [Dyn.mk (Ty.int .i64) (-1)]) else ((InR .i64 (v5 + 1)) ∧ (R17_5 n (g48_0 (List.getD x0 (Int.toNat v5) (0, 0, ByteArray.empty, 0, ())) v1) (v5 + 1) (x0) ds))))) else (ds = [Dyn.mk (Ty.int .i64) v1]))
end
theorem snd17 : ∀ n, (∀ (x0 : List TyB2) (x1 : Int) ds, R17 n x0 x1 ds → ∀ K q, AtV Tryz.prog 17 (PostR kds17 oks17 ds [] [] q K) 27 K q [] [.code b17] (entE 0 0 sig17 (x0, x1, ())) (entL sig17 (x0, x1, ()))) ∧ (∀ (v1 : Int) (v5 : Int) (x0 : List TyB2) ds, R17_5 n v1 v5 x0 ds → ∀ K q, AtV Tryz.prog 17 (PostR kds17 oks17 ds [] [] q K) 27 K q [] (cutAt b17 5) (E17_5 v1 v5 x0) (L17_5 v1 v5 x0)) := by
  intro n
  induction n with
  | zero => exact ⟨fun _ _ _ h => by simp only [R17] at h, fun _ _ _ _ h => by simp only [R17_5] at h⟩
  | succ n ih =>
  obtain ⟨ih, ih5⟩ := ih
  refine ⟨?_, ?_⟩
  · intro x0 x1 ds h K q
    rw [R17] at h
    obtain ⟨s0, h⟩ := h
    by_cases b0 : (decide (x1 - (↑(List.length x0) : Int) < 0)) = true
    · rw [if_pos b0] at h
      subst h
      exact AtV.ret Tryz.func17 tabOk ext17Ok mixed false [] tys17 [true] (a1 s0 (a1 b0 trivial)) (by kernel_rfl)
    · rw [if_neg b0] at h
      replace b0 := Bool.eq_false_iff.2 b0
      exact AtV.go tabOk ext17Ok mixed false [] [] [0, 1, 5] [] [false] (a1 s0 (a1 b0 trivial)) (ih5 _ _ _ _ h K q) (by kernel_rfl)
  · intro v1 v5 x0 ds h K q
    rw [R17_5] at h
    by_cases b0 : (decide (v5 < (↑(List.length x0) : Int))) = true
    · rw [if_pos b0] at h
      obtain ⟨s0, s1, h⟩ := h
      obtain ⟨s2, h⟩ := h
      by_cases b1 : (decide (g48_0 (List.getD x0 (Int.toNat v5) (0, 0, ByteArray.empty, 0, ())) v1 < 0)) = true
      · rw [if_pos b1] at h
        subst h
        exact AtV.ret Tryz.func17 tabOk ext17Ok mixed false [] tys17 [true, true] (a1 b0 (a1 s0 (a1 s1 (a1 s2 (a1 b1 trivial))))) (by kernel_rfl)
      · rw [if_neg b1] at h
        replace b1 := Bool.eq_false_iff.2 b1
        obtain ⟨s3, h⟩ := h
        exact AtV.go tabOk ext17Ok mixed false [] [] [0, 1, 5] [] [true, false] (a1 b0 (a1 s0 (a1 s1 (a1 s2 (a1 b1 (a1 s3 trivial)))))) (ih5 _ _ _ _ h K q) (by kernel_rfl)
    · rw [if_neg b0] at h
      replace b0 := Bool.eq_false_iff.2 b0
      subst h
      exact AtV.ret Tryz.func17 tabOk ext17Ok mixed false [] tys17 [false] (a1 b0 trivial) (by kernel_rfl)
def szL17 : List TyB2 → Int → Int
  | [], l => l
  | x :: r, l => if g48_0 x l < 0 then -1 else szL17 r (g48_0 x l)
theorem szL17_ok : ∀ (x0 : List TyB2) (l : Int), 0 ≤ l → InR .i64 l → (∀ x ∈ x0, Wf (.cons (.int .i64) (.cons (.int .i64) (.cons .str (.cons (.int .i64) .unit)))) x) → szL17 x0 l ≤ l
  | [], l, _, _, _ => Int.le_refl _
  | x :: r, l, h, hi, hw => by
    obtain ⟨_, h2, h3⟩ := sz48 x l h hi (hw x (List.mem_cons_self ..))
    simp only [szL17]
    rw [i64_iff] at hi
    split
    · omega
    · have := szL17_ok r (g48_0 x l) (by omega) (by rw [i64_iff]; omega) (fun y hy => hw y (List.mem_cons_of_mem _ hy))
      omega
theorem run17 (x0 : List TyB2) (hm : x0.length ≤ maxLen) (hw : ∀ x ∈ x0, Wf (.cons (.int .i64) (.cons (.int .i64) (.cons .str (.cons (.int .i64) .unit)))) x) : ∀ (k i : Nat) (l : Int), i + k = x0.length → 0 ≤ l → InR .i64 l →
    R17_5 (k + 1) l (i : Int) x0 [⟨.int .i64, szL17 (x0.drop i) l⟩] := by
  intro k
  induction k with
  | zero =>
    intro i l hi _ _
    rw [R17_5, if_neg (by simp; omega), drop_end x0 i (by omega)]
    rfl
  | succ k ih =>
    intro i l hi h0 hl
    rw [R17_5, if_pos (by simp; omega)]
    simp only [Int.toNat_natCast]
    have hmem : x0.getD i ((0 : Int), (0 : Int), ByteArray.empty, (0 : Int), ()) ∈ x0 := by rw [getD_lt _ _ _ (by omega)]; exact List.getElem_mem _
    obtain ⟨h1, h2, h3⟩ := sz48 _ l h0 hl (hw _ hmem)
    refine ⟨by omega, by omega, h1, ?_⟩
    rw [drop_get x0 i ((0 : Int), (0 : Int), ByteArray.empty, (0 : Int), ()) (by omega)]
    simp only [szL17]
    have hl' := hl
    rw [i64_iff] at hl'
    by_cases hn : g48_0 (x0.getD i ((0 : Int), (0 : Int), ByteArray.empty, (0 : Int), ())) l < 0
    · rw [if_pos (by simpa using hn), if_pos hn]
    · rw [if_neg (by simpa using hn), if_neg hn]
      exact ⟨inR_up hm (by omega), ih (i + 1) _ (by omega) (by omega) (by rw [i64_iff]; omega)⟩
def g17_0 (x0 : List TyB2) (x1 : Int) : Int := if x1 - x0.length < 0 then -1 else szL17 x0 (x1 - x0.length)
def P17 (x0 : List TyB2) (x1 : Int) : Prop := 0 ≤ x1
theorem g17_le (x0 : List TyB2) (x1 : Int) (h : 0 ≤ x1) (hi : InR .i64 x1) (hw : Wf (.sl (.cons (.int .i64) (.cons (.int .i64) (.cons .str (.cons (.int .i64) .unit))))) x0) (hg : ¬ g17_0 x0 x1 < 0) : g17_0 x0 x1 ≤ x1 - x0.length := by
  unfold g17_0 at hg ⊢
  rw [i64_iff] at hi
  split
  · rename_i h1
    rw [if_pos h1] at hg
    omega
  · exact szL17_ok x0 _ (by omega) (by rw [i64_iff]; omega) hw.2
theorem top17 (x0 : List TyB2) (x1 : Int) (hw : Wf (.sl (.cons (.int .i64) (.cons (.int .i64) (.cons .str (.cons (.int .i64) .unit))))) x0) (hi : InR .i64 x1) (h : 0 ≤ x1) : R17 (x0.length + 1 + 1) x0 x1 [⟨Ty.int .i64, g17_0 x0 x1⟩] := by
  have hm : x0.length ≤ maxLen := hw.1
  have hm' : x0.length ≤ 9223372036854775807 := hm
  rw [i64_iff] at hi
  rw [R17]
  refine ⟨by rw [i64_iff]; omega, ?_⟩
  unfold g17_0
  by_cases hn : x1 - (x0.length : Int) < 0
  · rw [if_pos (by simpa using hn), if_pos hn]
  · rw [if_neg (by simpa using hn), if_neg hn]
    have := run17 x0 hm hw.2 x0.length 0 (x1 - x0.length) (by omega) (by omega) (by rw [i64_iff]; omega)
    simpa using this
def S17 : Am.Spec := { sig := sig17, pre := fun ⟨x0, x1, _⟩ => P17 x0 x1, res := fun ⟨x0, x1, _⟩ => [⟨Ty.int .i64, g17_0 x0 x1⟩] }
theorem con17 : Contract Tryz.prog 17 S17 := contract_of Tryz.func17 hb17 (Nat.le_of_ble_eq_true (by kernel_rfl)) (fun ⟨x0, x1, _⟩ h hwf K q =>
  (snd17 _).1 x0 x1 _ (top17 x0 x1 hwf.1 hwf.2.1 h) K q)
end
noncomputable section
def ext4 : Ext := [(13, S13), (14, S14), (15, S15), (16, S16), (17, S17)]
theorem ext4Ok : ExtOk Tryz.prog ext4 := ⟨⟨ca13, con13⟩, ⟨ca14, con14⟩, ⟨ca15, con15⟩, ⟨ca16, con16⟩, ⟨ca17, con17⟩, trivial⟩
noncomputable def b4 : Code := bodyOf Tryz.f4
theorem hb4 : Tryz.f4.body = some b4 := by kernel_rfl
def sig4 : List AT := [AT.v YA0, AT.v (Ty.int .i64)]
def tys4 : List Ty := [Ty.int .i64]
def kds4 : List RK := []
def oks4 : List AT := owns sig4
def P4 (x0 : TyA0) (x1 : Int) : Prop := ((P13 x0.1 x1) ∧ (if (decide (g13_0 x0.1 x1 < 0)) = true then True else ((P14 x0.2.2.2.2.1 (g13_0 x0.1 x1)) ∧ (if (decide (g14_0 x0.2.2.2.2.1 (g13_0 x0.1 x1) < 0)) = true then True else ((P15 x0.2.2.2.2.2.2.1 (g14_0 x0.2.2.2.2.1 (g13_0 x0.1 x1))) ∧ (if (decide (g15_0 x0.2.2.2.2.2.2.1 (g14_0 x0.2.2.2.2.1 (g13_0 x0.1 x1)) < 0)) = true then True else ((P16 x0.2.2.2.2.2.2.2.2.2.1 (g15_0 x0.2.2.2.2.2.2.1 (g14_0 x0.2.2.2.2.1 (g13_0 x0.1 x1)))) ∧ (if (decide (g16_0 x0.2.2.2.2.2.2.2.2.2.1 (g15_0 x0.2.2.2.2.2.2.1 (g14_0 x0.2.2.2.2.1 (g13_0 x0.1 x1))) < 0)) = true then True else ((P17 x0.2.2.2.2.2.2.2.2.2.2.2.1 (g16_0 x0.2.2.2.2.2.2.2.2.2.1 (g15_0 x0.2.2.2.2.2.2.1 (g14_0 x0.2.2.2.2.1 (g13_0 x0.1 x1))))) ∧ True)))))))))
def g4_0 (x0 : TyA0) (x1 : Int) : Int := (if (decide (g13_0 x0.1 x1 < 0)) = true then -1 else (if (decide (g14_0 x0.2.2.2.2.1 (g13_0 x0.1 x1) < 0)) = true then -1 else (if (decide (g15_0 x0.2.2.2.2.2.2.1 (g14_0 x0.2.2.2.2.1 (g13_0 x0.1 x1)) < 0)) = true then -1 else (if (decide (g16_0 x0.2.2.2.2.2.2.2.2.2.1 (g15_0 x0.2.2.2.2.2.2.1 (g14_0 x0.2.2.2.2.1 (g13_0 x0.1 x1))) < 0)) = true then -1 else (if (decide (g17_0 x0.2.2.2.2.2.2.2.2.2.2.2.1 (g16_0 x0.2.2.2.2.2.2.2.2.2.1 (g15_0 x0.2.2.2.2.2.2.1 (g14_0 x0.2.2.2.2.1 (g13_0 x0.1 x1)))) < 0)) = true then -1 else g17_0 x0.2.2.2.2.2.2.2.2.2.2.2.1 (g16_0 x0.2.2.2.2.2.2.2.2.2.1 (g15_0 x0.2.2.2.2.2.2.1 (g14_0 x0.2.2.2.2.1 (g13_0 x0.1 x1)))))))))
theorem at4 (x0 : TyA0) (x1 : Int) (h : P4 x0 x1) (K : Ctx) (q : Nat → Value) : AtV Tryz.prog 4 (PostR kds4 oks4 [⟨Ty.int .i64, g4_0 x0 x1⟩] [] [] q K) 36 K q [] [.code b4] (entE 0 0 sig4 (x0, x1, ())) (entL sig4 (x0, x1, ())) := by
  unfold P4 at h
  unfold g4_0
  obtain ⟨s0, h⟩ := h
  by_cases b0 : (decide (g13_0 x0.1 x1 < 0)) = true
  · try simp only [if_pos b0] at h ⊢
    exact AtV.ret Tryz.func4 tabOk ext4Ok mixed false [] tys4 [true] (a1 s0 (a1 b0 trivial)) (by kernel_rfl)
  · try simp only [if_neg b0] at h ⊢
    replace b0 := Bool.eq_false_iff.2 b0
    obtain ⟨s1, h⟩ := h
    by_cases b1 : (decide (g14_0 x0.2.2.2.2.1 (g13_0 x0.1 x1) < 0)) = true
    · try simp only [if_pos b1] at h ⊢
      exact AtV.ret Tryz.func4 tabOk ext4Ok mixed false [] tys4 [false, true] (a1 s0 (a1 b0 (a1 s1 (a1 b1 trivial)))) (by kernel_rfl)
    · try simp only [if_neg b1] at h ⊢
      replace b1 := Bool.eq_false_iff.2 b1
      obtain ⟨s2, h⟩ := h
      by_cases b2 : (decide (g15_0 x0.2.2.2.2.2.2.1 (g14_0 x0.2.2.2.2.1 (g13_0 x0.1 x1)) < 0)) = true
      · try simp only [if_pos b2] at h ⊢
        exact AtV.ret Tryz.func4 tabOk ext4Ok mixed false [] tys4 [false, false, true] (a1 s0 (a1 b0 (a1 s1 (a1 b1 (a1 s2 (a1 b2 trivial)))))) (by kernel_rfl)
      · try simp only [if_neg b2] at h ⊢
        replace b2 := Bool.eq_false_iff.2 b2
        obtain ⟨s3, h⟩ := h
        by_cases b3 : (decide (g16_0 x0.2.2.2.2.2.2.2.2.2.1 (g15_0 x0.2.2.2.2.2.2.1 (g14_0 x0.2.2.2.2.1 (g13_0 x0.1 x1))) < 0)) = true
        · try simp only [if_pos b3] at h ⊢
          exact AtV.ret Tryz.func4 tabOk ext4Ok mixed false [] tys4 [false, false, false, true] (a1 s0 (a1 b0 (a1 s1 (a1 b1 (a1 s2 (a1 b2 (a1 s3 (a1 b3 trivial)))))))) (by kernel_rfl)
        · try simp only [if_neg b3] at h ⊢
          replace b3 := Bool.eq_false_iff.2 b3
          obtain ⟨s4, h⟩ := h
          by_cases b4 : (decide (g17_0 x0.2.2.2.2.2.2.2.2.2.2.2.1 (g16_0 x0.2.2.2.2.2.2.2.2.2.1 (g15_0 x0.2.2.2.2.2.2.1 (g14_0 x0.2.2.2.2.1 (g13_0 x0.1 x1)))) < 0)) = true
          · try simp only [if_pos b4] at h ⊢
            exact AtV.ret Tryz.func4 tabOk ext4Ok mixed false [] tys4 [false, false, false, false, true] (a1 s0 (a1 b0 (a1 s1 (a1 b1 (a1 s2 (a1 b2 (a1 s3 (a1 b3 (a1 s4 (a1 b4 trivial)))))))))) (by kernel_rfl)
          · try simp only [if_neg b4] at h ⊢
            replace b4 := Bool.eq_false_iff.2 b4
            exact AtV.ret Tryz.func4 tabOk ext4Ok mixed false [] tys4 [false, false, false, false, false] (a1 s0 (a1 b0 (a1 s1 (a1 b1 (a1 s2 (a1 b2 (a1 s3 (a1 b3 (a1 s4 (a1 b4 trivial)))))))))) (by kernel_rfl)
def S4 : Am.Spec := { sig := sig4, pre := fun ⟨x0, x1, _⟩ => P4 x0 x1, res := fun ⟨x0, x1, _⟩ => [⟨Ty.int .i64, g4_0 x0 x1⟩], kds := kds4 }
theorem con4 : Contract Tryz.prog 4 S4 := contract_of Tryz.func4 hb4 (Nat.le_of_ble_eq_true (by kernel_rfl)) (fun ⟨x0, x1, _⟩ h _ K q => at4 x0 x1 h K q)
end
noncomputable section
def ext90 : Ext := []
theorem ext90Ok : ExtOk Tryz.prog ext90 := trivial
noncomputable def b90 : Code := bodyOf Tryz.f90
theorem hb90 : Tryz.f90.body = some b90 := by kernel_rfl
def sig90 : List AT := [AT.v YA9]
def tys90 : List Ty := [Ty.cons (Ty.int .i64) (Ty.cons (Ty.int .i64) Ty.unit)]
def kds90 : List RK := []
def oks90 : List AT := owns sig90
def P90 (x0 : Int × Int × Unit) : Prop := True
def g90_0 (x0 : Int × Int × Unit) : Int × Int × Unit := (x0.1, x0.2.1, ())
theorem at90 (x0 : Int × Int × Unit) (h : P90 x0) (K : Ctx) (q : Nat → Value) : AtV Tryz.prog 90 (PostR kds90 oks90 [⟨Ty.cons (Ty.int .i64) (Ty.cons (Ty.int .i64) Ty.unit), g90_0 x0⟩] [] [] q K) 11 K q [] [.code b90] (entE 0 0 sig90 (x0, ())) (entL sig90 (x0, ())) := by
  unfold P90 at h
  unfold g90_0
  exact AtV.ret Tryz.func90 tabOk ext90Ok mixed false [] tys90 [] trivial (by kernel_rfl)
def S90 : Am.Spec := { sig := sig90, pre := fun ⟨x0, _⟩ => P90 x0, res := fun ⟨x0, _⟩ => [⟨Ty.cons (Ty.int .i64) (Ty.cons (Ty.int .i64) Ty.unit), g90_0 x0⟩], kds := kds90 }
theorem con90 : Contract Tryz.prog 90 S90 := contract_of Tryz.func90 hb90 (Nat.le_of_ble_eq_true (by kernel_rfl)) (fun ⟨x0, _⟩ h _ K q => at90 x0 h K q)
end
noncomputable section
def ext62 : Ext := [(90, S90)]
theorem ext62Ok : ExtOk Tryz.prog ext62 := ⟨⟨ca90, con90⟩, trivial⟩
noncomputable def b62 : Code := bodyOf Tryz.f62
theorem hb62 : Tryz.f62.body = some b62 := by kernel_rfl
def sig62 : List AT := [AT.v (Ty.sl YA9)]
def tys62 : List Ty := [Ty.sl YA9]
def kds62 : List RK := []
def oks62 : List AT := owns sig62
def E62_3 (v4 : Int) (h0 : List TyB4) (x0 : List TyB4) : Env := [(0, PV.a (Atom.sl YA9 x0)), (3, PV.a (Atom.osl 0 Option.none)), (4, PV.a (Atom.val (Value.int .i64 v4)))]
def L62_3 (v4 : Int) (h0 : List TyB4) (x0 : List TyB4) : Heap := [Option.some (Arr.mk YA9 h0 false Option.none Option.none)]
mutual
def R62 : Nat → List TyB4 → List Dyn → Prop
  | 0, _, _ => False
  | n + 1, x0, ds => ((0 ≤ (↑(List.length x0) : Int)) ∧ ((↑(List.length x0) : Int) ≤ (↑(List.length x0) : Int)) ∧ (16 * (↑(List.length x0) : Int) ≤ 281474976710656) ∧ (R62_3 n (0) (List.replicate (Int.toNat (↑(List.length x0) : Int)) (0, 0, ())) (x0) ds))
def R62_3 : Nat → Int → List TyB4 → List TyB4 → List Dyn → Prop
  | 0, _, _, _, _ => False
  | n + 1, v4, h0, x0, ds => (if (decide (v4 < (↑(List.length x0) : Int))) = true then ((0 ≤ v4) ∧ (v4 < (↑(List.length x0) : Int)) ∧ ((0 ≤ v4) ∧ (v4 < (↑(List.length h0) : Int)) ∧ ((InR .i64 (v4 + 1)) ∧ (R62_3 n (v4 + 1) (List.set h0 (Int.toNat v4) ((List.getD x0 (Int.toNat v4) (0, 0, ())).1, (List.getD x0 (Int.toNat v4) (0, 0, ())).2.1, ())) (x0) ds)))) else (ds = [Dyn.mk (Ty.sl YA9) h0]))
end
theorem snd62 : ∀ n, (∀ (x0 : List TyB4) ds, R62 n x0 ds → ∀ K q, AtV Tryz.prog 62 (PostR kds62 oks62 ds [] [] q K) 23 K q [] [.code b62] (entE 0 0 sig62 (x0, ())) (entL sig62 (x0, ()))) ∧ (∀ (v4 : Int) (h0 : List TyB4) (x0 : List TyB4) ds, R62_3 n v4 h0 x0 ds → ∀ K q, AtV Tryz.prog 62 (PostR kds62 oks62 ds [] [] q K) 23 K q [] (cutAt b62 3) (E62_3 v4 h0 x0) (L62_3 v4 h0 x0)) := by
  intro n
  induction n with
  | zero => exact ⟨fun _ _ h => by simp only [R62] at h, fun _ _ _ _ h => by simp only [R62_3] at h⟩
  | succ n ih =>
  obtain ⟨ih, ih3⟩ := ih
  refine ⟨?_, ?_⟩
  · intro x0 ds h K q
    rw [R62] at h
    obtain ⟨s0, s1, s2, h⟩ := h
    exact AtV.go tabOk ext62Ok mixed false [] [] [0, 3, 4] [0] [] (a1 s0 (a1 s1 (a1 s2 trivial))) (ih3 _ _ _ _ h K q) (by kernel_rfl)
  · intro v4 h0 x0 ds h K q
    rw [R62_3] at h
    by_cases b0 : (decide (v4 < (↑(List.length x0) : Int))) = true
    · rw [if_pos b0] at h
      obtain ⟨s0, s1, h⟩ := h
      obtain ⟨s2, s3, h⟩ := h
      obtain ⟨s4, h⟩ := h
      exact AtV.go tabOk ext62Ok mixed false [] [] [0, 3, 4] [0] [true] (a1 b0 (a1 s0 (a1 s1 (a1 trivial (a1 s2 (a1 s3 (a1 s4 trivial))))))) (ih3 _ _ _ _ h K q) (by kernel_rfl)
    · rw [if_neg b0] at h
      replace b0 := Bool.eq_false_iff.2 b0
      subst h
      exact AtV.ret Tryz.func62 tabOk ext62Ok mixed false [] tys62 [false] (a1 b0 trivial) (by kernel_rfl)
theorem run62 (x0 : List TyB4) (hm : x0.length ≤ maxLen) : ∀ (k i : Nat), i + k = x0.length →
    R62_3 (k + 1) (i : Int) (x0.take i ++ List.replicate k ((0 : Int), (0 : Int), ())) x0 [⟨.sl (.cons (.int .i64) (.cons (.int .i64) .unit)), x0⟩] := by
  intro k
  induction k with
  | zero =>
    intro i hi
    rw [R62_3, if_neg (by simp; omega), List.take_of_length_le (by omega)]
    simp
  | succ k ih =>
    intro i hi
    rw [R62_3, if_pos (by simp; omega)]
    simp only [Int.toNat_natCast]
    refine ⟨by omega, by omega, by omega, by simp; omega, inR_up hm (by omega), ?_⟩
    have hs := set_step x0 ((0 : Int), (0 : Int), ()) i (by omega) (k + 1) (by omega)
    have he : ∀ y : TyB4, (y.1, y.2.1, ()) = y := fun _ => rfl
    rw [he, hs]
    exact ih (i + 1) (by omega)
def g62_0 (x0 : List TyB4) : List TyB4 := x0
def P62 (x0 : List TyB4) : Prop := 16 * (x0.length : Int) ≤ 281474976710656
def S62 : Am.Spec := { sig := sig62, pre := fun ⟨x0, _⟩ => P62 x0, res := fun ⟨x0, _⟩ => [⟨.sl (.cons (.int .i64) (.cons (.int .i64) .unit)), g62_0 x0⟩] }
theorem con62 : Contract Tryz.prog 62 S62 := contract_of Tryz.func62 hb62 (Nat.le_of_ble_eq_true (by kernel_rfl)) (fun ⟨x0, _⟩ h hwf K q => by
  refine (snd62 (x0.length + 2)).1 x0 _ ?_ K q
  show R62 (x0.length + 1 + 1) x0 [⟨.sl (.cons (.int .i64) (.cons (.int .i64) .unit)), x0⟩]
  rw [R62]
  refine ⟨by omega, by omega, h, ?_⟩
  have := run62 x0 hwf.1.1 x0.length 0 (by omega)
  simpa using this)
end
noncomputable section
def ext20 : Ext := [(62, S62)]
theorem ext20Ok : ExtOk Tryz.prog ext20 := ⟨⟨ca62, con62⟩, trivial⟩
noncomputable def b20 : Code := bodyOf Tryz.f20
theorem hb20 : Tryz.f20.body = some b20 := by kernel_rfl
def sig20 : List AT := [AT.v YA2]
def tys20 : List Ty := [Ty.cons (Ty.sl YA9) YA9]
def kds20 : List RK := []
def oks20 : List AT := owns sig20
def P20 (x0 : List TyB4 × Int × Int × Unit) : Prop := ((P62 x0.1) ∧ True)
def g20_0 (x0 : List TyB4 × Int × Int × Unit) : List TyB4 × Int × Int × Unit := (g62_0 x0.1, x0.2.1, x0.2.2.1, ())
theorem at20 (x0 : List TyB4 × Int × Int × Unit) (h : P20 x0) (K : Ctx) (q : Nat → Value) : AtV Tryz.prog 20 (PostR kds20 oks20 [⟨Ty.cons (Ty.sl YA9) YA9, g20_0 x0⟩] [] [] q K) 15 K q [] [.code b20] (entE 0 0 sig20 (x0, ())) (entL sig20 (x0, ())) := by
  unfold P20 at h
  unfold g20_0
  obtain ⟨s0, h⟩ := h
  exact AtV.ret Tryz.func20 tabOk ext20Ok mixed false [] tys20 [] (a1 s0 trivial) (by kernel_rfl)
def S20 : Am.Spec := { sig := sig20, pre := fun ⟨x0, _⟩ => P20 x0, res := fun ⟨x0, _⟩ => [⟨Ty.cons (Ty.sl YA9) YA9, g20_0 x0⟩], kds := kds20 }
theorem con20 : Contract Tryz.prog 20 S20 := contract_of Tryz.func20 hb20 (Nat.le_of_ble_eq_true (by kernel_rfl)) (fun ⟨x0, _⟩ h _ K q => at20 x0 h K q)
end
noncomputable section
def ext21 : Ext := []
theorem ext21Ok : ExtOk Tryz.prog ext21 := trivial
noncomputable def b21 : Code := bodyOf Tryz.f21
theorem hb21 : Tryz.f21.body = some b21 := by kernel_rfl
def sig21 : List AT := [AT.v YA9]
def tys21 : List Ty := [Ty.cons (Ty.int .i64) (Ty.cons (Ty.int .i64) Ty.unit)]
def kds21 : List RK := []
def oks21 : List AT := owns sig21
def P21 (x0 : Int × Int × Unit) : Prop := True
def g21_0 (x0 : Int × Int × Unit) : Int × Int × Unit := (x0.1, x0.2.1, ())
theorem at21 (x0 : Int × Int × Unit) (h : P21 x0) (K : Ctx) (q : Nat → Value) : AtV Tryz.prog 21 (PostR kds21 oks21 [⟨Ty.cons (Ty.int .i64) (Ty.cons (Ty.int .i64) Ty.unit), g21_0 x0⟩] [] [] q K) 11 K q [] [.code b21] (entE 0 0 sig21 (x0, ())) (entL sig21 (x0, ())) := by
  unfold P21 at h
  unfold g21_0
  exact AtV.ret Tryz.func21 tabOk ext21Ok mixed false [] tys21 [] trivial (by kernel_rfl)
def S21 : Am.Spec := { sig := sig21, pre := fun ⟨x0, _⟩ => P21 x0, res := fun ⟨x0, _⟩ => [⟨Ty.cons (Ty.int .i64) (Ty.cons (Ty.int .i64) Ty.unit), g21_0 x0⟩], kds := kds21 }
theorem con21 : Contract Tryz.prog 21 S21 := contract_of Tryz.func21 hb21 (Nat.le_of_ble_eq_true (by kernel_rfl)) (fun ⟨x0, _⟩ h _ K q => at21 x0 h K q)
end
noncomputable section
def ext22 : Ext := []
theorem ext22Ok : ExtOk Tryz.prog ext22 := trivial
noncomputable def b22 : Code := bodyOf Tryz.f22
theorem hb22 : Tryz.f22.body = some b22 := by kernel_rfl
def sig22 : List AT := [AT.v YA4]
def tys22 : List Ty := [Ty.cons (Ty.int .i64) YA7]
def kds22 : List RK := []
def oks22 : List AT := owns sig22
def P22 (x0 : Int × Int × Int × Int × Unit) : Prop := True
def g22_0 (x0 : Int × Int × Int × Int × Unit) : Int × Int × Int × Int × Unit := (x0.1, x0.2.1, x0.2.2.1, x0.2.2.2.1, ())
theorem at22 (x0 : Int × Int × Int × Int × Unit) (h : P22 x0) (K : Ctx) (q : Nat → Value) : AtV Tryz.prog 22 (PostR kds22 oks22 [⟨Ty.cons (Ty.int .i64) YA7, g22_0 x0⟩] [] [] q K) 17 K q [] [.code b22] (entE 0 0 sig22 (x0, ())) (entL sig22 (x0, ())) := by
  unfold P22 at h
  unfold g22_0
  exact AtV.ret Tryz.func22 tabOk ext22Ok mixed false [] tys22 [] trivial (by kernel_rfl)
def S22 : Am.Spec := { sig := sig22, pre := fun ⟨x0, _⟩ => P22 x0, res := fun ⟨x0, _⟩ => [⟨Ty.cons (Ty.int .i64) YA7, g22_0 x0⟩], kds := kds22 }
theorem con22 : Contract Tryz.prog 22 S22 := contract_of Tryz.func22 hb22 (Nat.le_of_ble_eq_true (by kernel_rfl)) (fun ⟨x0, _⟩ h _ K q => at22 x0 h K q)
end
noncomputable section
def ext63 : Ext := []
theorem ext63Ok : ExtOk Tryz.prog ext63 := trivial
noncomputable def b63 : Code := bodyOf Tryz.f63
theorem hb63 : Tryz.f63.body = some b63 := by kernel_rfl
def sig63 : List AT := [AT.v YA5]
def tys63 : List Ty := [Ty.cons Ty.str YA7]
def kds63 : List RK := []
def oks63 : List AT := owns sig63
def P63 (x0 : ByteArray × Int × Int × Int × Unit) : Prop := True
def g63_0 (x0 : ByteArray × Int × Int × Int × Unit) : ByteArray × Int × Int × Int × Unit := (x0.1, x0.2.1, x0.2.2.1, x0.2.2.2.1, ())
theorem at63 (x0 : ByteArray × Int × Int × Int × Unit) (h : P63 x0) (K : Ctx) (q : Nat → Value) : AtV Tryz.prog 63 (PostR kds63 oks63 [⟨Ty.cons Ty.str YA7, g63_0 x0⟩] [] [] q K) 17 K q [] [.code b63] (entE 0 0 sig63 (x0, ())) (entL sig63 (x0, ())) := by
  unfold P63 at h
  unfold g63_0
  exact AtV.ret Tryz.func63 tabOk ext63Ok mixed false [] tys63 [] trivial (by kernel_rfl)
def S63 : Am.Spec := { sig := sig63, pre := fun ⟨x0, _⟩ => P63 x0, res := fun ⟨x0, _⟩ => [⟨Ty.cons Ty.str YA7, g63_0 x0⟩], kds := kds63 }
theorem con63 : Contract Tryz.prog 63 S63 := contract_of Tryz.func63 hb63 (Nat.le_of_ble_eq_true (by kernel_rfl)) (fun ⟨x0, _⟩ h _ K q => at63 x0 h K q)
end
noncomputable section
def ext23 : Ext := [(63, S63)]
theorem ext23Ok : ExtOk Tryz.prog ext23 := ⟨⟨ca63, con63⟩, trivial⟩
noncomputable def b23 : Code := bodyOf Tryz.f23
theorem hb23 : Tryz.f23.body = some b23 := by kernel_rfl
def sig23 : List AT := [AT.v (Ty.sl YA5)]
def tys23 : List Ty := [Ty.sl YA5]
def kds23 : List RK := []
def oks23 : List AT := owns sig23
def E23_3 (v4 : Int) (h0 : List TyB1) (x0 : List TyB1) : Env := [(0, PV.a (Atom.sl YA5 x0)), (3, PV.a (Atom.osl 0 Option.none)), (4, PV.a (Atom.val (Value.int .i64 v4)))]
def L23_3 (v4 : Int) (h0 : List TyB1) (x0 : List TyB1) : Heap := [Option.some (Arr.mk YA5 h0 false Option.none Option.none)]
mutual
def R23 : Nat → List TyB1 → List Dyn → Prop
  | 0, _, _ => False
  | n + 1, x0, ds => ((0 ≤ (↑(List.length x0) : Int)) ∧ ((↑(List.length x0) : Int) ≤ (↑(List.length x0) : Int)) ∧ (40 * (↑(List.length x0) : Int) ≤ 281474976710656) ∧ (R23_3 n (0) (List.replicate (Int.toNat (↑(List.length x0) : Int)) (ByteArray.empty, 0, 0, 0, ())) (x0) ds))
def R23_3 : Nat → Int → List TyB1 → List TyB1 → List Dyn → Prop
  | 0, _, _, _, _ => False
  | n + 1, v4, h0, x0, ds => (if (decide (v4 < (↑(List.length x0) : Int))) = true then ((0 ≤ v4) ∧ (v4 < (↑(List.length x0) : Int)) ∧ ((0 ≤ v4) ∧ (v4 < (↑(List.length h0) : Int)) ∧ ((InR .i64 (v4 + 1)) ∧ (R23_3 n (v4 + 1) (List.set h0 (Int.toNat v4) ((List.getD x0 (Int.toNat v4) (ByteArray.empty, 0, 0, 0, ())).1, (List.getD x0 (Int.toNat v4) (ByteArray.empty, 0, 0, 0, ())).2.1, (List.getD x0 (Int.toNat v4) (ByteArray.empty, 0, 0, 0, ())).2.2.1, (List.getD x0 (Int.toNat v4) (ByteArray.empty, 0, 0, 0, ())).2.2.2.1, ())) (x0) ds)))) else (ds = [Dyn.mk (Ty.sl YA5) h0]))
end
theorem snd23 : ∀ n, (∀ (x0 : List TyB1) ds, R23 n x0 ds → ∀ K q, AtV Tryz.prog 23 (PostR kds23 oks23 ds [] [] q K) 23 K q [] [.code b23] (entE 0 0 sig23 (x0, ())) (entL sig23 (x0, ()))) ∧ (∀ (v4 : Int) (h0 : List TyB1) (x0 : List TyB1) ds, R23_3 n v4 h0 x0 ds → ∀ K q, AtV Tryz.prog 23 (PostR kds23 oks23 ds [] [] q K) 23 K q [] (cutAt b23 3) (E23_3 v4 h0 x0) (L23_3 v4 h0 x0)) := by
  intro n
  induction n with
  | zero => exact ⟨fun _ _ h => by simp only [R23] at h, fun _ _ _ _ h => by simp only [R23_3] at h⟩
  | succ n ih =>
  obtain ⟨ih, ih3⟩ := ih
  refine ⟨?_, ?_⟩
  · intro x0 ds h K q
    rw [R23] at h
    obtain ⟨s0, s1, s2, h⟩ := h
    exact AtV.go tabOk ext23Ok mixed false [] [] [0, 3, 4] [0] [] (a1 s0 (a1 s1 (a1 s2 trivial))) (ih3 _ _ _ _ h K q) (by kernel_rfl)
  · intro v4 h0 x0 ds h K q
    rw [R23_3] at h
    by_cases b0 : (decide (v4 < (↑(List.length x0) : Int))) = true
    · rw [if_pos b0] at h
      obtain ⟨s0, s1, h⟩ := h
      obtain ⟨s2, s3, h⟩ := h
      obtain ⟨s4, h⟩ := h
      exact AtV.go tabOk ext23Ok mixed false [] [] [0, 3, 4] [0] [true] (a1 b0 (a1 s0 (a1 s1 (a1 trivial (a1 s2 (a1 s3 (a1 s4 trivial))))))) (ih3 _ _ _ _ h K q) (by kernel_rfl)
    · rw [if_neg b0] at h
      replace b0 := Bool.eq_false_iff.2 b0
      subst h
      exact AtV.ret Tryz.func23 tabOk ext23Ok mixed false [] tys23 [false] (a1 b0 trivial) (by kernel_rfl)
theorem run23 (x0 : List TyB1) (hm : x0.length ≤ maxLen) : ∀ (k i : Nat), i + k = x0.length →
    R23_3 (k + 1) (i : Int) (x0.take i ++ List.replicate k (ByteArray.empty, (0 : Int), (0 : Int), (0 : Int), ())) x0 [⟨.sl (.cons .str (.cons (.int .i64) (.cons (.int .i64) (.cons (.int .i64) .unit)))), x0⟩] := by
  intro k
  induction k with
  | zero =>
    intro i hi
    rw [R23_3, if_neg (by simp; omega), List.take_of_length_le (by omega)]
    simp
  | succ k ih =>
    intro i hi
    rw [R23_3, if_pos (by simp; omega)]
    simp only [Int.toNat_natCast]
    refine ⟨by omega, by omega, by omega, by simp; omega, inR_up hm (by omega), ?_⟩
    have hs := set_step x0 (ByteArray.empty, (0 : Int), (0 : Int), (0 : Int), ()) i (by omega) (k + 1) (by omega)
    have he : ∀ y : TyB1, (y.1, y.2.1, y.2.2.1, y.2.2.2.1, ()) = y := fun _ => rfl
    rw [he, hs]
    exact ih (i + 1) (by omega)
def g23_0 (x0 : List TyB1) : List TyB1 := x0
def P23 (x0 : List TyB1) : Prop := 40 * (x0.length : Int) ≤ 281474976710656
def S23 : Am.Spec := { sig := sig23, pre := fun ⟨x0, _⟩ => P23 x0, res := fun ⟨x0, _⟩ => [⟨.sl (.cons .str (.cons (.int .i64) (.cons (.int .i64) (.cons (.int .i64) .unit)))), g23_0 x0⟩] }
theorem con23 : Contract Tryz.prog 23 S23 := contract_of Tryz.func23 hb23 (Nat.le_of_ble_eq_true (by kernel_rfl)) (fun ⟨x0, _⟩ h hwf K q => by
  refine (snd23 (x0.length + 2)).1 x0 _ ?_ K q
  show R23 (x0.length + 1 + 1) x0 [⟨.sl (.cons .str (.cons (.int .i64) (.cons (.int .i64) (.cons (.int .i64) .unit)))), x0⟩]
  rw [R23]
  refine ⟨by omega, by omega, h, ?_⟩
  have := run23 x0 hwf.1.1 x0.length 0 (by omega)
  simpa using this)
end
noncomputable section
def ext24 : Ext := []
theorem ext24Ok : ExtOk Tryz.prog ext24 := trivial
noncomputable def b24 : Code := bodyOf Tryz.f24
theorem hb24 : Tryz.f24.body = some b24 := by kernel_rfl
def sig24 : List AT := [AT.v YA7]
def tys24 : List Ty := [Ty.cons (Ty.int .i64) YA9]
def kds24 : List RK := []
def oks24 : List AT := owns sig24
def P24 (x0 : Int × Int × Int × Unit) : Prop := True
def g24_0 (x0 : Int × Int × Int × Unit) : Int × Int × Int × Unit := (x0.1, x0.2.1, x0.2.2.1, ())
theorem at24 (x0 : Int × Int × Int × Unit) (h : P24 x0) (K : Ctx) (q : Nat → Value) : AtV Tryz.prog 24 (PostR kds24 oks24 [⟨Ty.cons (Ty.int .i64) YA9, g24_0 x0⟩] [] [] q K) 14 K q [] [.code b24] (entE 0 0 sig24 (x0, ())) (entL sig24 (x0, ())) := by
  unfold P24 at h
  unfold g24_0
  exact AtV.ret Tryz.func24 tabOk ext24Ok mixed false [] tys24 [] trivial (by kernel_rfl)
def S24 : Am.Spec := { sig := sig24, pre := fun ⟨x0, _⟩ => P24 x0, res := fun ⟨x0, _⟩ => [⟨Ty.cons (Ty.int .i64) YA9, g24_0 x0⟩], kds := kds24 }
theorem con24 : Contract Tryz.prog 24 S24 := contract_of Tryz.func24 hb24 (Nat.le_of_ble_eq_true (by kernel_rfl)) (fun ⟨x0, _⟩ h _ K q => at24 x0 h K q)
end
noncomputable section
def ext64 : Ext := []
theorem ext64Ok : ExtOk Tryz.prog ext64 := trivial
noncomputable def b64 : Code := bodyOf Tryz.f64
theorem hb64 : Tryz.f64.body = some b64 := by kernel_rfl
def sig64 : List AT := [AT.v YA3]
def tys64 : List Ty := [Ty.cons Ty.str YA4]
def kds64 : List RK := []
def oks64 : List AT := owns sig64
def P64 (x0 : ByteArray × Int × Int × Int × Int × Unit) : Prop := True
def g64_0 (x0 : ByteArray × Int × Int × Int × Int × Unit) : ByteArray × Int × Int × Int × Int × Unit := (x0.1, x0.2.1, x0.2.2.1, x0.2.2.2.1, x0.2.2.2.2.1, ())
theorem at64 (x0 : ByteArray × Int × Int × Int × Int × Unit) (h : P64 x0) (K : Ctx) (q : Nat → Value) : AtV Tryz.prog 64 (PostR kds64 oks64 [⟨Ty.cons Ty.str YA4, g64_0 x0⟩] [] [] q K) 20 K q [] [.code b64] (entE 0 0 sig64 (x0, ())) (entL sig64 (x0, ())) := by
  unfold P64 at h
  unfold g64_0
  exact AtV.ret Tryz.func64 tabOk ext64Ok mixed false [] tys64 [] trivial (by kernel_rfl)
def S64 : Am.Spec := { sig := sig64, pre := fun ⟨x0, _⟩ => P64 x0, res := fun ⟨x0, _⟩ => [⟨Ty.cons Ty.str YA4, g64_0 x0⟩], kds := kds64 }
theorem con64 : Contract Tryz.prog 64 S64 := contract_of Tryz.func64 hb64 (Nat.le_of_ble_eq_true (by kernel_rfl)) (fun ⟨x0, _⟩ h _ K q => at64 x0 h K q)
end
noncomputable section
def ext25 : Ext := [(64, S64)]
theorem ext25Ok : ExtOk Tryz.prog ext25 := ⟨⟨ca64, con64⟩, trivial⟩
noncomputable def b25 : Code := bodyOf Tryz.f25
theorem hb25 : Tryz.f25.body = some b25 := by kernel_rfl
def sig25 : List AT := [AT.v (Ty.sl YA3)]
def tys25 : List Ty := [Ty.sl YA3]
def kds25 : List RK := []
def oks25 : List AT := owns sig25
def E25_3 (v4 : Int) (h0 : List TyB0) (x0 : List TyB0) : Env := [(0, PV.a (Atom.sl YA3 x0)), (3, PV.a (Atom.osl 0 Option.none)), (4, PV.a (Atom.val (Value.int .i64 v4)))]
def L25_3 (v4 : Int) (h0 : List TyB0) (x0 : List TyB0) : Heap := [Option.some (Arr.mk YA3 h0 false Option.none Option.none)]
mutual
def R25 : Nat → List TyB0 → List Dyn → Prop
  | 0, _, _ => False
  | n + 1, x0, ds => ((0 ≤ (↑(List.length x0) : Int)) ∧ ((↑(List.length x0) : Int) ≤ (↑(List.length x0) : Int)) ∧ (48 * (↑(List.length x0) : Int) ≤ 281474976710656) ∧ (R25_3 n (0) (List.replicate (Int.toNat (↑(List.length x0) : Int)) (ByteArray.empty, 0, 0, 0, 0, ())) (x0) ds))
def R25_3 : Nat → Int → List TyB0 → List TyB0 → List Dyn → Prop
  | 0, _, _, _, _ => False
  | n + 1, v4, h0, x0, ds => (if (decide (v4 < (↑(List.length x0) : Int))) = true then ((0 ≤ v4) ∧ (v4 < (↑(List.length x0) : Int)) ∧ ((0 ≤ v4) ∧ (v4 < (↑(List.length h0) : Int)) ∧ ((InR .i64 (v4 + 1)) ∧ (R25_3 n (v4 + 1) (List.set h0 (Int.toNat v4) ((List.getD x0 (Int.toNat v4) (ByteArray.empty, 0, 0, 0, 0, ())).1, (List.getD x0 (Int.toNat v4) (ByteArray.empty, 0, 0, 0, 0, ())).2.1, (List.getD x0 (Int.toNat v4) (ByteArray.empty, 0, 0, 0, 0, ())).2.2.1, (List.getD x0 (Int.toNat v4) (ByteArray.empty, 0, 0, 0, 0, ())).2.2.2.1, (List.getD x0 (Int.toNat v4) (ByteArray.empty, 0, 0, 0, 0, ())).2.2.2.2.1, ())) (x0) ds)))) else (ds = [Dyn.mk (Ty.sl YA3) h0]))
end
theorem snd25 : ∀ n, (∀ (x0 : List TyB0) ds, R25 n x0 ds → ∀ K q, AtV Tryz.prog 25 (PostR kds25 oks25 ds [] [] q K) 23 K q [] [.code b25] (entE 0 0 sig25 (x0, ())) (entL sig25 (x0, ()))) ∧ (∀ (v4 : Int) (h0 : List TyB0) (x0 : List TyB0) ds, R25_3 n v4 h0 x0 ds → ∀ K q, AtV Tryz.prog 25 (PostR kds25 oks25 ds [] [] q K) 23 K q [] (cutAt b25 3) (E25_3 v4 h0 x0) (L25_3 v4 h0 x0)) := by
  intro n
  induction n with
  | zero => exact ⟨fun _ _ h => by simp only [R25] at h, fun _ _ _ _ h => by simp only [R25_3] at h⟩
  | succ n ih =>
  obtain ⟨ih, ih3⟩ := ih
  refine ⟨?_, ?_⟩
  · intro x0 ds h K q
    rw [R25] at h
    obtain ⟨s0, s1, s2, h⟩ := h
    exact AtV.go tabOk ext25Ok mixed false [] [] [0, 3, 4] [0] [] (a1 s0 (a1 s1 (a1 s2 trivial))) (ih3 _ _ _ _ h K q) (by kernel_rfl)
  · intro v4 h0 x0 ds h K q
    rw [R25_3] at h
    by_cases b0 : (decide (v4 < (↑(List.length x0) : Int))) = true
    · rw [if_pos b0] at h
      obtain ⟨s0, s1, h⟩ := h
      obtain ⟨s2, s3, h⟩ := h
      obtain ⟨s4, h⟩ := h
      exact AtV.go tabOk ext25Ok mixed false [] [] [0, 3, 4] [0] [true] (a1 b0 (a1 s0 (a1 s1 (a1 trivial (a1 s2 (a1 s3 (a1 s4 trivial))))))) (ih3 _ _ _ _ h K q) (by kernel_rfl)
    · rw [if_neg b0] at h
      replace b0 := Bool.eq_false_iff.2 b0
      subst h
      exact AtV.ret Tryz.func25 tabOk ext25Ok mixed false [] tys25 [false] (a1 b0 trivial) (by kernel_rfl)
theorem run25 (x0 : List TyB0) (hm : x0.length ≤ maxLen) : ∀ (k i : Nat), i + k = x0.length →
    R25_3 (k + 1) (i : Int) (x0.take i ++ List.replicate k (ByteArray.empty, (0 : Int), (0 : Int), (0 : Int), (0 : Int), ())) x0 [⟨.sl (.cons .str (.cons (.int .i64) (.cons (.int .i64) (.cons (.int .i64) (.cons (.int .i64) .unit))))), x0⟩] := by
  intro k
  induction k with
  | zero =>
    intro i hi
    rw [R25_3, if_neg (by simp; omega), List.take_of_length_le (by omega)]
    simp
  | succ k ih =>
    intro i hi
    rw [R25_3, if_pos (by simp; omega)]
    simp only [Int.toNat_natCast]
    refine ⟨by omega, by omega, by omega, by simp; omega, inR_up hm (by omega), ?_⟩
    have hs := set_step x0 (ByteArray.empty, (0 : Int), (0 : Int), (0 : Int), (0 : Int), ()) i (by omega) (k + 1) (by omega)
    have he : ∀ y : TyB0, (y.1, y.2.1, y.2.2.1, y.2.2.2.1, y.2.2.2.2.1, ()) = y := fun _ => rfl
    rw [he, hs]
    exact ih (i + 1) (by omega)
def g25_0 (x0 : List TyB0) : List TyB0 := x0
def P25 (x0 : List TyB0) : Prop := 48 * (x0.length : Int) ≤ 281474976710656
def S25 : Am.Spec := { sig := sig25, pre := fun ⟨x0, _⟩ => P25 x0, res := fun ⟨x0, _⟩ => [⟨.sl (.cons .str (.cons (.int .i64) (.cons (.int .i64) (.cons (.int .i64) (.cons (.int .i64) .unit))))), g25_0 x0⟩] }
theorem con25 : Contract Tryz.prog 25 S25 := contract_of Tryz.func25 hb25 (Nat.le_of_ble_eq_true (by kernel_rfl)) (fun ⟨x0, _⟩ h hwf K q => by
  refine (snd25 (x0.length + 2)).1 x0 _ ?_ K q
  show R25 (x0.length + 1 + 1) x0 [⟨.sl (.cons .str (.cons (.int .i64) (.cons (.int .i64) (.cons (.int .i64) (.cons (.int .i64) .unit))))), x0⟩]
  rw [R25]
  refine ⟨by omega, by omega, h, ?_⟩
  have := run25 x0 hwf.1.1 x0.length 0 (by omega)
  simpa using this)
end
noncomputable section
def ext65 : Ext := []
theorem ext65Ok : ExtOk Tryz.prog ext65 := trivial
noncomputable def b65 : Code := bodyOf Tryz.f65
theorem hb65 : Tryz.f65.body = some b65 := by kernel_rfl
def sig65 : List AT := [AT.v YA9]
def tys65 : List Ty := [Ty.cons (Ty.int .i64) (Ty.cons (Ty.int .i64) Ty.unit)]
def kds65 : List RK := []
def oks65 : List AT := owns sig65
def P65 (x0 : Int × Int × Unit) : Prop := True
def g65_0 (x0 : Int × Int × Unit) : Int × Int × Unit := (x0.1, x0.2.1, ())
theorem at65 (x0 : Int × Int × Unit) (h : P65 x0) (K : Ctx) (q : Nat → Value) : AtV Tryz.prog 65 (PostR kds65 oks65 [⟨Ty.cons (Ty.int .i64) (Ty.cons (Ty.int .i64) Ty.unit), g65_0 x0⟩] [] [] q K) 11 K q [] [.code b65] (entE 0 0 sig65 (x0, ())) (entL sig65 (x0, ())) := by
  unfold P65 at h
  unfold g65_0
  exact AtV.ret Tryz.func65 tabOk ext65Ok mixed false [] tys65 [] trivial (by kernel_rfl)
def S65 : Am.Spec := { sig := sig65, pre := fun ⟨x0, _⟩ => P65 x0, res := fun ⟨x0, _⟩ => [⟨Ty.cons (Ty.int .i64) (Ty.cons (Ty.int .i64) Ty.unit), g65_0 x0⟩], kds := kds65 }
theorem con65 : Contract Tryz.prog 65 S65 := contract_of Tryz.func65 hb65 (Nat.le_of_ble_eq_true (by kernel_rfl)) (fun ⟨x0, _⟩ h _ K q => at65 x0 h K q)
end
noncomputable section
def ext26 : Ext := [(65, S65)]
theorem ext26Ok : ExtOk Tryz.prog ext26 := ⟨⟨ca65, con65⟩, trivial⟩
noncomputable def b26 : Code := bodyOf Tryz.f26
theorem hb26 : Tryz.f26.body = some b26 := by kernel_rfl
def sig26 : List AT := [AT.v (Ty.sl YA9)]
def tys26 : List Ty := [Ty.sl YA9]
def kds26 : List RK := []
def oks26 : List AT := owns sig26
def E26_3 (v4 : Int) (h0 : List TyB4) (x0 : List TyB4) : Env := [(0, PV.a (Atom.sl YA9 x0)), (3, PV.a (Atom.osl 0 Option.none)), (4, PV.a (Atom.val (Value.int .i64 v4)))]
def L26_3 (v4 : Int) (h0 : List TyB4) (x0 : List TyB4) : Heap := [Option.some (Arr.mk YA9 h0 false Option.none Option.none)]
mutual
def R26 : Nat → List TyB4 → List Dyn → Prop
  | 0, _, _ => False
  | n + 1, x0, ds => ((0 ≤ (↑(List.length x0) : Int)) ∧ ((↑(List.length x0) : Int) ≤ (↑(List.length x0) : Int)) ∧ (16 * (↑(List.length x0) : Int) ≤ 281474976710656) ∧ (R26_3 n (0) (List.replicate (Int.toNat (↑(List.length x0) : Int)) (0, 0, ())) (x0) ds))
def R26_3 : Nat → Int → List TyB4 → List TyB4 → List Dyn → Prop
  | 0, _, _, _, _ => False
  | n + 1, v4, h0, x0, ds => (if (decide (v4 < (↑(List.length x0) : Int))) = true then ((0 ≤ v4) ∧ (v4 < (↑(List.length x0) : Int)) ∧ ((0 ≤ v4) ∧ (v4 < (↑(List.length h0) : Int)) ∧ ((InR .i64 (v4 + 1)) ∧ (R26_3 n (v4 + 1) (List.set h0 (Int.toNat v4) ((List.getD x0 (Int.toNat v4) (0, 0, ())).1, (List.getD x0 (Int.toNat v4) (0, 0, ())).2.1, ())) (x0) ds)))) else (ds = [Dyn.mk (Ty.sl YA9) h0]))
end
theorem snd26 : ∀ n, (∀ (x0 : List TyB4) ds, R26 n x0 ds → ∀ K q, AtV Tryz.prog 26 (PostR kds26 oks26 ds [] [] q K) 23 K q [] [.code b26] (entE 0 0 sig26 (x0, ())) (entL sig26 (x0, ()))) ∧ (∀ (v4 : Int) (h0 : List TyB4) (x0 : List TyB4) ds, R26_3 n v4 h0 x0 ds → ∀ K q, AtV Tryz.prog 26 (PostR kds26 oks26 ds [] [] q K) 23 K q [] (cutAt b26 3) (E26_3 v4 h0 x0) (L26_3 v4 h0 x0)) := by
  intro n
  induction n with
  | zero => exact ⟨fun _ _ h => by simp only [R26] at h, fun _ _ _ _ h => by simp only [R26_3] at h⟩
  | succ n ih =>
  obtain ⟨ih, ih3⟩ := ih
  refine ⟨?_, ?_⟩
  · intro x0 ds h K q
    rw [R26] at h
    obtain ⟨s0, s1, s2, h⟩ := h
    exact AtV.go tabOk ext26Ok mixed false [] [] [0, 3, 4] [0] [] (a1 s0 (a1 s1 (a1 s2 trivial))) (ih3 _ _ _ _ h K q) (by kernel_rfl)
  · intro v4 h0 x0 ds h K q
    rw [R26_3] at h
    by_cases b0 : (decide (v4 < (↑(List.length x0) : Int))) = true
    · rw [if_pos b0] at h
      obtain ⟨s0, s1, h⟩ := h
      obtain ⟨s2, s3, h⟩ := h
      obtain ⟨s4, h⟩ := h
      exact AtV.go tabOk ext26Ok mixed false [] [] [0, 3, 4] [0] [true] (a1 b0 (a1 s0 (a1 s1 (a1 trivial (a1 s2 (a1 s3 (a1 s4 trivial))))))) (ih3 _ _ _ _ h K q) (by kernel_rfl)
    · rw [if_neg b0] at h
      replace b0 := Bool.eq_false_iff.2 b0
      subst h
      exact AtV.ret Tryz.func26 tabOk ext26Ok mixed false [] tys26 [false] (a1 b0 trivial) (by kernel_rfl)
theorem run26 (x0 : List TyB4) (hm : x0.length ≤ maxLen) : ∀ (k i : Nat), i + k = x0.length →
    R26_3 (k + 1) (i : Int) (x0.take i ++ List.replicate k ((0 : Int), (0 : Int), ())) x0 [⟨.sl (.cons (.int .i64) (.cons (.int .i64) .unit)), x0⟩] := by
  intro k
  induction k with
  | zero =>
    intro i hi
    rw [R26_3, if_neg (by simp; omega), List.take_of_length_le (by omega)]
    simp
  | succ k ih =>
    intro i hi
    rw [R26_3, if_pos (by simp; omega)]
    simp only [Int.toNat_natCast]
    refine ⟨by omega, by omega, by omega, by simp; omega, inR_up hm (by omega), ?_⟩
    have hs := set_step x0 ((0 : Int), (0 : Int), ()) i (by omega) (k + 1) (by omega)
    have he : ∀ y : TyB4, (y.1, y.2.1, ()) = y := fun _ => rfl
    rw [he, hs]
    exact ih (i + 1) (by omega)
def g26_0 (x0 : List TyB4) : List TyB4 := x0
def P26 (x0 : List TyB4) : Prop := 16 * (x0.length : Int) ≤ 281474976710656
def S26 : Am.Spec := { sig := sig26, pre := fun ⟨x0, _⟩ => P26 x0, res := fun ⟨x0, _⟩ => [⟨.sl (.cons (.int .i64) (.cons (.int .i64) .unit)), g26_0 x0⟩] }
theorem con26 : Contract Tryz.prog 26 S26 := contract_of Tryz.func26 hb26 (Nat.le_of_ble_eq_true (by kernel_rfl)) (fun ⟨x0, _⟩ h hwf K q => by
  refine (snd26 (x0.length + 2)).1 x0 _ ?_ K q
  show R26 (x0.length + 1 + 1) x0 [⟨.sl (.cons (.int .i64) (.cons (.int .i64) .unit)), x0⟩]
  rw [R26]
  refine ⟨by omega, by omega, h, ?_⟩
  have := run26 x0 hwf.1.1 x0.length 0 (by omega)
  simpa using this)
end
noncomputable section
def ext66 : Ext := []
theorem ext66Ok : ExtOk Tryz.prog ext66 := trivial
noncomputable def b66 : Code := bodyOf Tryz.f66
theorem hb66 : Tryz.f66.body = some b66 := by kernel_rfl
def sig66 : List AT := [AT.v YA6]
def tys66 : List Ty := [Ty.cons (Ty.int .i64) (Ty.cons (Ty.int .i64) (Ty.cons Ty.str (Ty.cons (Ty.int .i64) Ty.unit)))]
def kds66 : List RK := []
def oks66 : List AT := owns sig66
def P66 (x0 : Int × Int × ByteArray × Int × Unit) : Prop := True
def g66_0 (x0 : Int × Int × ByteArray × Int × Unit) : Int × Int × ByteArray × Int × Unit := (x0.1, x0.2.1, x0.2.2.1, x0.2.2.2.1, ())
theorem at66 (x0 : Int × Int × ByteArray × Int × Unit) (h : P66 x0) (K : Ctx) (q : Nat → Value) : AtV Tryz.prog 66 (PostR kds66 oks66 [⟨Ty.cons (Ty.int .i64) (Ty.cons (Ty.int .i64) (Ty.cons Ty.str (Ty.cons (Ty.int .i64) Ty.unit))), g66_0 x0⟩] [] [] q K) 17 K q [] [.code b66] (entE 0 0 sig66 (x0, ())) (entL sig66 (x0, ())) := by
  unfold P66 at h
  unfold g66_0
  exact AtV.ret Tryz.func66 tabOk ext66Ok mixed false [] tys66 [] trivial (by kernel_rfl)
def S66 : Am.Spec := { sig := sig66, pre := fun ⟨x0, _⟩ => P66 x0, res := fun ⟨x0, _⟩ => [⟨Ty.cons (Ty.int .i64) (Ty.cons (Ty.int .i64) (Ty.cons Ty.str (Ty.cons (Ty.int .i64) Ty.unit))), g66_0 x0⟩], kds := kds66 }
theorem con66 : Contract Tryz.prog 66 S66 := contract_of Tryz.func66 hb66 (Nat.le_of_ble_eq_true (by kernel_rfl)) (fun ⟨x0, _⟩ h _ K q => at66 x0 h K q)
end
noncomputable section
def ext27 : Ext := [(66, S66)]
theorem ext27Ok : ExtOk Tryz.prog ext27 := ⟨⟨ca66, con66⟩, trivial⟩
noncomputable def b27 : Code := bodyOf Tryz.f27
theorem hb27 : Tryz.f27.body = some b27 := by kernel_rfl
def sig27 : List AT := [AT.v (Ty.sl YA6)]
def tys27 : List Ty := [Ty.sl YA6]
def kds27 : List RK := []
def oks27 : List AT := owns sig27
def E27_3 (v4 : Int) (h0 : List TyB2) (x0 : List TyB2) : Env := [(0, PV.a (Atom.sl YA6 x0)), (3, PV.a (Atom.osl 0 Option.none)), (4, PV.a (Atom.val (Value.int .i64 v4)))]
def L27_3 (v4 : Int) (h0 : List TyB2) (x0 : List TyB2) : Heap := [Option.some (Arr.mk YA6 h0 false Option.none Option.none)]
mutual
def R27 : Nat → List TyB2 → List Dyn → Prop
  | 0, _, _ => False
  | n + 1, x0, ds => ((0 ≤ (↑(List.length x0) : Int)) ∧ ((↑(List.length x0) : Int) ≤ (↑(List.length x0) : Int)) ∧ (40 * (↑(List.length x0) : Int) ≤ 281474976710656) ∧ (R27_3 n (0) (List.replicate (Int.toNat (↑(List.length x0) : Int)) (0, 0, ByteArray.empty, 0, ())) (x0) ds))
def R27_3 : Nat → Int → List TyB2 → List TyB2 → List Dyn → Prop
  | 0, _, _, _, _ => False
  | n + 1, v4, h0, x0, ds => (if (decide (v4 < (↑(List.length x0) : Int))) = true then ((0 ≤ v4) ∧ (v4 < (↑(List.length x0) : Int)) ∧ ((0 ≤ v4) ∧ (v4 < (↑(List.length h0) : Int)) ∧ ((InR .i64 (v4 + 1)) ∧ (R27_3 n (v4 + 1) (List.set h0 (Int.toNat v4) ((List.getD x0 (Int.toNat v4) (0, 0, ByteArray.empty, 0, ())).1, (List.getD x0 (Int.toNat v4) (0, 0, ByteArray.empty, 0, ())).2.1, (List.getD x0 (Int.toNat v4) (0, 0, ByteArray.empty, 0, ())).2.2.1, (List.getD x0 (Int.toNat v4) (0, 0, ByteArray.empty, 0, ())).2.2.2.1, ())) (x0) ds)))) else (ds = [Dyn.mk (Ty.sl YA6) h0]))
end
theorem snd27 : ∀ n, (∀ (x0 : List TyB2) ds, R27 n x0 ds → ∀ K q, AtV Tryz.prog 27 (PostR kds27 oks27 ds [] [] q K) 23 K q [] [.code b27] (entE 0 0 sig27 (x0, ())) (entL sig27 (x0, ()))) ∧ (∀ (v4 : Int) (h0 : List TyB2) (x0 : List TyB2) ds, R27_3 n v4 h0 x0 ds → ∀ K q, AtV Tryz.prog 27 (PostR kds27 oks27 ds [] [] q K) 23 K q [] (cutAt b27 3) (E27_3 v4 h0 x0) (L27_3 v4 h0 x0)) := by
  intro n
  induction n with
  | zero => exact ⟨fun _ _ h => by simp only [R27] at h, fun _ _ _ _ h => by simp only [R27_3] at h⟩
  | succ n ih =>
  obtain ⟨ih, ih3⟩ := ih
  refine ⟨?_, ?_⟩
  · intro x0 ds h K q
    rw [R27] at h
    obtain ⟨s0, s1, s2, h⟩ := h
    exact AtV.go tabOk ext27Ok mixed false [] [] [0, 3, 4] [0] [] (a1 s0 (a1 s1 (a1 s2 trivial))) (ih3 _ _ _ _ h K q) (by kernel_rfl)
  · intro v4 h0 x0 ds h K q
    rw [R27_3] at h
    by_cases b0 : (decide (v4 < (↑(List.length x0) : Int))) = true
    · rw [if_pos b0] at h
      obtain ⟨s0, s1, h⟩ := h
      obtain ⟨s2, s3, h⟩ := h
      obtain ⟨s4, h⟩ := h
      exact AtV.go tabOk ext27Ok mixed false [] [] [0, 3, 4] [0] [true] (a1 b0 (a1 s0 (a1 s1 (a1 trivial (a1 s2 (a1 s3 (a1 s4 trivial))))))) (ih3 _ _ _ _ h K q) (by kernel_rfl)
    · rw [if_neg b0] at h
      replace b0 := Bool.eq_false_iff.2 b0
      subst h
      exact AtV.ret Tryz.func27 tabOk ext27Ok mixed false [] tys27 [false] (a1 b0 trivial) (by kernel_rfl)
theorem run27 (x0 : List TyB2) (hm : x0.length ≤ maxLen) : ∀ (k i : Nat), i + k = x0.length →
    R27_3 (k + 1) (i : Int) (x0.take i ++ List.replicate k ((0 : Int), (0 : Int), ByteArray.empty, (0 : Int), ())) x0 [⟨.sl (.cons (.int .i64) (.cons (.int .i64) (.cons .str (.cons (.int .i64) .unit)))), x0⟩] := by
  intro k
  induction k with
  | zero =>
    intro i hi
    rw [R27_3, if_neg (by simp; omega), List.take_of_length_le (by omega)]
    simp
  | succ k ih =>
    intro i hi
    rw [R27_3, if_pos (by simp; omega)]
    simp only [Int.toNat_natCast]
    refine ⟨by omega, by omega, by omega, by simp; omega, inR_up hm (by omega), ?_⟩
    have hs := set_step x0 ((0 : Int), (0 : Int), ByteArray.empty, (0 : Int), ()) i (by omega) (k + 1) (by omega)
    have he : ∀ y : TyB2, (y.1, y.2.1, y.2.2.1, y.2.2.2.1, ()) = y := fun _ => rfl
    rw [he, hs]
    exact ih (i + 1) (by omega)
def g27_0 (x0 : List TyB2) : List TyB2 := x0
def P27 (x0 : List TyB2) : Prop := 40 * (x0.length : Int) ≤ 281474976710656
def S27 : Am.Spec := { sig := sig27, pre := fun ⟨x0, _⟩ => P27 x0, res := fun ⟨x0, _⟩ => [⟨.sl (.cons (.int .i64) (.cons (.int .i64) (.cons .str (.cons (.int .i64) .unit)))), g27_0 x0⟩] }
theorem con27 : Contract Tryz.prog 27 S27 := contract_of Tryz.func27 hb27 (Nat.le_of_ble_eq_true (by kernel_rfl)) (fun ⟨x0, _⟩ h hwf K q => by
  refine (snd27 (x0.length + 2)).1 x0 _ ?_ K q
  show R27 (x0.length + 1 + 1) x0 [⟨.sl (.cons (.int .i64) (.cons (.int .i64) (.cons .str (.cons (.int .i64) .unit)))), x0⟩]
  rw [R27]
  refine ⟨by omega, by omega, h, ?_⟩
  have := run27 x0 hwf.1.1 x0.length 0 (by omega)
  simpa using this)
end
noncomputable section
def ext6 : Ext := [(20, S20), (21, S21), (22, S22), (23, S23), (24, S24), (25, S25), (26, S26), (27, S27)]
theorem ext6Ok : ExtOk Tryz.prog ext6 := ⟨⟨ca20, con20⟩, ⟨ca21, con21⟩, ⟨ca22, con22⟩, ⟨ca23, con23⟩, ⟨ca24, con24⟩, ⟨ca25, con25⟩, ⟨ca26, con26⟩, ⟨ca27, con27⟩, trivial⟩
noncomputable def b6 : Code := bodyOf Tryz.f6
theorem hb6 : Tryz.f6.body = some b6 := by kernel_rfl
def sig6 : List AT := [AT.v YA0]
def tys6 : List Ty := [Ty.cons YA2 YA1]
def kds6 : List RK := []
def oks6 : List AT := owns sig6
def P6 (x0 : TyA0) : Prop := ((P20 x0.1) ∧ ((P23 x0.2.2.2.2.1) ∧ ((P25 x0.2.2.2.2.2.2.1) ∧ ((P26 x0.2.2.2.2.2.2.2.2.2.1) ∧ ((P27 x0.2.2.2.2.2.2.2.2.2.2.2.1) ∧ True)))))
def g6_0 (x0 : TyA0) : TyA0 := (((g20_0 x0.1).1, (g20_0 x0.1).2.1, (g20_0 x0.1).2.2.1, ()), x0.2.1, (x0.2.2.1.1, x0.2.2.1.2.1, ()), (x0.2.2.2.1.1, x0.2.2.2.1.2.1, x0.2.2.2.1.2.2.1, x0.2.2.2.1.2.2.2.1, ()), g23_0 x0.2.2.2.2.1, (x0.2.2.2.2.2.1.1, x0.2.2.2.2.2.1.2.1, x0.2.2.2.2.2.1.2.2.1, ()), g25_0 x0.2.2.2.2.2.2.1, x0.2.2.2.2.2.2.2.1, x0.2.2.2.2.2.2.2.2.1, g26_0 x0.2.2.2.2.2.2.2.2.2.1, x0.2.2.2.2.2.2.2.2.2.2.1, g27_0 x0.2.2.2.2.2.2.2.2.2.2.2.1, ())
theorem at6 (x0 : TyA0) (h : P6 x0) (K : Ctx) (q : Nat → Value) : AtV Tryz.prog 6 (PostR kds6 oks6 [⟨Ty.cons YA2 YA1, g6_0 x0⟩] [] [] q K) 49 K q [] [.code b6] (entE 0 0 sig6 (x0, ())) (entL sig6 (x0, ())) := by
  unfold P6 at h
  unfold g6_0
  obtain ⟨s0, h⟩ := h
  obtain ⟨s1, h⟩ := h
  obtain ⟨s2, h⟩ := h
  obtain ⟨s3, h⟩ := h
  obtain ⟨s4, h⟩ := h
  exact AtV.ret Tryz.func6 tabOk ext6Ok mixed false [] tys6 [] (a1 s0 (a1 trivial (a1 trivial (a1 s1 (a1 trivial (a1 s2 (a1 s3 (a1 s4 trivial)))))))) (by kernel_rfl)
def S6 : Am.Spec := { sig := sig6, pre := fun ⟨x0, _⟩ => P6 x0, res := fun ⟨x0, _⟩ => [⟨Ty.cons YA2 YA1, g6_0 x0⟩], kds := kds6 }
theorem con6 : Contract Tryz.prog 6 S6 := contract_of Tryz.func6 hb6 (Nat.le_of_ble_eq_true (by kernel_rfl)) (fun ⟨x0, _⟩ h _ K q => at6 x0 h K q)
end
noncomputable section
def ext30 : Ext := []
theorem ext30Ok : ExtOk Tryz.prog ext30 := trivial
noncomputable def b30 : Code := bodyOf Tryz.f30
theorem hb30 : Tryz.f30.body = some b30 := by kernel_rfl
def sig30 : List AT := [AT.v YA8, AT.v YA8]
def tys30 : List Ty := [Ty.bool]
def kds30 : List RK := []
def oks30 : List AT := owns sig30
def P30 (x0 : Int × ByteArray × ByteArray × Unit) (x1 : Int × ByteArray × ByteArray × Unit) : Prop := True
def g30_0 (x0 : Int × ByteArray × ByteArray × Unit) (x1 : Int × ByteArray × ByteArray × Unit) : Bool := (if (x0.1 != x1.1) = true then false else (if (!ByteArray.toList x0.2.1 == ByteArray.toList x1.2.1) = true then false else (if (!ByteArray.toList x0.2.2.1 == ByteArray.toList x1.2.2.1) = true then false else true)))
theorem at30 (x0 : Int × ByteArray × ByteArray × Unit) (x1 : Int × ByteArray × ByteArray × Unit) (h : P30 x0 x1) (K : Ctx) (q : Nat → Value) : AtV Tryz.prog 30 (PostR kds30 oks30 [⟨Ty.bool, g30_0 x0 x1⟩] [] [] q K) 20 K q [] [.code b30] (entE 0 0 sig30 (x0, x1, ())) (entL sig30 (x0, x1, ())) := by
  unfold P30 at h
  unfold g30_0
  by_cases b0 : (x0.1 != x1.1) = true
  · try simp only [if_pos b0] at h ⊢
    exact AtV.ret Tryz.func30 tabOk ext30Ok mixed false [] tys30 [true] (a1 b0 trivial) (by kernel_rfl)
  · try simp only [if_neg b0] at h ⊢
    replace b0 := Bool.eq_false_iff.2 b0
    by_cases b1 : (!ByteArray.toList x0.2.1 == ByteArray.toList x1.2.1) = true
    · try simp only [if_pos b1] at h ⊢
      exact AtV.ret Tryz.func30 tabOk ext30Ok mixed false [] tys30 [false, true] (a1 b0 (a1 b1 trivial)) (by kernel_rfl)
    · try simp only [if_neg b1] at h ⊢
      replace b1 := Bool.eq_false_iff.2 b1
      by_cases b2 : (!ByteArray.toList x0.2.2.1 == ByteArray.toList x1.2.2.1) = true
      · try simp only [if_pos b2] at h ⊢
        exact AtV.ret Tryz.func30 tabOk ext30Ok mixed false [] tys30 [false, false, true] (a1 b0 (a1 b1 (a1 b2 trivial))) (by kernel_rfl)
      · try simp only [if_neg b2] at h ⊢
        replace b2 := Bool.eq_false_iff.2 b2
        exact AtV.ret Tryz.func30 tabOk ext30Ok mixed false [] tys30 [false, false, false] (a1 b0 (a1 b1 (a1 b2 trivial))) (by kernel_rfl)
def S30 : Am.Spec := { sig := sig30, pre := fun ⟨x0, x1, _⟩ => P30 x0 x1, res := fun ⟨x0, x1, _⟩ => [⟨Ty.bool, g30_0 x0 x1⟩], kds := kds30 }
theorem con30 : Contract Tryz.prog 30 S30 := contract_of Tryz.func30 hb30 (Nat.le_of_ble_eq_true (by kernel_rfl)) (fun ⟨x0, x1, _⟩ h _ K q => at30 x0 x1 h K q)
theorem eqd30 (x y : TyB3) : g30_0 x y = true ↔ x = y := by
  obtain ⟨a, b, c, u⟩ := x
  obtain ⟨a', b', c', u'⟩ := y
  unfold g30_0
  simp only [Bool.not_eq_true', bytes_ne, bne_iff_ne, ne_eq, ite_not]
  by_cases h0 : a = a'
  · by_cases h1 : b = b'
    · by_cases h2 : c = c'
      · simp [h0, h1, h2]
      · simp [h0, h1, h2]
    · simp [h0, h1]
  · simp [h0]
end
noncomputable section
def ext8 : Ext := [(30, S30)]
theorem ext8Ok : ExtOk Tryz.prog ext8 := ⟨⟨ca30, con30⟩, trivial⟩
noncomputable def b8 : Code := bodyOf Tryz.f8
theorem hb8 : Tryz.f8.body = some b8 := by kernel_rfl
def sig8 : List AT := [AT.v (Ty.sl YA8), AT.v (Ty.sl YA8)]
def tys8 : List Ty := [Ty.bool]
def kds8 : List RK := []
def oks8 : List AT := owns sig8
def E8_4 (v5 : Int) (x0 : List TyB3) (x1 : List TyB3) : Env := [(0, PV.a (Atom.sl YA8 x0)), (1, PV.a (Atom.sl YA8 x1)), (5, PV.a (Atom.val (Value.int .i64 v5)))]
def L8_4 (v5 : Int) (x0 : List TyB3) (x1 : List TyB3) : Heap := []
mutual
def R8 : Nat → List TyB3 → List TyB3 → List Dyn → Prop
  | 0, _, _, _ => False
  | n + 1, x0, x1, ds => (if ((↑(List.length x0) : Int) != (↑(List.length x1) : Int)) = true then (ds = [Dyn.mk Ty.bool false]) else (R8_4 n (0) (x0) (x1) ds))
def R8_4 : Nat → Int → List TyB3 → List TyB3 → List Dyn → Prop
  | 0, _, _, _, _ => False
  | n + 1, v5, x0, x1, ds => (if (decide (v5 < (↑(List.length x0) : Int))) = true then ((0 ≤ v5) ∧ (v5 < (↑(List.length x0) : Int)) ∧ ((0 ≤ v5) ∧ (v5 < (↑(List.length x1) : Int)) ∧ (if (!g30_0 (List.getD x0 (Int.toNat v5) (0, ByteArray.empty, ByteArray.empty, ())) (List.getD x1 (Int.toNat v5) (0, ByteArray.empty, ByteArray.empty, ()))) = true then (ds = [Dyn.mk Ty.bool false]) else ((InR .i64 (v5 + 1)) ∧ (R8_4 n (v5 + 1) (x0) (x1) ds))))) else (ds = [Dyn.mk Ty.bool true]))
end
theorem snd8 : ∀ n, (∀ (x0 : List TyB3) (x1 : List TyB3) ds, R8 n x0 x1 ds → ∀ K q, AtV Tryz.prog 8 (PostR kds8 oks8 ds [] [] q K) 27 K q [] [.code b8] (entE 0 0 sig8 (x0, x1, ())) (entL sig8 (x0, x1, ()))) ∧ (∀ (v5 : Int) (x0 : List TyB3) (x1 : List TyB3) ds, R8_4 n v5 x0 x1 ds → ∀ K q, AtV Tryz.prog 8 (PostR kds8 oks8 ds [] [] q K) 27 K q [] (cutAt b8 4) (E8_4 v5 x0 x1) (L8_4 v5 x0 x1)) := by
  intro n
  induction n with
  | zero => exact ⟨fun _ _ _ h => by simp only [R8] at h, fun _ _ _ _ h => by simp only [R8_4] at h⟩
  | succ n ih =>
  obtain ⟨ih, ih4⟩ := ih
  refine ⟨?_, ?_⟩
  · intro x0 x1 ds h K q
    rw [R8] at h
    by_cases b0 : ((↑(List.length x0) : Int) != (↑(List.length x1) : Int)) = true
    · rw [if_pos b0] at h
      subst h
      exact AtV.ret Tryz.func8 tabOk ext8Ok mixed false [] tys8 [true] (a1 b0 trivial) (by kernel_rfl)
    · rw [if_neg b0] at h
      replace b0 := Bool.eq_false_iff.2 b0
      exact AtV.go tabOk ext8Ok mixed false [] [] [0, 1, 5] [] [false] (a1 b0 trivial) (ih4 _ _ _ _ h K q) (by kernel_rfl)
  · intro v5 x0 x1 ds h K q
    rw [R8_4] at h
    by_cases b0 : (decide (v5 < (↑(List.length x0) : Int))) = true
    · rw [if_pos b0] at h
      obtain ⟨s0, s1, h⟩ := h
      obtain ⟨s2, s3, h⟩ := h
      by_cases b1 : (!g30_0 (List.getD x0 (Int.toNat v5) (0, ByteArray.empty, ByteArray.empty, ())) (List.getD x1 (Int.toNat v5) (0, ByteArray.empty, ByteArray.empty, ()))) = true
      · rw [if_pos b1] at h
        subst h
        exact AtV.ret Tryz.func8 tabOk ext8Ok mixed false [] tys8 [true, true] (a1 b0 (a1 s0 (a1 s1 (a1 s2 (a1 s3 (a1 trivial (a1 b1 trivial))))))) (by kernel_rfl)
      · rw [if_neg b1] at h
        replace b1 := Bool.eq_false_iff.2 b1
        obtain ⟨s4, h⟩ := h
        exact AtV.go tabOk ext8Ok mixed false [] [] [0, 1, 5] [] [true, false] (a1 b0 (a1 s0 (a1 s1 (a1 s2 (a1 s3 (a1 trivial (a1 b1 (a1 s4 trivial)))))))) (ih4 _ _ _ _ h K q) (by kernel_rfl)
    · rw [if_neg b0] at h
      replace b0 := Bool.eq_false_iff.2 b0
      subst h
      exact AtV.ret Tryz.func8 tabOk ext8Ok mixed false [] tys8 [false] (a1 b0 trivial) (by kernel_rfl)
theorem eq8 (x0 x1 : List TyB3) (hl : x0.length = x1.length) (hm : x0.length ≤ maxLen) : ∀ k i : Nat, i + k = x0.length → R8_4 (k + 1) (i : Int) x0 x1 [⟨.bool, decide (x0.drop i = x1.drop i)⟩] := by
  intro k
  induction k with
  | zero =>
    intro i hi
    have h1 : ¬ (i : Int) < (x0.length : Int) := by omega
    rw [R8_4, if_neg (by simpa using h1), drop_end x0 i (by omega), drop_end x1 i (by omega)]
    simp
  | succ k ih =>
    intro i hi
    have h1 : (i : Int) < (x0.length : Int) := by omega
    rw [R8_4, if_pos (by simpa using h1)]
    refine ⟨by omega, h1, by omega, by omega, ?_⟩
    simp only [Int.toNat_natCast]
    rw [drop_get x0 i ((0 : Int), ByteArray.empty, ByteArray.empty, ()) (by omega), drop_get x1 i ((0 : Int), ByteArray.empty, ByteArray.empty, ()) (by omega)]
    by_cases he : x0.getD i ((0 : Int), ByteArray.empty, ByteArray.empty, ()) = x1.getD i ((0 : Int), ByteArray.empty, ByteArray.empty, ())
    · have hd := (eqd30 _ _).2 he
      rw [if_neg (by rw [hd]; simp)]
      refine ⟨inR_up hm (by omega), ?_⟩
      have := ih (i + 1) (by omega)
      simp only [he, List.cons.injEq, true_and]
      exact this
    · have hd : g30_0 (x0.getD i ((0 : Int), ByteArray.empty, ByteArray.empty, ())) (x1.getD i ((0 : Int), ByteArray.empty, ByteArray.empty, ())) = false :=
        Bool.eq_false_iff.2 fun h => he ((eqd30 _ _).1 h)
      rw [if_pos (by rw [hd]; rfl)]
      simp only [he, List.cons.injEq, false_and, decide_false]
def g8_0 (x0 x1 : List TyB3) : Bool := decide (x0 = x1)
def P8 (x0 x1 : List TyB3) : Prop := True
def S8 : Am.Spec := { sig := sig8, pre := fun ⟨x0, x1, _⟩ => P8 x0 x1, res := fun ⟨x0, x1, _⟩ => [⟨Ty.bool, g8_0 x0 x1⟩] }
theorem con8 : Contract Tryz.prog 8 S8 := contract_of Tryz.func8 hb8 (Nat.le_of_ble_eq_true (by kernel_rfl)) (fun ⟨x0, x1, _⟩ h hwf K q => by
  refine (snd8 (x0.length + 2)).1 x0 x1 _ ?_ K q
  show R8 (x0.length + 1 + 1) x0 x1 [⟨Ty.bool, decide (x0 = x1)⟩]
  rw [R8]
  by_cases hl : x0.length = x1.length
  · rw [if_neg (by simp [hl])]
    have := eq8 x0 x1 hl hwf.1.1 x0.length 0 (by omega)
    simpa using this
  · rw [if_pos (by simp; omega)]
    have : x0 ≠ x1 := fun h => hl (by rw [h])
    simp [this])
end
noncomputable section
def ext105 : Ext := []
theorem ext105Ok : ExtOk Tryz.prog ext105 := trivial
noncomputable def b105 : Code := bodyOf Tryz.f105
theorem hb105 : Tryz.f105.body = some b105 := by kernel_rfl
def sig105 : List AT := [AT.v YA9, AT.v YA9]
def tys105 : List Ty := [Ty.bool]
def kds105 : List RK := []
def oks105 : List AT := owns sig105
def P105 (x0 : Int × Int × Unit) (x1 : Int × Int × Unit) : Prop := True
def g105_0 (x0 : Int × Int × Unit) (x1 : Int × Int × Unit) : Bool := (if (x0.1 != x1.1) = true then false else (if (x0.2.1 != x1.2.1) = true then false else true))
theorem at105 (x0 : Int × Int × Unit) (x1 : Int × Int × Unit) (h : P105 x0 x1) (K : Ctx) (q : Nat → Value) : AtV Tryz.prog 105 (PostR kds105 oks105 [⟨Ty.bool, g105_0 x0 x1⟩] [] [] q K) 15 K q [] [.code b105] (entE 0 0 sig105 (x0, x1, ())) (entL sig105 (x0, x1, ())) := by
  unfold P105 at h
  unfold g105_0
  by_cases b0 : (x0.1 != x1.1) = true
  · try simp only [if_pos b0] at h ⊢
    exact AtV.ret Tryz.func105 tabOk ext105Ok mixed false [] tys105 [true] (a1 b0 trivial) (by kernel_rfl)
  · try simp only [if_neg b0] at h ⊢
    replace b0 := Bool.eq_false_iff.2 b0
    by_cases b1 : (x0.2.1 != x1.2.1) = true
    · try simp only [if_pos b1] at h ⊢
      exact AtV.ret Tryz.func105 tabOk ext105Ok mixed false [] tys105 [false, true] (a1 b0 (a1 b1 trivial)) (by kernel_rfl)
    · try simp only [if_neg b1] at h ⊢
      replace b1 := Bool.eq_false_iff.2 b1
      exact AtV.ret Tryz.func105 tabOk ext105Ok mixed false [] tys105 [false, false] (a1 b0 (a1 b1 trivial)) (by kernel_rfl)
def S105 : Am.Spec := { sig := sig105, pre := fun ⟨x0, x1, _⟩ => P105 x0 x1, res := fun ⟨x0, x1, _⟩ => [⟨Ty.bool, g105_0 x0 x1⟩], kds := kds105 }
theorem con105 : Contract Tryz.prog 105 S105 := contract_of Tryz.func105 hb105 (Nat.le_of_ble_eq_true (by kernel_rfl)) (fun ⟨x0, x1, _⟩ h _ K q => at105 x0 x1 h K q)
theorem eqd105 (x y : TyB4) : g105_0 x y = true ↔ x = y := by
  obtain ⟨a, b, u⟩ := x
  obtain ⟨a', b', u'⟩ := y
  unfold g105_0
  simp only [Bool.not_eq_true', bytes_ne, bne_iff_ne, ne_eq, ite_not]
  by_cases h0 : a = a'
  · by_cases h1 : b = b'
    · simp [h0, h1]
    · simp [h0, h1]
  · simp [h0]
end
noncomputable section
def ext73 : Ext := [(105, S105)]
theorem ext73Ok : ExtOk Tryz.prog ext73 := ⟨⟨ca105, con105⟩, trivial⟩
noncomputable def b73 : Code := bodyOf Tryz.f73
theorem hb73 : Tryz.f73.body = some b73 := by kernel_rfl
def sig73 : List AT := [AT.v (Ty.sl YA9), AT.v (Ty.sl YA9)]
def tys73 : List Ty := [Ty.bool]
def kds73 : List RK := []
def oks73 : List AT := owns sig73
def E73_4 (v5 : Int) (x0 : List TyB4) (x1 : List TyB4) : Env := [(0, PV.a (Atom.sl YA9 x0)), (1, PV.a (Atom.sl YA9 x1)), (5, PV.a (Atom.val (Value.int .i64 v5)))]
def L73_4 (v5 : Int) (x0 : List TyB4) (x1 : List TyB4) : Heap := []
mutual
def R73 : Nat → List TyB4 → List TyB4 → List Dyn → Prop
  | 0, _, _, _ => False
  | n + 1, x0, x1, ds => (if ((↑(List.length x0) : Int) != (↑(List.length x1) : Int)) = true then (ds = [Dyn.mk Ty.bool false]) else (R73_4 n (0) (x0) (x1) ds))
def R73_4 : Nat → Int → List TyB4 → List TyB4 → List Dyn → Prop
  | 0, _, _, _, _ => False
  | n + 1, v5, x0, x1, ds => (if (decide (v5 < (↑(List.length x0) : Int))) = true then ((0 ≤ v5) ∧ (v5 < (↑(List.length x0) : Int)) ∧ ((0 ≤ v5) ∧ (v5 < (↑(List.length x1) : Int)) ∧ (if (!g105_0 (List.getD x0 (Int.toNat v5) (0, 0, ())) (List.getD x1 (Int.toNat v5) (0, 0, ()))) = true then (ds = [Dyn.mk Ty.bool false]) else ((InR .i64 (v5 + 1)) ∧ (R73_4 n (v5 + 1) (x0) (x1) ds))))) else (ds = [Dyn.mk Ty.bool true]))
end
theorem snd73 : ∀ n, (∀ (x0 : List TyB4) (x1 : List TyB4) ds, R73 n x0 x1 ds → ∀ K q, AtV Tryz.prog 73 (PostR kds73 oks73 ds [] [] q K) 27 K q [] [.code b73] (entE 0 0 sig73 (x0, x1, ())) (entL sig73 (x0, x1, ()))) ∧ (∀ (v5 : Int) (x0 : List TyB4) (x1 : List TyB4) ds, R73_4 n v5 x0 x1 ds → ∀ K q, AtV Tryz.prog 73 (PostR kds73 oks73 ds [] [] q K) 27 K q [] (cutAt b73 4) (E73_4 v5 x0 x1) (L73_4 v5 x0 x1)) := by
  intro n
  induction n with
  | zero => exact ⟨fun _ _ _ h => by simp only [R73] at h, fun _ _ _ _ h => by simp only [R73_4] at h⟩
  | succ n ih =>
  obtain ⟨ih, ih4⟩ := ih
  refine ⟨?_, ?_⟩
  · intro x0 x1 ds h K q
    rw [R73] at h
    by_cases b0 : ((↑(List.length x0) : Int) != (↑(List.length x1) : Int)) = true
    · rw [if_pos b0] at h
      subst h
      exact AtV.ret Tryz.func73 tabOk ext73Ok mixed false [] tys73 [true] (a1 b0 trivial) (by kernel_rfl)
    · rw [if_neg b0] at h
      replace b0 := Bool.eq_false_iff.2 b0
      exact AtV.go tabOk ext73Ok mixed false [] [] [0, 1, 5] [] [false] (a1 b0 trivial) (ih4 _ _ _ _ h K q) (by kernel_rfl)
  · intro v5 x0 x1 ds h K q
    rw [R73_4] at h
    by_cases b0 : (decide (v5 < (↑(List.length x0) : Int))) = true
    · rw [if_pos b0] at h
      obtain ⟨s0, s1, h⟩ := h
      obtain ⟨s2, s3, h⟩ := h
      by_cases b1 : (!g105_0 (List.getD x0 (Int.toNat v5) (0, 0, ())) (List.getD x1 (Int.toNat v5) (0, 0, ()))) = true
      · rw [if_pos b1] at h
        subst h
        exact AtV.ret Tryz.func73 tabOk ext73Ok mixed false [] tys73 [true, true] (a1 b0 (a1 s0 (a1 s1 (a1 s2 (a1 s3 (a1 trivial (a1 b1 trivial))))))) (by kernel_rfl)
      · rw [if_neg b1] at h
        replace b1 := Bool.eq_false_iff.2 b1
        obtain ⟨s4, h⟩ := h
        exact AtV.go tabOk ext73Ok mixed false [] [] [0, 1, 5] [] [true, false] (a1 b0 (a1 s0 (a1 s1 (a1 s2 (a1 s3 (a1 trivial (a1 b1 (a1 s4 trivial)))))))) (ih4 _ _ _ _ h K q) (by kernel_rfl)
    · rw [if_neg b0] at h
      replace b0 := Bool.eq_false_iff.2 b0
      subst h
      exact AtV.ret Tryz.func73 tabOk ext73Ok mixed false [] tys73 [false] (a1 b0 trivial) (by kernel_rfl)
theorem eq73 (x0 x1 : List TyB4) (hl : x0.length = x1.length) (hm : x0.length ≤ maxLen) : ∀ k i : Nat, i + k = x0.length → R73_4 (k + 1) (i : Int) x0 x1 [⟨.bool, decide (x0.drop i = x1.drop i)⟩] := by
  intro k
  induction k with
  | zero =>
    intro i hi
    have h1 : ¬ (i : Int) < (x0.length : Int) := by omega
    rw [R73_4, if_neg (by simpa using h1), drop_end x0 i (by omega), drop_end x1 i (by omega)]
    simp
  | succ k ih =>
    intro i hi
    have h1 : (i : Int) < (x0.length : Int) := by omega
    rw [R73_4, if_pos (by simpa using h1)]
    refine ⟨by omega, h1, by omega, by omega, ?_⟩
    simp only [Int.toNat_natCast]
    rw [drop_get x0 i ((0 : Int), (0 : Int), ()) (by omega), drop_get x1 i ((0 : Int), (0 : Int), ()) (by omega)]
    by_cases he : x0.getD i ((0 : Int), (0 : Int), ()) = x1.getD i ((0 : Int), (0 : Int), ())
    · have hd := (eqd105 _ _).2 he
      rw [if_neg (by rw [hd]; simp)]
      refine ⟨inR_up hm (by omega), ?_⟩
      have := ih (i + 1) (by omega)
      simp only [he, List.cons.injEq, true_and]
      exact this
    · have hd : g105_0 (x0.getD i ((0 : Int), (0 : Int), ())) (x1.getD i ((0 : Int), (0 : Int), ())) = false :=
        Bool.eq_false_iff.2 fun h => he ((eqd105 _ _).1 h)
      rw [if_pos (by rw [hd]; rfl)]
      simp only [he, List.cons.injEq, false_and, decide_false]
def g73_0 (x0 x1 : List TyB4) : Bool := decide (x0 = x1)
def P73 (x0 x1 : List TyB4) : Prop := True
def S73 : Am.Spec := { sig := sig73, pre := fun ⟨x0, x1, _⟩ => P73 x0 x1, res := fun ⟨x0, x1, _⟩ => [⟨Ty.bool, g73_0 x0 x1⟩] }
theorem con73 : Contract Tryz.prog 73 S73 := contract_of Tryz.func73 hb73 (Nat.le_of_ble_eq_true (by kernel_rfl)) (fun ⟨x0, x1, _⟩ h hwf K q => by
  refine (snd73 (x0.length + 2)).1 x0 x1 _ ?_ K q
  show R73 (x0.length + 1 + 1) x0 x1 [⟨Ty.bool, decide (x0 = x1)⟩]
  rw [R73]
  by_cases hl : x0.length = x1.length
  · rw [if_neg (by simp [hl])]
    have := eq73 x0 x1 hl hwf.1.1 x0.length 0 (by omega)
    simpa using this
  · rw [if_pos (by simp; omega)]
    have : x0 ≠ x1 := fun h => hl (by rw [h])
    simp [this])
end
noncomputable section
def ext31 : Ext := [(73, S73)]
theorem ext31Ok : ExtOk Tryz.prog ext31 := ⟨⟨ca73, con73⟩, trivial⟩
noncomputable def b31 : Code := bodyOf Tryz.f31
theorem hb31 : Tryz.f31.body = some b31 := by kernel_rfl
def sig31 : List AT := [AT.v YA2, AT.v YA2]
def tys31 : List Ty := [Ty.bool]
def kds31 : List RK := []
def oks31 : List AT := owns sig31
def P31 (x0 : List TyB4 × Int × Int × Unit) (x1 : List TyB4 × Int × Int × Unit) : Prop := True
def g31_0 (x0 : List TyB4 × Int × Int × Unit) (x1 : List TyB4 × Int × Int × Unit) : Bool := (if (!g73_0 x0.1 x1.1) = true then false else (if (x0.2.1 != x1.2.1) = true then false else (if (x0.2.2.1 != x1.2.2.1) = true then false else true)))
theorem at31 (x0 : List TyB4 × Int × Int × Unit) (x1 : List TyB4 × Int × Int × Unit) (h : P31 x0 x1) (K : Ctx) (q : Nat → Value) : AtV Tryz.prog 31 (PostR kds31 oks31 [⟨Ty.bool, g31_0 x0 x1⟩] [] [] q K) 21 K q [] [.code b31] (entE 0 0 sig31 (x0, x1, ())) (entL sig31 (x0, x1, ())) := by
  unfold P31 at h
  unfold g31_0
  by_cases b0 : (!g73_0 x0.1 x1.1) = true
  · try simp only [if_pos b0] at h ⊢
    exact AtV.ret Tryz.func31 tabOk ext31Ok mixed false [] tys31 [true] (a1 trivial (a1 b0 trivial)) (by kernel_rfl)
  · try simp only [if_neg b0] at h ⊢
    replace b0 := Bool.eq_false_iff.2 b0
    by_cases b1 : (x0.2.1 != x1.2.1) = true
    · try simp only [if_pos b1] at h ⊢
      exact AtV.ret Tryz.func31 tabOk ext31Ok mixed false [] tys31 [false, true] (a1 trivial (a1 b0 (a1 b1 trivial))) (by kernel_rfl)
    · try simp only [if_neg b1] at h ⊢
      replace b1 := Bool.eq_false_iff.2 b1
      by_cases b2 : (x0.2.2.1 != x1.2.2.1) = true
      · try simp only [if_pos b2] at h ⊢
        exact AtV.ret Tryz.func31 tabOk ext31Ok mixed false [] tys31 [false, false, true] (a1 trivial (a1 b0 (a1 b1 (a1 b2 trivial)))) (by kernel_rfl)
      · try simp only [if_neg b2] at h ⊢
        replace b2 := Bool.eq_false_iff.2 b2
        exact AtV.ret Tryz.func31 tabOk ext31Ok mixed false [] tys31 [false, false, false] (a1 trivial (a1 b0 (a1 b1 (a1 b2 trivial)))) (by kernel_rfl)
def S31 : Am.Spec := { sig := sig31, pre := fun ⟨x0, x1, _⟩ => P31 x0 x1, res := fun ⟨x0, x1, _⟩ => [⟨Ty.bool, g31_0 x0 x1⟩], kds := kds31 }
theorem con31 : Contract Tryz.prog 31 S31 := contract_of Tryz.func31 hb31 (Nat.le_of_ble_eq_true (by kernel_rfl)) (fun ⟨x0, x1, _⟩ h _ K q => at31 x0 x1 h K q)
end
noncomputable section
def ext32 : Ext := []
theorem ext32Ok : ExtOk Tryz.prog ext32 := trivial
noncomputable def b32 : Code := bodyOf Tryz.f32
theorem hb32 : Tryz.f32.body = some b32 := by kernel_rfl
def sig32 : List AT := [AT.v YA9, AT.v YA9]
def tys32 : List Ty := [Ty.bool]
def kds32 : List RK := []
def oks32 : List AT := owns sig32
def P32 (x0 : Int × Int × Unit) (x1 : Int × Int × Unit) : Prop := True
def g32_0 (x0 : Int × Int × Unit) (x1 : Int × Int × Unit) : Bool := (if (x0.1 != x1.1) = true then false else (if (x0.2.1 != x1.2.1) = true then false else true))
theorem at32 (x0 : Int × Int × Unit) (x1 : Int × Int × Unit) (h : P32 x0 x1) (K : Ctx) (q : Nat → Value) : AtV Tryz.prog 32 (PostR kds32 oks32 [⟨Ty.bool, g32_0 x0 x1⟩] [] [] q K) 15 K q [] [.code b32] (entE 0 0 sig32 (x0, x1, ())) (entL sig32 (x0, x1, ())) := by
  unfold P32 at h
  unfold g32_0
  by_cases b0 : (x0.1 != x1.1) = true
  · try simp only [if_pos b0] at h ⊢
    exact AtV.ret Tryz.func32 tabOk ext32Ok mixed false [] tys32 [true] (a1 b0 trivial) (by kernel_rfl)
  · try simp only [if_neg b0] at h ⊢
    replace b0 := Bool.eq_false_iff.2 b0
    by_cases b1 : (x0.2.1 != x1.2.1) = true
    · try simp only [if_pos b1] at h ⊢
      exact AtV.ret Tryz.func32 tabOk ext32Ok mixed false [] tys32 [false, true] (a1 b0 (a1 b1 trivial)) (by kernel_rfl)
    · try simp only [if_neg b1] at h ⊢
      replace b1 := Bool.eq_false_iff.2 b1
      exact AtV.ret Tryz.func32 tabOk ext32Ok mixed false [] tys32 [false, false] (a1 b0 (a1 b1 trivial)) (by kernel_rfl)
def S32 : Am.Spec := { sig := sig32, pre := fun ⟨x0, x1, _⟩ => P32 x0 x1, res := fun ⟨x0, x1, _⟩ => [⟨Ty.bool, g32_0 x0 x1⟩], kds := kds32 }
theorem con32 : Contract Tryz.prog 32 S32 := contract_of Tryz.func32 hb32 (Nat.le_of_ble_eq_true (by kernel_rfl)) (fun ⟨x0, x1, _⟩ h _ K q => at32 x0 x1 h K q)
end
noncomputable section
def ext33 : Ext := []
theorem ext33Ok : ExtOk Tryz.prog ext33 := trivial
noncomputable def b33 : Code := bodyOf Tryz.f33
theorem hb33 : Tryz.f33.body = some b33 := by kernel_rfl
def sig33 : List AT := [AT.v YA4, AT.v YA4]
def tys33 : List Ty := [Ty.bool]
def kds33 : List RK := []
def oks33 : List AT := owns sig33
def P33 (x0 : Int × Int × Int × Int × Unit) (x1 : Int × Int × Int × Int × Unit) : Prop := True
def g33_0 (x0 : Int × Int × Int × Int × Unit) (x1 : Int × Int × Int × Int × Unit) : Bool := (if (x0.1 != x1.1) = true then false else (if (x0.2.1 != x1.2.1) = true then false else (if (x0.2.2.1 != x1.2.2.1) = true then false else (if (x0.2.2.2.1 != x1.2.2.2.1) = true then false else true))))
theorem at33 (x0 : Int × Int × Int × Int × Unit) (x1 : Int × Int × Int × Int × Unit) (h : P33 x0 x1) (K : Ctx) (q : Nat → Value) : AtV Tryz.prog 33 (PostR kds33 oks33 [⟨Ty.bool, g33_0 x0 x1⟩] [] [] q K) 25 K q [] [.code b33] (entE 0 0 sig33 (x0, x1, ())) (entL sig33 (x0, x1, ())) := by
  unfold P33 at h
  unfold g33_0
  by_cases b0 : (x0.1 != x1.1) = true
  · try simp only [if_pos b0] at h ⊢
    exact AtV.ret Tryz.func33 tabOk ext33Ok mixed false [] tys33 [true] (a1 b0 trivial) (by kernel_rfl)
  · try simp only [if_neg b0] at h ⊢
    replace b0 := Bool.eq_false_iff.2 b0
    by_cases b1 : (x0.2.1 != x1.2.1) = true
    · try simp only [if_pos b1] at h ⊢
      exact AtV.ret Tryz.func33 tabOk ext33Ok mixed false [] tys33 [false, true] (a1 b0 (a1 b1 trivial)) (by kernel_rfl)
    · try simp only [if_neg b1] at h ⊢
      replace b1 := Bool.eq_false_iff.2 b1
      by_cases b2 : (x0.2.2.1 != x1.2.2.1) = true
      · try simp only [if_pos b2] at h ⊢
        exact AtV.ret Tryz.func33 tabOk ext33Ok mixed false [] tys33 [false, false, true] (a1 b0 (a1 b1 (a1 b2 trivial))) (by kernel_rfl)
      · try simp only [if_neg b2] at h ⊢
        replace b2 := Bool.eq_false_iff.2 b2
        by_cases b3 : (x0.2.2.2.1 != x1.2.2.2.1) = true
        · try simp only [if_pos b3] at h ⊢
          exact AtV.ret Tryz.func33 tabOk ext33Ok mixed false [] tys33 [false, false, false, true] (a1 b0 (a1 b1 (a1 b2 (a1 b3 trivial)))) (by kernel_rfl)
        · try simp only [if_neg b3] at h ⊢
          replace b3 := Bool.eq_false_iff.2 b3
          exact AtV.ret Tryz.func33 tabOk ext33Ok mixed false [] tys33 [false, false, false, false] (a1 b0 (a1 b1 (a1 b2 (a1 b3 trivial)))) (by kernel_rfl)
def S33 : Am.Spec := { sig := sig33, pre := fun ⟨x0, x1, _⟩ => P33 x0 x1, res := fun ⟨x0, x1, _⟩ => [⟨Ty.bool, g33_0 x0 x1⟩], kds := kds33 }
theorem con33 : Contract Tryz.prog 33 S33 := contract_of Tryz.func33 hb33 (Nat.le_of_ble_eq_true (by kernel_rfl)) (fun ⟨x0, x1, _⟩ h _ K q => at33 x0 x1 h K q)
end
noncomputable section
def ext74 : Ext := []
theorem ext74Ok : ExtOk Tryz.prog ext74 := trivial
noncomputable def b74 : Code := bodyOf Tryz.f74
theorem hb74 : Tryz.f74.body = some b74 := by kernel_rfl
def sig74 : List AT := [AT.v YA5, AT.v YA5]
def tys74 : List Ty := [Ty.bool]
def kds74 : List RK := []
def oks74 : List AT := owns sig74
def P74 (x0 : ByteArray × Int × Int × Int × Unit) (x1 : ByteArray × Int × Int × Int × Unit) : Prop := True
def g74_0 (x0 : ByteArray × Int × Int × Int × Unit) (x1 : ByteArray × Int × Int × Int × Unit) : Bool := (if (!ByteArray.toList x0.1 == ByteArray.toList x1.1) = true then false else (if (x0.2.1 != x1.2.1) = true then false else (if (x0.2.2.1 != x1.2.2.1) = true then false else (if (x0.2.2.2.1 != x1.2.2.2.1) = true then false else true))))
theorem at74 (x0 : ByteArray × Int × Int × Int × Unit) (x1 : ByteArray × Int × Int × Int × Unit) (h : P74 x0 x1) (K : Ctx) (q : Nat → Value) : AtV Tryz.prog 74 (PostR kds74 oks74 [⟨Ty.bool, g74_0 x0 x1⟩] [] [] q K) 25 K q [] [.code b74] (entE 0 0 sig74 (x0, x1, ())) (entL sig74 (x0, x1, ())) := by
  unfold P74 at h
  unfold g74_0
  by_cases b0 : (!ByteArray.toList x0.1 == ByteArray.toList x1.1) = true
  · try simp only [if_pos b0] at h ⊢
    exact AtV.ret Tryz.func74 tabOk ext74Ok mixed false [] tys74 [true] (a1 b0 trivial) (by kernel_rfl)
  · try simp only [if_neg b0] at h ⊢
    replace b0 := Bool.eq_false_iff.2 b0
    by_cases b1 : (x0.2.1 != x1.2.1) = true
    · try simp only [if_pos b1] at h ⊢
      exact AtV.ret Tryz.func74 tabOk ext74Ok mixed false [] tys74 [false, true] (a1 b0 (a1 b1 trivial)) (by kernel_rfl)
    · try simp only [if_neg b1] at h ⊢
      replace b1 := Bool.eq_false_iff.2 b1
      by_cases b2 : (x0.2.2.1 != x1.2.2.1) = true
      · try simp only [if_pos b2] at h ⊢
        exact AtV.ret Tryz.func74 tabOk ext74Ok mixed false [] tys74 [false, false, true] (a1 b0 (a1 b1 (a1 b2 trivial))) (by kernel_rfl)
      · try simp only [if_neg b2] at h ⊢
        replace b2 := Bool.eq_false_iff.2 b2
        by_cases b3 : (x0.2.2.2.1 != x1.2.2.2.1) = true
        · try simp only [if_pos b3] at h ⊢
          exact AtV.ret Tryz.func74 tabOk ext74Ok mixed false [] tys74 [false, false, false, true] (a1 b0 (a1 b1 (a1 b2 (a1 b3 trivial)))) (by kernel_rfl)
        · try simp only [if_neg b3] at h ⊢
          replace b3 := Bool.eq_false_iff.2 b3
          exact AtV.ret Tryz.func74 tabOk ext74Ok mixed false [] tys74 [false, false, false, false] (a1 b0 (a1 b1 (a1 b2 (a1 b3 trivial)))) (by kernel_rfl)
def S74 : Am.Spec := { sig := sig74, pre := fun ⟨x0, x1, _⟩ => P74 x0 x1, res := fun ⟨x0, x1, _⟩ => [⟨Ty.bool, g74_0 x0 x1⟩], kds := kds74 }
theorem con74 : Contract Tryz.prog 74 S74 := contract_of Tryz.func74 hb74 (Nat.le_of_ble_eq_true (by kernel_rfl)) (fun ⟨x0, x1, _⟩ h _ K q => at74 x0 x1 h K q)
theorem eqd74 (x y : TyB1) : g74_0 x y = true ↔ x = y := by
  obtain ⟨a, b, c, d, u⟩ := x
  obtain ⟨a', b', c', d', u'⟩ := y
  unfold g74_0
  simp only [Bool.not_eq_true', bytes_ne, bne_iff_ne, ne_eq, ite_not]
  by_cases h0 : a = a'
  · by_cases h1 : b = b'
    · by_cases h2 : c = c'
      · by_cases h3 : d = d'
        · simp [h0, h1, h2, h3]
        · simp [h0, h1, h2, h3]
      · simp [h0, h1, h2]
    · simp [h0, h1]
  · simp [h0]
end
noncomputable section
def ext34 : Ext := [(74, S74)]
theorem ext34Ok : ExtOk Tryz.prog ext34 := ⟨⟨ca74, con74⟩, trivial⟩
noncomputable def b34 : Code := bodyOf Tryz.f34
theorem hb34 : Tryz.f34.body = some b34 := by kernel_rfl
def sig34 : List AT := [AT.v (Ty.sl YA5), AT.v (Ty.sl YA5)]
def tys34 : List Ty := [Ty.bool]
def kds34 : List RK := []
def oks34 : List AT := owns sig34
def E34_4 (v5 : Int) (x0 : List TyB1) (x1 : List TyB1) : Env := [(0, PV.a (Atom.sl YA5 x0)), (1, PV.a (Atom.sl YA5 x1)), (5, PV.a (Atom.val (Value.int .i64 v5)))]
def L34_4 (v5 : Int) (x0 : List TyB1) (x1 : List TyB1) : Heap := []
mutual
def R34 : Nat → List TyB1 → List TyB1 → List Dyn → Prop
  | 0, _, _, _ => False
  | n + 1, x0, x1, ds => (if ((↑(List.length x0) : Int) != (↑(List.length x1) : Int)) = true then (ds = [Dyn.mk Ty.bool false]) else (R34_4 n (0) (x0) (x1) ds))
def R34_4 : Nat → Int → List TyB1 → List TyB1 → List Dyn → Prop
  | 0, _, _, _, _ => False
  | n + 1, v5, x0, x1, ds => (if (decide (v5 < (↑(List.length x0) : Int))) = true then ((0 ≤ v5) ∧ (v5 < (↑(List.length x0) : Int)) ∧ ((0 ≤ v5) ∧ (v5 < (↑(List.length x1) : Int)) ∧ (if (!g74_0 (List.getD x0 (Int.toNat v5) (ByteArray.empty, 0, 0, 0, ())) (List.getD x1 (Int.toNat v5) (ByteArray.empty, 0, 0, 0, ()))) = true then (ds = [Dyn.mk Ty.bool false]) else ((InR .i64 (v5 + 1)) ∧ (R34_4 n (v5 + 1) (x0) (x1) ds))))) else (ds = [Dyn.mk Ty.bool true]))
end
theorem snd34 : ∀ n, (∀ (x0 : List TyB1) (x1 : List TyB1) ds, R34 n x0 x1 ds → ∀ K q, AtV Tryz.prog 34 (PostR kds34 oks34 ds [] [] q K) 27 K q [] [.code b34] (entE 0 0 sig34 (x0, x1, ())) (entL sig34 (x0, x1, ()))) ∧ (∀ (v5 : Int) (x0 : List TyB1) (x1 : List TyB1) ds, R34_4 n v5 x0 x1 ds → ∀ K q, AtV Tryz.prog 34 (PostR kds34 oks34 ds [] [] q K) 27 K q [] (cutAt b34 4) (E34_4 v5 x0 x1) (L34_4 v5 x0 x1)) := by
  intro n
  induction n with
  | zero => exact ⟨fun _ _ _ h => by simp only [R34] at h, fun _ _ _ _ h => by simp only [R34_4] at h⟩
  | succ n ih =>
  obtain ⟨ih, ih4⟩ := ih
  refine ⟨?_, ?_⟩
  · intro x0 x1 ds h K q
    rw [R34] at h
    by_cases b0 : ((↑(List.length x0) : Int) != (↑(List.length x1) : Int)) = true
    · rw [if_pos b0] at h
      subst h
      exact AtV.ret Tryz.func34 tabOk ext34Ok mixed false [] tys34 [true] (a1 b0 trivial) (by kernel_rfl)
    · rw [if_neg b0] at h
      replace b0 := Bool.eq_false_iff.2 b0
      exact AtV.go tabOk ext34Ok mixed false [] [] [0, 1, 5] [] [false] (a1 b0 trivial) (ih4 _ _ _ _ h K q) (by kernel_rfl)
  · intro v5 x0 x1 ds h K q
    rw [R34_4] at h
    by_cases b0 : (decide (v5 < (↑(List.length x0) : Int))) = true
    · rw [if_pos b0] at h
      obtain ⟨s0, s1, h⟩ := h
      obtain ⟨s2, s3, h⟩ := h
      by_cases b1 : (!g74_0 (List.getD x0 (Int.toNat v5) (ByteArray.empty, 0, 0, 0, ())) (List.getD x1 (Int.toNat v5) (ByteArray.empty, 0, 0, 0, ()))) = true
      · rw [if_pos b1] at h
        subst h
        exact AtV.ret Tryz.func34 tabOk ext34Ok mixed false [] tys34 [true, true] (a1 b0 (a1 s0 (a1 s1 (a1 s2 (a1 s3 (a1 trivial (a1 b1 trivial))))))) (by kernel_rfl)
      · rw [if_neg b1] at h
        replace b1 := Bool.eq_false_iff.2 b1
        obtain ⟨s4, h⟩ := h
        exact AtV.go tabOk ext34Ok mixed false [] [] [0, 1, 5] [] [true, false] (a1 b0 (a1 s0 (a1 s1 (a1 s2 (a1 s3 (a1 trivial (a1 b1 (a1 s4 trivial)))))))) (ih4 _ _ _ _ h K q) (by kernel_rfl)
    · rw [if_neg b0] at h
      replace b0 := Bool.eq_false_iff.2 b0
      subst h
      exact AtV.ret Tryz.func34 tabOk ext34Ok mixed false [] tys34 [false] (a1 b0 trivial) (by kernel_rfl)
theorem eq34 (x0 x1 : List TyB1) (hl : x0.length = x1.length) (hm : x0.length ≤ maxLen) : ∀ k i : Nat, i + k = x0.length → R34_4 (k + 1) (i : Int) x0 x1 [⟨.bool, decide (x0.drop i = x1.drop i)⟩] := by
  intro k
  induction k with
  | zero =>
    intro i hi
    have h1 : ¬ (i : Int) < (x0.length : Int) := by omega
    rw [R34_4, if_neg (by simpa using h1), drop_end x0 i (by omega), drop_end x1 i (by omega)]
    simp
  | succ k ih =>
    intro i hi
    have h1 : (i : Int) < (x0.length : Int) := by omega
    rw [R34_4, if_pos (by simpa using h1)]
    refine ⟨by omega, h1, by omega, by omega, ?_⟩
    simp only [Int.toNat_natCast]
    rw [drop_get x0 i (ByteArray.empty, (0 : Int), (0 : Int), (0 : Int), ()) (by omega), drop_get x1 i (ByteArray.empty, (0 : Int), (0 : Int), (0 : Int), ()) (by omega)]
    by_cases he : x0.getD i (ByteArray.empty, (0 : Int), (0 : Int), (0 : Int), ()) = x1.getD i (ByteArray.empty, (0 : Int), (0 : Int), (0 : Int), ())
    · have hd := (eqd74 _ _).2 he
      rw [if_neg (by rw [hd]; simp)]
      refine ⟨inR_up hm (by omega), ?_⟩
      have := ih (i + 1) (by omega)
      simp only [he, List.cons.injEq, true_and]
      exact this
    · have hd : g74_0 (x0.getD i (ByteArray.empty, (0 : Int), (0 : Int), (0 : Int), ())) (x1.getD i (ByteArray.empty, (0 : Int), (0 : Int), (0 : Int), ())) = false :=
        Bool.eq_false_iff.2 fun h => he ((eqd74 _ _).1 h)
      rw [if_pos (by rw [hd]; rfl)]
      simp only [he, List.cons.injEq, false_and, decide_false]
def g34_0 (x0 x1 : List TyB1) : Bool := decide (x0 = x1)
def P34 (x0 x1 : List TyB1) : Prop := True
def S34 : Am.Spec := { sig := sig34, pre := fun ⟨x0, x1, _⟩ => P34 x0 x1, res := fun ⟨x0, x1, _⟩ => [⟨Ty.bool, g34_0 x0 x1⟩] }
theorem con34 : Contract Tryz.prog 34 S34 := contract_of Tryz.func34 hb34 (Nat.le_of_ble_eq_true (by kernel_rfl)) (fun ⟨x0, x1, _⟩ h hwf K q => by
  refine (snd34 (x0.length + 2)).1 x0 x1 _ ?_ K q
  show R34 (x0.length + 1 + 1) x0 x1 [⟨Ty.bool, decide (x0 = x1)⟩]
  rw [R34]
  by_cases hl : x0.length = x1.length
  · rw [if_neg (by simp [hl])]
    have := eq34 x0 x1 hl hwf.1.1 x0.length 0 (by omega)
    simpa using this
  · rw [if_pos (by simp; omega)]
    have : x0 ≠ x1 := fun h => hl (by rw [h])
    simp [this])
end
noncomputable section
def ext35 : Ext := []
theorem ext35Ok : ExtOk Tryz.prog ext35 := trivial
noncomputable def b35 : Code := bodyOf Tryz.f35
theorem hb35 : Tryz.f35.body = some b35 := by kernel_rfl
def sig35 : List AT := [AT.v YA7, AT.v YA7]
def tys35 : List Ty := [Ty.bool]
def kds35 : List RK := []
def oks35 : List AT := owns sig35
def P35 (x0 : Int × Int × Int × Unit) (x1 : Int × Int × Int × Unit) : Prop := True
def g35_0 (x0 : Int × Int × Int × Unit) (x1 : Int × Int × Int × Unit) : Bool := (if (x0.1 != x1.1) = true then false else (if (x0.2.1 != x1.2.1) = true then false else (if (x0.2.2.1 != x1.2.2.1) = true then false else true)))
theorem at35 (x0 : Int × Int × Int × Unit) (x1 : Int × Int × Int × Unit) (h : P35 x0 x1) (K : Ctx) (q : Nat → Value) : AtV Tryz.prog 35 (PostR kds35 oks35 [⟨Ty.bool, g35_0 x0 x1⟩] [] [] q K) 20 K q [] [.code b35] (entE 0 0 sig35 (x0, x1, ())) (entL sig35 (x0, x1, ())) := by
  unfold P35 at h
  unfold g35_0
  by_cases b0 : (x0.1 != x1.1) = true
  · try simp only [if_pos b0] at h ⊢
    exact AtV.ret Tryz.func35 tabOk ext35Ok mixed false [] tys35 [true] (a1 b0 trivial) (by kernel_rfl)
  · try simp only [if_neg b0] at h ⊢
    replace b0 := Bool.eq_false_iff.2 b0
    by_cases b1 : (x0.2.1 != x1.2.1) = true
    · try simp only [if_pos b1] at h ⊢
      exact AtV.ret Tryz.func35 tabOk ext35Ok mixed false [] tys35 [false, true] (a1 b0 (a1 b1 trivial)) (by kernel_rfl)
    · try simp only [if_neg b1] at h ⊢
      replace b1 := Bool.eq_false_iff.2 b1
      by_cases b2 : (x0.2.2.1 != x1.2.2.1) = true
      · try simp only [if_pos b2] at h ⊢
        exact AtV.ret Tryz.func35 tabOk ext35Ok mixed false [] tys35 [false, false, true] (a1 b0 (a1 b1 (a1 b2 trivial))) (by kernel_rfl)
      · try simp only [if_neg b2] at h ⊢
        replace b2 := Bool.eq_false_iff.2 b2
        exact AtV.ret Tryz.func35 tabOk ext35Ok mixed false [] tys35 [false, false, false] (a1 b0 (a1 b1 (a1 b2 trivial))) (by kernel_rfl)
def S35 : Am.Spec := { sig := sig35, pre := fun ⟨x0, x1, _⟩ => P35 x0 x1, res := fun ⟨x0, x1, _⟩ => [⟨Ty.bool, g35_0 x0 x1⟩], kds := kds35 }
theorem con35 : Contract Tryz.prog 35 S35 := contract_of Tryz.func35 hb35 (Nat.le_of_ble_eq_true (by kernel_rfl)) (fun ⟨x0, x1, _⟩ h _ K q => at35 x0 x1 h K q)
end
noncomputable section
def ext75 : Ext := []
theorem ext75Ok : ExtOk Tryz.prog ext75 := trivial
noncomputable def b75 : Code := bodyOf Tryz.f75
theorem hb75 : Tryz.f75.body = some b75 := by kernel_rfl
def sig75 : List AT := [AT.v YA3, AT.v YA3]
def tys75 : List Ty := [Ty.bool]
def kds75 : List RK := []
def oks75 : List AT := owns sig75
def P75 (x0 : ByteArray × Int × Int × Int × Int × Unit) (x1 : ByteArray × Int × Int × Int × Int × Unit) : Prop := True
def g75_0 (x0 : ByteArray × Int × Int × Int × Int × Unit) (x1 : ByteArray × Int × Int × Int × Int × Unit) : Bool := (if (!ByteArray.toList x0.1 == ByteArray.toList x1.1) = true then false else (if (x0.2.1 != x1.2.1) = true then false else (if (x0.2.2.1 != x1.2.2.1) = true then false else (if (x0.2.2.2.1 != x1.2.2.2.1) = true then false else (if (x0.2.2.2.2.1 != x1.2.2.2.2.1) = true then false else true)))))
theorem at75 (x0 : ByteArray × Int × Int × Int × Int × Unit) (x1 : ByteArray × Int × Int × Int × Int × Unit) (h : P75 x0 x1) (K : Ctx) (q : Nat → Value) : AtV Tryz.prog 75 (PostR kds75 oks75 [⟨Ty.bool, g75_0 x0 x1⟩] [] [] q K) 30 K q [] [.code b75] (entE 0 0 sig75 (x0, x1, ())) (entL sig75 (x0, x1, ())) := by
  unfold P75 at h
  unfold g75_0
  by_cases b0 : (!ByteArray.toList x0.1 == ByteArray.toList x1.1) = true
  · try simp only [if_pos b0] at h ⊢
    exact AtV.ret Tryz.func75 tabOk ext75Ok mixed false [] tys75 [true] (a1 b0 trivial) (by kernel_rfl)
  · try simp only [if_neg b0] at h ⊢
    replace b0 := Bool.eq_false_iff.2 b0
    by_cases b1 : (x0.2.1 != x1.2.1) = true
    · try simp only [if_pos b1] at h ⊢
      exact AtV.ret Tryz.func75 tabOk ext75Ok mixed false [] tys75 [false, true] (a1 b0 (a1 b1 trivial)) (by kernel_rfl)
    · try simp only [if_neg b1] at h ⊢
      replace b1 := Bool.eq_false_iff.2 b1
      by_cases b2 : (x0.2.2.1 != x1.2.2.1) = true
      · try simp only [if_pos b2] at h ⊢
        exact AtV.ret Tryz.func75 tabOk ext75Ok mixed false [] tys75 [false, false, true] (a1 b0 (a1 b1 (a1 b2 trivial))) (by kernel_rfl)
      · try simp only [if_neg b2] at h ⊢
        replace b2 := Bool.eq_false_iff.2 b2
        by_cases b3 : (x0.2.2.2.1 != x1.2.2.2.1) = true
        · try simp only [if_pos b3] at h ⊢
          exact AtV.ret Tryz.func75 tabOk ext75Ok mixed false [] tys75 [false, false, false, true] (a1 b0 (a1 b1 (a1 b2 (a1 b3 trivial)))) (by kernel_rfl)
        · try simp only [if_neg b3] at h ⊢
          replace b3 := Bool.eq_false_iff.2 b3
          by_cases b4 : (x0.2.2.2.2.1 != x1.2.2.2.2.1) = true
          · try simp only [if_pos b4] at h ⊢
            exact AtV.ret Tryz.func75 tabOk ext75Ok mixed false [] tys75 [false, false, false, false, true] (a1 b0 (a1 b1 (a1 b2 (a1 b3 (a1 b4 trivial))))) (by kernel_rfl)
          · try simp only [if_neg b4] at h ⊢
            replace b4 := Bool.eq_false_iff.2 b4
            exact AtV.ret Tryz.func75 tabOk ext75Ok mixed false [] tys75 [false, false, false, false, false] (a1 b0 (a1 b1 (a1 b2 (a1 b3 (a1 b4 trivial))))) (by kernel_rfl)
def S75 : Am.Spec := { sig := sig75, pre := fun ⟨x0, x1, _⟩ => P75 x0 x1, res := fun ⟨x0, x1, _⟩ => [⟨Ty.bool, g75_0 x0 x1⟩], kds := kds75 }
theorem con75 : Contract Tryz.prog 75 S75 := contract_of Tryz.func75 hb75 (Nat.le_of_ble_eq_true (by kernel_rfl)) (fun ⟨x0, x1, _⟩ h _ K q => at75 x0 x1 h K q)
theorem eqd75 (x y : TyB0) : g75_0 x y = true ↔ x = y := by
  obtain ⟨a, b, c, d, e, u⟩ := x
  obtain ⟨a', b', c', d', e', u'⟩ := y
  unfold g75_0
  simp only [Bool.not_eq_true', bytes_ne, bne_iff_ne, ne_eq, ite_not]
  by_cases h0 : a = a'
  · by_cases h1 : b = b'
    · by_cases h2 : c = c'
      · by_cases h3 : d = d'
        · by_cases h4 : e = e'
          · simp [h0, h1, h2, h3, h4]
          · simp [h0, h1, h2, h3, h4]
        · simp [h0, h1, h2, h3]
      · simp [h0, h1, h2]
    · simp [h0, h1]
  · simp [h0]
end
noncomputable section
def ext36 : Ext := [(75, S75)]
theorem ext36Ok : ExtOk Tryz.prog ext36 := ⟨⟨ca75, con75⟩, trivial⟩
noncomputable def b36 : Code := bodyOf Tryz.f36
theorem hb36 : Tryz.f36.body = some b36 := by kernel_rfl
def sig36 : List AT := [AT.v (Ty.sl YA3), AT.v (Ty.sl YA3)]
def tys36 : List Ty := [Ty.bool]
def kds36 : List RK := []
def oks36 : List AT := owns sig36
def E36_4 (v5 : Int) (x0 : List TyB0) (x1 : List TyB0) : Env := [(0, PV.a (Atom.sl YA3 x0)), (1, PV.a (Atom.sl YA3 x1)), (5, PV.a (Atom.val (Value.int .i64 v5)))]
def L36_4 (v5 : Int) (x0 : List TyB0) (x1 : List TyB0) : Heap := []
mutual
def R36 : Nat → List TyB0 → List TyB0 → List Dyn → Prop
  | 0, _, _, _ => False
  | n + 1, x0, x1, ds => (if ((↑(List.length x0) : Int) != (↑(List.length x1) : Int)) = true then (ds = [Dyn.mk Ty.bool false]) else (R36_4 n (0) (x0) (x1) ds))
def R36_4 : Nat → Int → List TyB0 → List TyB0 → List Dyn → Prop
  | 0, _, _, _, _ => False
  | n + 1, v5, x0, x1, ds => (if (decide (v5 < (↑(List.length x0) : Int))) = true then ((0 ≤ v5) ∧ (v5 < (↑(List.length x0) : Int)) ∧ ((0 ≤ v5) ∧ (v5 < (↑(List.length x1) : Int)) ∧ (if (!g75_0 (List.getD x0 (Int.toNat v5) (ByteArray.empty, 0, 0, 0, 0, ())) (List.getD x1 (Int.toNat v5) (ByteArray.empty, 0, 0, 0, 0, ()))) = true then (ds = [Dyn.mk Ty.bool false]) else ((InR .i64 (v5 + 1)) ∧ (R36_4 n (v5 + 1) (x0) (x1) ds))))) else (ds = [Dyn.mk Ty.bool true]))
end
theorem snd36 : ∀ n, (∀ (x0 : List TyB0) (x1 : List TyB0) ds, R36 n x0 x1 ds → ∀ K q, AtV Tryz.prog 36 (PostR kds36 oks36 ds [] [] q K) 27 K q [] [.code b36] (entE 0 0 sig36 (x0, x1, ())) (entL sig36 (x0, x1, ()))) ∧ (∀ (v5 : Int) (x0 : List TyB0) (x1 : List TyB0) ds, R36_4 n v5 x0 x1 ds → ∀ K q, AtV Tryz.prog 36 (PostR kds36 oks36 ds [] [] q K) 27 K q [] (cutAt b36 4) (E36_4 v5 x0 x1) (L36_4 v5 x0 x1)) := by
  intro n
  induction n with
  | zero => exact ⟨fun _ _ _ h => by simp only [R36] at h, fun _ _ _ _ h => by simp only [R36_4] at h⟩
  | succ n ih =>
  obtain ⟨ih, ih4⟩ := ih
  refine ⟨?_, ?_⟩
  · intro x0 x1 ds h K q
    rw [R36] at h
    by_cases b0 : ((↑(List.length x0) : Int) != (↑(List.length x1) : Int)) = true
    · rw [if_pos b0] at h
      subst h
      exact AtV.ret Tryz.func36 tabOk ext36Ok mixed false [] tys36 [true] (a1 b0 trivial) (by kernel_rfl)
    · rw [if_neg b0] at h
      replace b0 := Bool.eq_false_iff.2 b0
      exact AtV.go tabOk ext36Ok mixed false [] [] [0, 1, 5] [] [false] (a1 b0 trivial) (ih4 _ _ _ _ h K q) (by kernel_rfl)
  · intro v5 x0 x1 ds h K q
    rw [R36_4] at h
    by_cases b0 : (decide (v5 < (↑(List.length x0) : Int))) = true
    · rw [if_pos b0] at h
      obtain ⟨s0, s1, h⟩ := h
      obtain ⟨s2, s3, h⟩ := h
      by_cases b1 : (!g75_0 (List.getD x0 (Int.toNat v5) (ByteArray.empty, 0, 0, 0, 0, ())) (List.getD x1 (Int.toNat v5) (ByteArray.empty, 0, 0, 0, 0, ()))) = true
      · rw [if_pos b1] at h
        subst h
        exact AtV.ret Tryz.func36 tabOk ext36Ok mixed false [] tys36 [true, true] (a1 b0 (a1 s0 (a1 s1 (a1 s2 (a1 s3 (a1 trivial (a1 b1 trivial))))))) (by kernel_rfl)
      · rw [if_neg b1] at h
        replace b1 := Bool.eq_false_iff.2 b1
        obtain ⟨s4, h⟩ := h
        exact AtV.go tabOk ext36Ok mixed false [] [] [0, 1, 5] [] [true, false] (a1 b0 (a1 s0 (a1 s1 (a1 s2 (a1 s3 (a1 trivial (a1 b1 (a1 s4 trivial)))))))) (ih4 _ _ _ _ h K q) (by kernel_rfl)
    · rw [if_neg b0] at h
      replace b0 := Bool.eq_false_iff.2 b0
      subst h
      exact AtV.ret Tryz.func36 tabOk ext36Ok mixed false [] tys36 [false] (a1 b0 trivial) (by kernel_rfl)
theorem eq36 (x0 x1 : List TyB0) (hl : x0.length = x1.length) (hm : x0.length ≤ maxLen) : ∀ k i : Nat, i + k = x0.length → R36_4 (k + 1) (i : Int) x0 x1 [⟨.bool, decide (x0.drop i = x1.drop i)⟩] := by
  intro k
  induction k with
  | zero =>
    intro i hi
    have h1 : ¬ (i : Int) < (x0.length : Int) := by omega
    rw [R36_4, if_neg (by simpa using h1), drop_end x0 i (by omega), drop_end x1 i (by omega)]
    simp
  | succ k ih =>
    intro i hi
    have h1 : (i : Int) < (x0.length : Int) := by omega
    rw [R36_4, if_pos (by simpa using h1)]
    refine ⟨by omega, h1, by omega, by omega, ?_⟩
    simp only [Int.toNat_natCast]
    rw [drop_get x0 i (ByteArray.empty, (0 : Int), (0 : Int), (0 : Int), (0 : Int), ()) (by omega), drop_get x1 i (ByteArray.empty, (0 : Int), (0 : Int), (0 : Int), (0 : Int), ()) (by omega)]
    by_cases he : x0.getD i (ByteArray.empty, (0 : Int), (0 : Int), (0 : Int), (0 : Int), ()) = x1.getD i (ByteArray.empty, (0 : Int), (0 : Int), (0 : Int), (0 : Int), ())
    · have hd := (eqd75 _ _).2 he
      rw [if_neg (by rw [hd]; simp)]
      refine ⟨inR_up hm (by omega), ?_⟩
      have := ih (i + 1) (by omega)
      simp only [he, List.cons.injEq, true_and]
      exact this
    · have hd : g75_0 (x0.getD i (ByteArray.empty, (0 : Int), (0 : Int), (0 : Int), (0 : Int), ())) (x1.getD i (ByteArray.empty, (0 : Int), (0 : Int), (0 : Int), (0 : Int), ())) = false :=
        Bool.eq_false_iff.2 fun h => he ((eqd75 _ _).1 h)
      rw [if_pos (by rw [hd]; rfl)]
      simp only [he, List.cons.injEq, false_and, decide_false]
def g36_0 (x0 x1 : List TyB0) : Bool := decide (x0 = x1)
def P36 (x0 x1 : List TyB0) : Prop := True
def S36 : Am.Spec := { sig := sig36, pre := fun ⟨x0, x1, _⟩ => P36 x0 x1, res := fun ⟨x0, x1, _⟩ => [⟨Ty.bool, g36_0 x0 x1⟩] }
theorem con36 : Contract Tryz.prog 36 S36 := contract_of Tryz.func36 hb36 (Nat.le_of_ble_eq_true (by kernel_rfl)) (fun ⟨x0, x1, _⟩ h hwf K q => by
  refine (snd36 (x0.length + 2)).1 x0 x1 _ ?_ K q
  show R36 (x0.length + 1 + 1) x0 x1 [⟨Ty.bool, decide (x0 = x1)⟩]
  rw [R36]
  by_cases hl : x0.length = x1.length
  · rw [if_neg (by simp [hl])]
    have := eq36 x0 x1 hl hwf.1.1 x0.length 0 (by omega)
    simpa using this
  · rw [if_pos (by simp; omega)]
    have : x0 ≠ x1 := fun h => hl (by rw [h])
    simp [this])
end
noncomputable section
def ext76 : Ext := []
theorem ext76Ok : ExtOk Tryz.prog ext76 := trivial
noncomputable def b76 : Code := bodyOf Tryz.f76
theorem hb76 : Tryz.f76.body = some b76 := by kernel_rfl
def sig76 : List AT := [AT.v YA9, AT.v YA9]
def tys76 : List Ty := [Ty.bool]
def kds76 : List RK := []
def oks76 : List AT := owns sig76
def P76 (x0 : Int × Int × Unit) (x1 : Int × Int × Unit) : Prop := True
def g76_0 (x0 : Int × Int × Unit) (x1 : Int × Int × Unit) : Bool := (if (x0.1 != x1.1) = true then false else (if (x0.2.1 != x1.2.1) = true then false else true))
theorem at76 (x0 : Int × Int × Unit) (x1 : Int × Int × Unit) (h : P76 x0 x1) (K : Ctx) (q : Nat → Value) : AtV Tryz.prog 76 (PostR kds76 oks76 [⟨Ty.bool, g76_0 x0 x1⟩] [] [] q K) 15 K q [] [.code b76] (entE 0 0 sig76 (x0, x1, ())) (entL sig76 (x0, x1, ())) := by
  unfold P76 at h
  unfold g76_0
  by_cases b0 : (x0.1 != x1.1) = true
  · try simp only [if_pos b0] at h ⊢
    exact AtV.ret Tryz.func76 tabOk ext76Ok mixed false [] tys76 [true] (a1 b0 trivial) (by kernel_rfl)
  · try simp only [if_neg b0] at h ⊢
    replace b0 := Bool.eq_false_iff.2 b0
    by_cases b1 : (x0.2.1 != x1.2.1) = true
    · try simp only [if_pos b1] at h ⊢
      exact AtV.ret Tryz.func76 tabOk ext76Ok mixed false [] tys76 [false, true] (a1 b0 (a1 b1 trivial)) (by kernel_rfl)
    · try simp only [if_neg b1] at h ⊢
      replace b1 := Bool.eq_false_iff.2 b1
      exact AtV.ret Tryz.func76 tabOk ext76Ok mixed false [] tys76 [false, false] (a1 b0 (a1 b1 trivial)) (by kernel_rfl)
def S76 : Am.Spec := { sig := sig76, pre := fun ⟨x0, x1, _⟩ => P76 x0 x1, res := fun ⟨x0, x1, _⟩ => [⟨Ty.bool, g76_0 x0 x1⟩], kds := kds76 }
theorem con76 : Contract Tryz.prog 76 S76 := contract_of Tryz.func76 hb76 (Nat.le_of_ble_eq_true (by kernel_rfl)) (fun ⟨x0, x1, _⟩ h _ K q => at76 x0 x1 h K q)
theorem eqd76 (x y : TyB4) : g76_0 x y = true ↔ x = y := by
  obtain ⟨a, b, u⟩ := x
  obtain ⟨a', b', u'⟩ := y
  unfold g76_0
  simp only [Bool.not_eq_true', bytes_ne, bne_iff_ne, ne_eq, ite_not]
  by_cases h0 : a = a'
  · by_cases h1 : b = b'
    · simp [h0, h1]
    · simp [h0, h1]
  · simp [h0]
end
noncomputable section
def ext37 : Ext := [(76, S76)]
theorem ext37Ok : ExtOk Tryz.prog ext37 := ⟨⟨ca76, con76⟩, trivial⟩
noncomputable def b37 : Code := bodyOf Tryz.f37
theorem hb37 : Tryz.f37.body = some b37 := by kernel_rfl
def sig37 : List AT := [AT.v (Ty.sl YA9), AT.v (Ty.sl YA9)]
def tys37 : List Ty := [Ty.bool]
def kds37 : List RK := []
def oks37 : List AT := owns sig37
def E37_4 (v5 : Int) (x0 : List TyB4) (x1 : List TyB4) : Env := [(0, PV.a (Atom.sl YA9 x0)), (1, PV.a (Atom.sl YA9 x1)), (5, PV.a (Atom.val (Value.int .i64 v5)))]
def L37_4 (v5 : Int) (x0 : List TyB4) (x1 : List TyB4) : Heap := []
mutual
def R37 : Nat → List TyB4 → List TyB4 → List Dyn → Prop
  | 0, _, _, _ => False
  | n + 1, x0, x1, ds => (if ((↑(List.length x0) : Int) != (↑(List.length x1) : Int)) = true then (ds = [Dyn.mk Ty.bool false]) else (R37_4 n (0) (x0) (x1) ds))
def R37_4 : Nat → Int → List TyB4 → List TyB4 → List Dyn → Prop
  | 0, _, _, _, _ => False
  | n + 1, v5, x0, x1, ds => (if (decide (v5 < (↑(List.length x0) : Int))) = true then ((0 ≤ v5) ∧ (v5 < (↑(List.length x0) : Int)) ∧ ((0 ≤ v5) ∧ (v5 < (↑(List.length x1) : Int)) ∧ (if (!g76_0 (List.getD x0 (Int.toNat v5) (0, 0, ())) (List.getD x1 (Int.toNat v5) (0, 0, ()))) = true then (ds = [Dyn.mk Ty.bool false]) else ((InR .i64 (v5 + 1)) ∧ (R37_4 n (v5 + 1) (x0) (x1) ds))))) else (ds = [Dyn.mk Ty.bool true]))
end
theorem snd37 : ∀ n, (∀ (x0 : List TyB4) (x1 : List TyB4) ds, R37 n x0 x1 ds → ∀ K q, AtV Tryz.prog 37 (PostR kds37 oks37 ds [] [] q K) 27 K q [] [.code b37] (entE 0 0 sig37 (x0, x1, ())) (entL sig37 (x0, x1, ()))) ∧ (∀ (v5 : Int) (x0 : List TyB4) (x1 : List TyB4) ds, R37_4 n v5 x0 x1 ds → ∀ K q, AtV Tryz.prog 37 (PostR kds37 oks37 ds [] [] q K) 27 K q [] (cutAt b37 4) (E37_4 v5 x0 x1) (L37_4 v5 x0 x1)) := by
  intro n
  induction n with
  | zero => exact ⟨fun _ _ _ h => by simp only [R37] at h, fun _ _ _ _ h => by simp only [R37_4] at h⟩
  | succ n ih =>
  obtain ⟨ih, ih4⟩ := ih
  refine ⟨?_, ?_⟩
  · intro x0 x1 ds h K q
    rw [R37] at h
    by_cases b0 : ((↑(List.length x0) : Int) != (↑(List.length x1) : Int)) = true
    · rw [if_pos b0] at h
      subst h
      exact AtV.ret Tryz.func37 tabOk ext37Ok mixed false [] tys37 [true] (a1 b0 trivial) (by kernel_rfl)
    · rw [if_neg b0] at h
      replace b0 := Bool.eq_false_iff.2 b0
      exact AtV.go tabOk ext37Ok mixed false [] [] [0, 1, 5] [] [false] (a1 b0 trivial) (ih4 _ _ _ _ h K q) (by kernel_rfl)
  · intro v5 x0 x1 ds h K q
    rw [R37_4] at h
    by_cases b0 : (decide (v5 < (↑(List.length x0) : Int))) = true
    · rw [if_pos b0] at h
      obtain ⟨s0, s1, h⟩ := h
      obtain ⟨s2, s3, h⟩ := h
      by_cases b1 : (!g76_0 (List.getD x0 (Int.toNat v5) (0, 0, ())) (List.getD x1 (Int.toNat v5) (0, 0, ()))) = true
      · rw [if_pos b1] at h
        subst h
        exact AtV.ret Tryz.func37 tabOk ext37Ok mixed false [] tys37 [true, true] (a1 b0 (a1 s0 (a1 s1 (a1 s2 (a1 s3 (a1 trivial (a1 b1 trivial))))))) (by kernel_rfl)
      · rw [if_neg b1] at h
        replace b1 := Bool.eq_false_iff.2 b1
        obtain ⟨s4, h⟩ := h
        exact AtV.go tabOk ext37Ok mixed false [] [] [0, 1, 5] [] [true, false] (a1 b0 (a1 s0 (a1 s1 (a1 s2 (a1 s3 (a1 trivial (a1 b1 (a1 s4 trivial)))))))) (ih4 _ _ _ _ h K q) (by kernel_rfl)
    · rw [if_neg b0] at h
      replace b0 := Bool.eq_false_iff.2 b0
      subst h
      exact AtV.ret Tryz.func37 tabOk ext37Ok mixed false [] tys37 [false] (a1 b0 trivial) (by kernel_rfl)
theorem eq37 (x0 x1 : List TyB4) (hl : x0.length = x1.length) (hm : x0.length ≤ maxLen) : ∀ k i : Nat, i + k = x0.length → R37_4 (k + 1) (i : Int) x0 x1 [⟨.bool, decide (x0.drop i = x1.drop i)⟩] := by
  intro k
  induction k with
  | zero =>
    intro i hi
    have h1 : ¬ (i : Int) < (x0.length : Int) := by omega
    rw [R37_4, if_neg (by simpa using h1), drop_end x0 i (by omega), drop_end x1 i (by omega)]
    simp
  | succ k ih =>
    intro i hi
    have h1 : (i : Int) < (x0.length : Int) := by omega
    rw [R37_4, if_pos (by simpa using h1)]
    refine ⟨by omega, h1, by omega, by omega, ?_⟩
    simp only [Int.toNat_natCast]
    rw [drop_get x0 i ((0 : Int), (0 : Int), ()) (by omega), drop_get x1 i ((0 : Int), (0 : Int), ()) (by omega)]
    by_cases he : x0.getD i ((0 : Int), (0 : Int), ()) = x1.getD i ((0 : Int), (0 : Int), ())
    · have hd := (eqd76 _ _).2 he
      rw [if_neg (by rw [hd]; simp)]
      refine ⟨inR_up hm (by omega), ?_⟩
      have := ih (i + 1) (by omega)
      simp only [he, List.cons.injEq, true_and]
      exact this
    · have hd : g76_0 (x0.getD i ((0 : Int), (0 : Int), ())) (x1.getD i ((0 : Int), (0 : Int), ())) = false :=
        Bool.eq_false_iff.2 fun h => he ((eqd76 _ _).1 h)
      rw [if_pos (by rw [hd]; rfl)]
      simp only [he, List.cons.injEq, false_and, decide_false]
def g37_0 (x0 x1 : List TyB4) : Bool := decide (x0 = x1)
def P37 (x0 x1 : List TyB4) : Prop := True
def S37 : Am.Spec := { sig := sig37, pre := fun ⟨x0, x1, _⟩ => P37 x0 x1, res := fun ⟨x0, x1, _⟩ => [⟨Ty.bool, g37_0 x0 x1⟩] }
theorem con37 : Contract Tryz.prog 37 S37 := contract_of Tryz.func37 hb37 (Nat.le_of_ble_eq_true (by kernel_rfl)) (fun ⟨x0, x1, _⟩ h hwf K q => by
  refine (snd37 (x0.length + 2)).1 x0 x1 _ ?_ K q
  show R37 (x0.length + 1 + 1) x0 x1 [⟨Ty.bool, decide (x0 = x1)⟩]
  rw [R37]
  by_cases hl : x0.length = x1.length
  · rw [if_neg (by simp [hl])]
    have := eq37 x0 x1 hl hwf.1.1 x0.length 0 (by omega)
    simpa using this
  · rw [if_pos (by simp; omega)]
    have : x0 ≠ x1 := fun h => hl (by rw [h])
    simp [this])
end
noncomputable section
def ext77 : Ext := []
theorem ext77Ok : ExtOk Tryz.prog ext77 := trivial
noncomputable def b77 : Code := bodyOf Tryz.f77
theorem hb77 : Tryz.f77.body = some b77 := by kernel_rfl
def sig77 : List AT := [AT.v YA6, AT.v YA6]
def tys77 : List Ty := [Ty.bool]
def kds77 : List RK := []
def oks77 : List AT := owns sig77
def P77 (x0 : Int × Int × ByteArray × Int × Unit) (x1 : Int × Int × ByteArray × Int × Unit) : Prop := True
def g77_0 (x0 : Int × Int × ByteArray × Int × Unit) (x1 : Int × Int × ByteArray × Int × Unit) : Bool := (if (x0.1 != x1.1) = true then false else (if (x0.2.1 != x1.2.1) = true then false else (if (!ByteArray.toList x0.2.2.1 == ByteArray.toList x1.2.2.1) = true then false else (if (x0.2.2.2.1 != x1.2.2.2.1) = true then false else true))))
theorem at77 (x0 : Int × Int × ByteArray × Int × Unit) (x1 : Int × Int × ByteArray × Int × Unit) (h : P77 x0 x1) (K : Ctx) (q : Nat → Value) : AtV Tryz.prog 77 (PostR kds77 oks77 [⟨Ty.bool, g77_0 x0 x1⟩] [] [] q K) 25 K q [] [.code b77] (entE 0 0 sig77 (x0, x1, ())) (entL sig77 (x0, x1, ())) := by
  unfold P77 at h
  unfold g77_0
  by_cases b0 : (x0.1 != x1.1) = true
  · try simp only [if_pos b0] at h ⊢
    exact AtV.ret Tryz.func77 tabOk ext77Ok mixed false [] tys77 [true] (a1 b0 trivial) (by kernel_rfl)
  · try simp only [if_neg b0] at h ⊢
    replace b0 := Bool.eq_false_iff.2 b0
    by_cases b1 : (x0.2.1 != x1.2.1) = true
    · try simp only [if_pos b1] at h ⊢
      exact AtV.ret Tryz.func77 tabOk ext77Ok mixed false [] tys77 [false, true] (a1 b0 (a1 b1 trivial)) (by kernel_rfl)
    · try simp only [if_neg b1] at h ⊢
      replace b1 := Bool.eq_false_iff.2 b1
      by_cases b2 : (!ByteArray.toList x0.2.2.1 == ByteArray.toList x1.2.2.1) = true
      · try simp only [if_pos b2] at h ⊢
        exact AtV.ret Tryz.func77 tabOk ext77Ok mixed false [] tys77 [false, false, true] (a1 b0 (a1 b1 (a1 b2 trivial))) (by kernel_rfl)
      · try simp only [if_neg b2] at h ⊢
        replace b2 := Bool.eq_false_iff.2 b2
        by_cases b3 : (x0.2.2.2.1 != x1.2.2.2.1) = true
        · try simp only [if_pos b3] at h ⊢
          exact AtV.ret Tryz.func77 tabOk ext77Ok mixed false [] tys77 [false, false, false, true] (a1 b0 (a1 b1 (a1 b2 (a1 b3 trivial)))) (by kernel_rfl)
        · try simp only [if_neg b3] at h ⊢
          replace b3 := Bool.eq_false_iff.2 b3
          exact AtV.ret Tryz.func77 tabOk ext77Ok mixed false [] tys77 [false, false, false, false] (a1 b0 (a1 b1 (a1 b2 (a1 b3 trivial)))) (by kernel_rfl)
def S77 : Am.Spec := { sig := sig77, pre := fun ⟨x0, x1, _⟩ => P77 x0 x1, res := fun ⟨x0, x1, _⟩ => [⟨Ty.bool, g77_0 x0 x1⟩], kds := kds77 }
theorem con77 : Contract Tryz.prog 77 S77 := contract_of Tryz.func77 hb77 (Nat.le_of_ble_eq_true (by kernel_rfl)) (fun ⟨x0, x1, _⟩ h _ K q => at77 x0 x1 h K q)
theorem eqd77 (x y : TyB2) : g77_0 x y = true ↔ x = y := by
  obtain ⟨a, b, c, d, u⟩ := x
  obtain ⟨a', b', c', d', u'⟩ := y
  unfold g77_0
  simp only [Bool.not_eq_true', bytes_ne, bne_iff_ne, ne_eq, ite_not]
  by_cases h0 : a = a'
  · by_cases h1 : b = b'
    · by_cases h2 : c = c'
      · by_cases h3 : d = d'
        · simp [h0, h1, h2, h3]
        · simp [h0, h1, h2, h3]
      · simp [h0, h1, h2]
    · simp [h0, h1]
  · simp [h0]
end
noncomputable section
def ext38 : Ext := [(77, S77)]
theorem ext38Ok : ExtOk Tryz.prog ext38 := ⟨⟨ca77, con77⟩, trivial⟩
noncomputable def b38 : Code := bodyOf Tryz.f38
theorem hb38 : Tryz.f38.body = some b38 := by kernel_rfl
def sig38 : List AT := [AT.v (Ty.sl YA6), AT.v (Ty.sl YA6)]
def tys38 : List Ty := [Ty.bool]
def kds38 : List RK := []
def oks38 : List AT := owns sig38
def E38_4 (v5 : Int) (x0 : List TyB2) (x1 : List TyB2) : Env := [(0, PV.a (Atom.sl YA6 x0)), (1, PV.a (Atom.sl YA6 x1)), (5, PV.a (Atom.val (Value.int .i64 v5)))]
def L38_4 (v5 : Int) (x0 : List TyB2) (x1 : List TyB2) : Heap := []
mutual
def R38 : Nat → List TyB2 → List TyB2 → List Dyn → Prop
  | 0, _, _, _ => False
  | n + 1, x0, x1, ds => (if ((↑(List.length x0) : Int) != (↑(List.length x1) : Int)) = true then (ds = [Dyn.mk Ty.bool false]) else (R38_4 n (0) (x0) (x1) ds))
def R38_4 : Nat → Int → List TyB2 → List TyB2 → List Dyn → Prop
  | 0, _, _, _, _ => False
  | n + 1, v5, x0, x1, ds => (if (decide (v5 < (↑(List.length x0) : Int))) = true then ((0 ≤ v5) ∧ (v5 < (↑(List.length x0) : Int)) ∧ ((0 ≤ v5) ∧ (v5 < (↑(List.length x1) : Int)) ∧ (if (!g77_0 (List.getD x0 (Int.toNat v5) (0, 0, ByteArray.empty, 0, ())) (List.getD x1 (Int.toNat v5) (0, 0, ByteArray.empty, 0, ()))) = true then (ds = [Dyn.mk Ty.bool false]) else ((InR .i64 (v5 + 1)) ∧ (R38_4 n (v5 + 1) (x0) (x1) ds))))) else (ds = [Dyn.mk Ty.bool true]))
end
theorem snd38 : ∀ n, (∀ (x0 : List TyB2) (x1 : List TyB2) ds, R38 n x0 x1 ds → ∀ K q, AtV Tryz.prog 38 (PostR kds38 oks38 ds [] [] q K) 27 K q [] [.code b38] (entE 0 0 sig38 (x0, x1, ())) (entL sig38 (x0, x1, ()))) ∧ (∀ (v5 : Int) (x0 : List TyB2) (x1 : List TyB2) ds, R38_4 n v5 x0 x1 ds → ∀ K q, AtV Tryz.prog 38 (PostR kds38 oks38 ds [] [] q K) 27 K q [] (cutAt b38 4) (E38_4 v5 x0 x1) (L38_4 v5 x0 x1)) := by
  intro n
  induction n with
  | zero => exact ⟨fun _ _ _ h => by simp only [R38] at h, fun _ _ _ _ h => by simp only [R38_4] at h⟩
  | succ n ih =>
  obtain ⟨ih, ih4⟩ := ih
  refine ⟨?_, ?_⟩
  · intro x0 x1 ds h K q
    rw [R38] at h
    by_cases b0 : ((↑(List.length x0) : Int) != (↑(List.length x1) : Int)) = true
    · rw [if_pos b0] at h
      subst h
      exact AtV.ret Tryz.func38 tabOk ext38Ok mixed false [] tys38 [true] (a1 b0 trivial) (by kernel_rfl)
    · rw [if_neg b0] at h
      replace b0 := Bool.eq_false_iff.2 b0
      exact AtV.go tabOk ext38Ok mixed false [] [] [0, 1, 5] [] [false] (a1 b0 trivial) (ih4 _ _ _ _ h K q) (by kernel_rfl)
  · intro v5 x0 x1 ds h K q
    rw [R38_4] at h
    by_cases b0 : (decide (v5 < (↑(List.length x0) : Int))) = true
    · rw [if_pos b0] at h
      obtain ⟨s0, s1, h⟩ := h
      obtain ⟨s2, s3, h⟩ := h
      by_cases b1 : (!g77_0 (List.getD x0 (Int.toNat v5) (0, 0, ByteArray.empty, 0, ())) (List.getD x1 (Int.toNat v5) (0, 0, ByteArray.empty, 0, ()))) = true
      · rw [if_pos b1] at h
        subst h
        exact AtV.ret Tryz.func38 tabOk ext38Ok mixed false [] tys38 [true, true] (a1 b0 (a1 s0 (a1 s1 (a1 s2 (a1 s3 (a1 trivial (a1 b1 trivial))))))) (by kernel_rfl)
      · rw [if_neg b1] at h
        replace b1 := Bool.eq_false_iff.2 b1
        obtain ⟨s4, h⟩ := h
        exact AtV.go tabOk ext38Ok mixed false [] [] [0, 1, 5] [] [true, false] (a1 b0 (a1 s0 (a1 s1 (a1 s2 (a1 s3 (a1 trivial (a1 b1 (a1 s4 trivial)))))))) (ih4 _ _ _ _ h K q) (by kernel_rfl)
    · rw [if_neg b0] at h
      replace b0 := Bool.eq_false_iff.2 b0
      subst h
      exact AtV.ret Tryz.func38 tabOk ext38Ok mixed false [] tys38 [false] (a1 b0 trivial) (by kernel_rfl)
theorem eq38 (x0 x1 : List TyB2) (hl : x0.length = x1.length) (hm : x0.length ≤ maxLen) : ∀ k i : Nat, i + k = x0.length → R38_4 (k + 1) (i : Int) x0 x1 [⟨.bool, decide (x0.drop i = x1.drop i)⟩] := by
  intro k
  induction k with
  | zero =>
    intro i hi
    have h1 : ¬ (i : Int) < (x0.length : Int) := by omega
    rw [R38_4, if_neg (by simpa using h1), drop_end x0 i (by omega), drop_end x1 i (by omega)]
    simp
  | succ k ih =>
    intro i hi
    have h1 : (i : Int) < (x0.length : Int) := by omega
    rw [R38_4, if_pos (by simpa using h1)]
    refine ⟨by omega, h1, by omega, by omega, ?_⟩
    simp only [Int.toNat_natCast]
    rw [drop_get x0 i ((0 : Int), (0 : Int), ByteArray.empty, (0 : Int), ()) (by omega), drop_get x1 i ((0 : Int), (0 : Int), ByteArray.empty, (0 : Int), ()) (by omega)]
    by_cases he : x0.getD i ((0 : Int), (0 : Int), ByteArray.empty, (0 : Int), ()) = x1.getD i ((0 : Int), (0 : Int), ByteArray.empty, (0 : Int), ())
    · have hd := (eqd77 _ _).2 he
      rw [if_neg (by rw [hd]; simp)]
      refine ⟨inR_up hm (by omega), ?_⟩
      have := ih (i + 1) (by omega)
      simp only [he, List.cons.injEq, true_and]
      exact this
    · have hd : g77_0 (x0.getD i ((0 : Int), (0 : Int), ByteArray.empty, (0 : Int), ())) (x1.getD i ((0 : Int), (0 : Int), ByteArray.empty, (0 : Int), ())) = false :=
        Bool.eq_false_iff.2 fun h => he ((eqd77 _ _).1 h)
      rw [if_pos (by rw [hd]; rfl)]
      simp only [he, List.cons.injEq, false_and, decide_false]
def g38_0 (x0 x1 : List TyB2) : Bool := decide (x0 = x1)
def P38 (x0 x1 : List TyB2) : Prop := True
def S38 : Am.Spec := { sig := sig38, pre := fun ⟨x0, x1, _⟩ => P38 x0 x1, res := fun ⟨x0, x1, _⟩ => [⟨Ty.bool, g38_0 x0 x1⟩] }
theorem con38 : Contract Tryz.prog 38 S38 := contract_of Tryz.func38 hb38 (Nat.le_of_ble_eq_true (by kernel_rfl)) (fun ⟨x0, x1, _⟩ h hwf K q => by
  refine (snd38 (x0.length + 2)).1 x0 x1 _ ?_ K q
  show R38 (x0.length + 1 + 1) x0 x1 [⟨Ty.bool, decide (x0 = x1)⟩]
  rw [R38]
  by_cases hl : x0.length = x1.length
  · rw [if_neg (by simp [hl])]
    have := eq38 x0 x1 hl hwf.1.1 x0.length 0 (by omega)
    simpa using this
  · rw [if_pos (by simp; omega)]
    have : x0 ≠ x1 := fun h => hl (by rw [h])
    simp [this])
end
noncomputable section
def ext9 : Ext := [(31, S31), (32, S32), (33, S33), (34, S34), (35, S35), (36, S36), (37, S37), (38, S38)]
theorem ext9Ok : ExtOk Tryz.prog ext9 := ⟨⟨ca31, con31⟩, ⟨ca32, con32⟩, ⟨ca33, con33⟩, ⟨ca34, con34⟩, ⟨ca35, con35⟩, ⟨ca36, con36⟩, ⟨ca37, con37⟩, ⟨ca38, con38⟩, trivial⟩
noncomputable def b9 : Code := bodyOf Tryz.f9
theorem hb9 : Tryz.f9.body = some b9 := by kernel_rfl
def sig9 : List AT := [AT.v YA0, AT.v YA0]
def tys9 : List Ty := [Ty.bool]
def kds9 : List RK := []
def oks9 : List AT := owns sig9
def P9 (x0 : TyA0) (x1 : TyA0) : Prop := True
def g9_0 (x0 : TyA0) (x1 : TyA0) : Bool := (if (!g31_0 x0.1 x1.1) = true then false else (if (x0.2.1 != x1.2.1) = true then false else (if (!g32_0 x0.2.2.1 x1.2.2.1) = true then false else (if (!g33_0 x0.2.2.2.1 x1.2.2.2.1) = true then false else (if (!g34_0 x0.2.2.2.2.1 x1.2.2.2.2.1) = true then false else (if (!g35_0 x0.2.2.2.2.2.1 x1.2.2.2.2.2.1) = true then false else (if (!g36_0 x0.2.2.2.2.2.2.1 x1.2.2.2.2.2.2.1) = true then false else (if (x0.2.2.2.2.2.2.2.1 != x1.2.2.2.2.2.2.2.1) = true then false else (if (x0.2.2.2.2.2.2.2.2.1 != x1.2.2.2.2.2.2.2.2.1) = true then false else (if (!g37_0 x0.2.2.2.2.2.2.2.2.2.1 x1.2.2.2.2.2.2.2.2.2.1) = true then false else (if (x0.2.2.2.2.2.2.2.2.2.2.1 != x1.2.2.2.2.2.2.2.2.2.2.1) = true then false else (if (!g38_0 x0.2.2.2.2.2.2.2.2.2.2.2.1 x1.2.2.2.2.2.2.2.2.2.2.2.1) = true then false else true))))))))))))
theorem at9 (x0 : TyA0) (x1 : TyA0) (h : P9 x0 x1) (K : Ctx) (q : Nat → Value) : AtV Tryz.prog 9 (PostR kds9 oks9 [⟨Ty.bool, g9_0 x0 x1⟩] [] [] q K) 73 K q [] [.code b9] (entE 0 0 sig9 (x0, x1, ())) (entL sig9 (x0, x1, ())) := by
  unfold P9 at h
  unfold g9_0
  by_cases b0 : (!g31_0 x0.1 x1.1) = true
  · try simp only [if_pos b0] at h ⊢
    exact AtV.ret Tryz.func9 tabOk ext9Ok mixed false [] tys9 [true] (a1 trivial (a1 b0 trivial)) (by kernel_rfl)
  · try simp only [if_neg b0] at h ⊢
    replace b0 := Bool.eq_false_iff.2 b0
    by_cases b1 : (x0.2.1 != x1.2.1) = true
    · try simp only [if_pos b1] at h ⊢
      exact AtV.ret Tryz.func9 tabOk ext9Ok mixed false [] tys9 [false, true] (a1 trivial (a1 b0 (a1 b1 trivial))) (by kernel_rfl)
    · try simp only [if_neg b1] at h ⊢
      replace b1 := Bool.eq_false_iff.2 b1
      by_cases b2 : (!g32_0 x0.2.2.1 x1.2.2.1) = true
      · try simp only [if_pos b2] at h ⊢
        exact AtV.ret Tryz.func9 tabOk ext9Ok mixed false [] tys9 [false, false, true] (a1 trivial (a1 b0 (a1 b1 (a1 trivial (a1 b2 trivial))))) (by kernel_rfl)
      · try simp only [if_neg b2] at h ⊢
        replace b2 := Bool.eq_false_iff.2 b2
        by_cases b3 : (!g33_0 x0.2.2.2.1 x1.2.2.2.1) = true
        · try simp only [if_pos b3] at h ⊢
          exact AtV.ret Tryz.func9 tabOk ext9Ok mixed false [] tys9 [false, false, false, true] (a1 trivial (a1 b0 (a1 b1 (a1 trivial (a1 b2 (a1 trivial (a1 b3 trivial))))))) (by kernel_rfl)
        · try simp only [if_neg b3] at h ⊢
          replace b3 := Bool.eq_false_iff.2 b3
          by_cases b4 : (!g34_0 x0.2.2.2.2.1 x1.2.2.2.2.1) = true
          · try simp only [if_pos b4] at h ⊢
            exact AtV.ret Tryz.func9 tabOk ext9Ok mixed false [] tys9 [false, false, false, false, true] (a1 trivial (a1 b0 (a1 b1 (a1 trivial (a1 b2 (a1 trivial (a1 b3 (a1 trivial (a1 b4 trivial))))))))) (by kernel_rfl)
          · try simp only [if_neg b4] at h ⊢
            replace b4 := Bool.eq_false_iff.2 b4
            by_cases b5 : (!g35_0 x0.2.2.2.2.2.1 x1.2.2.2.2.2.1) = true
            · try simp only [if_pos b5] at h ⊢
              exact AtV.ret Tryz.func9 tabOk ext9Ok mixed false [] tys9 [false, false, false, false, false, true] (a1 trivial (a1 b0 (a1 b1 (a1 trivial (a1 b2 (a1 trivial (a1 b3 (a1 trivial (a1 b4 (a1 trivial (a1 b5 trivial))))))))))) (by kernel_rfl)
            · try simp only [if_neg b5] at h ⊢
              replace b5 := Bool.eq_false_iff.2 b5
              by_cases b6 : (!g36_0 x0.2.2.2.2.2.2.1 x1.2.2.2.2.2.2.1) = true
              · try simp only [if_pos b6] at h ⊢
                exact AtV.ret Tryz.func9 tabOk ext9Ok mixed false [] tys9 [false, false, false, false, false, false, true] (a1 trivial (a1 b0 (a1 b1 (a1 trivial (a1 b2 (a1 trivial (a1 b3 (a1 trivial (a1 b4 (a1 trivial (a1 b5 (a1 trivial (a1 b6 trivial))))))))))))) (by kernel_rfl)
              · try simp only [if_neg b6] at h ⊢
                replace b6 := Bool.eq_false_iff.2 b6
                by_cases b7 : (x0.2.2.2.2.2.2.2.1 != x1.2.2.2.2.2.2.2.1) = true
                · try simp only [if_pos b7] at h ⊢
                  exact AtV.ret Tryz.func9 tabOk ext9Ok mixed false [] tys9 [false, false, false, false, false, false, false, true] (a1 trivial (a1 b0 (a1 b1 (a1 trivial (a1 b2 (a1 trivial (a1 b3 (a1 trivial (a1 b4 (a1 trivial (a1 b5 (a1 trivial (a1 b6 (a1 b7 trivial)))))))))))))) (by kernel_rfl)
                · try simp only [if_neg b7] at h ⊢
                  replace b7 := Bool.eq_false_iff.2 b7
                  by_cases b8 : (x0.2.2.2.2.2.2.2.2.1 != x1.2.2.2.2.2.2.2.2.1) = true
                  · try simp only [if_pos b8] at h ⊢
                    exact AtV.ret Tryz.func9 tabOk ext9Ok mixed false [] tys9 [false, false, false, false, false, false, false, false, true] (a1 trivial (a1 b0 (a1 b1 (a1 trivial (a1 b2 (a1 trivial (a1 b3 (a1 trivial (a1 b4 (a1 trivial (a1 b5 (a1 trivial (a1 b6 (a1 b7 (a1 b8 trivial))))))))))))))) (by kernel_rfl)
                  · try simp only [if_neg b8] at h ⊢
                    replace b8 := Bool.eq_false_iff.2 b8
                    by_cases b9 : (!g37_0 x0.2.2.2.2.2.2.2.2.2.1 x1.2.2.2.2.2.2.2.2.2.1) = true
                    · try simp only [if_pos b9] at h ⊢
                      exact AtV.ret Tryz.func9 tabOk ext9Ok mixed false [] tys9 [false, false, false, false, false, false, false, false, false, true] (a1 trivial (a1 b0 (a1 b1 (a1 trivial (a1 b2 (a1 trivial (a1 b3 (a1 trivial (a1 b4 (a1 trivial (a1 b5 (a1 trivial (a1 b6 (a1 b7 (a1 b8 (a1 trivial (a1 b9 trivial))))))))))))))))) (by kernel_rfl)
                    · try simp only [if_neg b9] at h ⊢
                      replace b9 := Bool.eq_false_iff.2 b9
                      by_cases b10 : (x0.2.2.2.2.2.2.2.2.2.2.1 != x1.2.2.2.2.2.2.2.2.2.2.1) = true
                      · try simp only [if_pos b10] at h ⊢
                        exact AtV.ret Tryz.func9 tabOk ext9Ok mixed false [] tys9 [false, false, false, false, false, false, false, false, false, false, true] (a1 trivial (a1 b0 (a1 b1 (a1 trivial (a1 b2 (a1 trivial (a1 b3 (a1 trivial (a1 b4 (a1 trivial (a1 b5 (a1 trivial (a1 b6 (a1 b7 (a1 b8 (a1 trivial (a1 b9 (a1 b10 trivial)))))))))))))))))) (by kernel_rfl)
                      · try simp only [if_neg b10] at h ⊢
                        replace b10 := Bool.eq_false_iff.2 b10
                        by_cases b11 : (!g38_0 x0.2.2.2.2.2.2.2.2.2.2.2.1 x1.2.2.2.2.2.2.2.2.2.2.2.1) = true
                        · try simp only [if_pos b11] at h ⊢
                          exact AtV.ret Tryz.func9 tabOk ext9Ok mixed false [] tys9 [false, false, false, false, false, false, false, false, false, false, false, true] (a1 trivial (a1 b0 (a1 b1 (a1 trivial (a1 b2 (a1 trivial (a1 b3 (a1 trivial (a1 b4 (a1 trivial (a1 b5 (a1 trivial (a1 b6 (a1 b7 (a1 b8 (a1 trivial (a1 b9 (a1 b10 (a1 trivial (a1 b11 trivial)))))))))))))))))))) (by kernel_rfl)
                        · try simp only [if_neg b11] at h ⊢
                          replace b11 := Bool.eq_false_iff.2 b11
                          exact AtV.ret Tryz.func9 tabOk ext9Ok mixed false [] tys9 [false, false, false, false, false, false, false, false, false, false, false, false] (a1 trivial (a1 b0 (a1 b1 (a1 trivial (a1 b2 (a1 trivial (a1 b3 (a1 trivial (a1 b4 (a1 trivial (a1 b5 (a1 trivial (a1 b6 (a1 b7 (a1 b8 (a1 trivial (a1 b9 (a1 b10 (a1 trivial (a1 b11 trivial)))))))))))))))))))) (by kernel_rfl)
def S9 : Am.Spec := { sig := sig9, pre := fun ⟨x0, x1, _⟩ => P9 x0 x1, res := fun ⟨x0, x1, _⟩ => [⟨Ty.bool, g9_0 x0 x1⟩], kds := kds9 }
theorem con9 : Contract Tryz.prog 9 S9 := contract_of Tryz.func9 hb9 (Nat.le_of_ble_eq_true (by kernel_rfl)) (fun ⟨x0, x1, _⟩ h _ K q => at9 x0 x1 h K q)
end
noncomputable section
def ext78 : Ext := []
theorem ext78Ok : ExtOk Tryz.prog ext78 := trivial
noncomputable def b78 : Code := bodyOf Tryz.f78
theorem hb78 : Tryz.f78.body = some b78 := by kernel_rfl
def sig78 : List AT := [AT.own YA9, AT.v (Ty.int .i64)]
def tys78 : List Ty := [Ty.int .i64]
def kds78 : List RK := []
def oks78 : List AT := owns sig78
def E78_2 (v5 : Int) (x1 : Int) (x0 : List TyB4) : Env := [(0, PV.a (Atom.osl 0 Option.none)), (1, PV.a (Atom.val (Value.int .i64 x1))), (5, PV.a (Atom.val (Value.int .i64 v5)))]
def L78_2 (v5 : Int) (x1 : Int) (x0 : List TyB4) : Heap := [Option.some (Arr.mk YA9 x0 false Option.none Option.none)]
mutual
def R78 : Nat → List TyB4 → Int → List Dyn → List (Option Lst) → Prop
  | 0, _, _, _, _ => False
  | n + 1, x0, x1, ds, us => (R78_2 n (0) (x1) (x0) ds us)
def R78_2 : Nat → Int → Int → List TyB4 → List Dyn → List (Option Lst) → Prop
  | 0, _, _, _, _, _ => False
  | n + 1, v5, x1, x0, ds, us => (if (decide (v5 < (↑(List.length x0) : Int))) = true then ((0 ≤ v5) ∧ (v5 < (↑(List.length x0) : Int)) ∧ ((InR .i64 (x1 + 1)) ∧ ((0 ≤ v5) ∧ (v5 < (↑(List.length (List.set x0 (Int.toNat v5) (x1, (List.getD x0 (Int.toNat v5) (0, 0, ())).2))) : Int)) ∧ ((InR .i64 (x1 + 1 + 1)) ∧ ((InR .i64 (v5 + 1)) ∧ (R78_2 n (v5 + 1) (x1 + 1 + 1) (List.set (List.set x0 (Int.toNat v5) (x1, (List.getD x0 (Int.toNat v5) (0, 0, ())).2)) (Int.toNat v5) ((List.getD (List.set x0 (Int.toNat v5) (x1, (List.getD x0 (Int.toNat v5) (0, 0, ())).2)) (Int.toNat v5) (0, 0, ())).1, x1 + 1, (List.getD (List.set x0 (Int.toNat v5) (x1, (List.getD x0 (Int.toNat v5) (0, 0, ())).2)) (Int.toNat v5) (0, 0, ())).2.2)) ds us)))))) else (ds = [Dyn.mk (Ty.int .i64) x1] ∧ us = [Option.some (Lst.mk YA9 x0)]))
end
theorem snd78 : ∀ n, (∀ (x0 : List TyB4) (x1 : Int) ds us, R78 n x0 x1 ds us → ∀ K q, AtV Tryz.prog 78 (PostR kds78 oks78 ds us [0] q K) 27 K q [0] [.code b78] (entE 0 0 sig78 (x0, x1, ())) (entL sig78 (x0, x1, ()))) ∧ (∀ (v5 : Int) (x1 : Int) (x0 : List TyB4) ds us, R78_2 n v5 x1 x0 ds us → ∀ K q, AtV Tryz.prog 78 (PostR kds78 oks78 ds us [0] q K) 27 K q [0] (cutAt b78 2) (E78_2 v5 x1 x0) (L78_2 v5 x1 x0)) := by
  intro n
  induction n with
  | zero => exact ⟨fun _ _ _ _ h => by simp only [R78] at h, fun _ _ _ _ _ h => by simp only [R78_2] at h⟩
  | succ n ih =>
  obtain ⟨ih, ih2⟩ := ih
  refine ⟨?_, ?_⟩
  · intro x0 x1 ds us h K q
    rw [R78] at h
    exact AtV.go tabOk ext78Ok mixed false [] [] [0, 1, 5] [0] [] trivial (ih2 _ _ _ _ _ h K q) (by kernel_rfl)
  · intro v5 x1 x0 ds us h K q
    rw [R78_2] at h
    by_cases b0 : (decide (v5 < (↑(List.length x0) : Int))) = true
    · rw [if_pos b0] at h
      obtain ⟨s0, s1, h⟩ := h
      obtain ⟨s2, h⟩ := h
      obtain ⟨s3, s4, h⟩ := h
      obtain ⟨s5, h⟩ := h
      obtain ⟨s6, h⟩ := h
      exact AtV.go tabOk ext78Ok mixed false [] [] [0, 1, 5] [0] [true] (a1 b0 (a1 s0 (a1 s1 (a1 s2 (a1 s3 (a1 s4 (a1 s5 (a1 s6 trivial)))))))) (ih2 _ _ _ _ _ h K q) (by kernel_rfl)
    · rw [if_neg b0] at h
      replace b0 := Bool.eq_false_iff.2 b0
      obtain ⟨h, h'⟩ := h; subst h; subst h'
      exact AtV.ret Tryz.func78 tabOk ext78Ok mixed false [] tys78 [false] (a1 b0 trivial) (by kernel_rfl)
def M78 (x1 : Int) (n : Nat) : List TyB4 := (List.range n).map fun (j : Nat) => ((x1 + 2 * (j : Int)), (x1 + 2 * (j : Int) + 1), ())
theorem M78_len (x1 : Int) (n : Nat) : (M78 x1 n).length = n := by simp [M78]
theorem M78_succ (x1 : Int) (n : Nat) : M78 x1 (n + 1) = M78 x1 n ++ [((x1 + 2 * (n : Int)), (x1 + 2 * (n : Int) + 1), ())] := by
  simp [M78, List.range_succ]
theorem run78 (x0 : List TyB4) (x1 : Int) (hm : x0.length ≤ maxLen) (h0 : 0 ≤ x1) (h1 : x1 + 2 * x0.length ≤ 9223372036854775807) : ∀ (k i : Nat), i + k = x0.length →
    R78_2 (k + 1) (i : Int) (x1 + 2 * (i : Int)) (M78 x1 i ++ x0.drop i) [⟨.int .i64, x1 + 2 * (x0.length : Int)⟩] [some ⟨(.cons (.int .i64) (.cons (.int .i64) .unit)), M78 x1 x0.length⟩] := by
  intro k
  induction k with
  | zero =>
    intro i hi
    have hl : (M78 x1 i ++ x0.drop i).length = x0.length := by simp [M78_len]; omega
    rw [R78_2, if_neg (by rw [hl]; simp; omega), drop_end x0 i (by omega), List.append_nil]
    have : i = x0.length := by omega
    subst this
    exact ⟨rfl, rfl⟩
  | succ k ih =>
    intro i hi
    have hl : (M78 x1 i ++ x0.drop i).length = x0.length := by simp [M78_len]; omega
    have hA := M78_len x1 i
    rw [R78_2, if_pos (by rw [hl]; simp; omega)]
    rw [drop_get x0 i ((0 : Int), (0 : Int), ()) (by omega)] at hl ⊢
    simp only [Int.toNat_natCast, set_mid _ _ _ _ i hA, get_mid _ _ _ _ i hA]
    have hl' : ∀ y : TyB4, ((M78 x1 i ++ y :: x0.drop (i + 1)).length : Int) = x0.length := fun y => by rw [← hl]; simp
    simp only [hl']
    refine ⟨by omega, by omega, by rw [i64_iff]; omega, by omega, by omega, by rw [i64_iff]; omega, inR_up hm (by omega), ?_⟩
    have hx : x1 + 2 * (i : Int) + 1 + 1 = x1 + 2 * ((i + 1 : Nat) : Int) := by omega
    have := ih (i + 1) (by omega)
    rw [M78_succ, List.append_assoc] at this
    rw [hx]
    simpa using this
def P78 (x0 : List TyB4) (x1 : Int) : Prop := 0 ≤ x1 ∧ x1 + 2 * x0.length ≤ 9223372036854775807
def g78_0 (x0 : List TyB4) (x1 : Int) : Int := x1 + 2 * (x0.length : Int)
def u78_0 (x0 : List TyB4) (x1 : Int) : List TyB4 := M78 x1 x0.length
theorem top78 (x0 : List TyB4) (x1 : Int) (hm : x0.length ≤ maxLen) (h : P78 x0 x1) : R78 (x0.length + 1 + 1) x0 x1 [⟨.int .i64, g78_0 x0 x1⟩] [some ⟨(.cons (.int .i64) (.cons (.int .i64) .unit)), u78_0 x0 x1⟩] := by
  rw [R78]
  have := run78 x0 x1 hm h.1 h.2 x0.length 0 (by omega)
  simpa [M78, g78_0, u78_0] using this
def S78 : Am.Spec := { sig := sig78, pre := fun ⟨x0, x1, _⟩ => P78 x0 x1, upd := fun ⟨x0, x1, _⟩ => [some ⟨(.cons (.int .i64) (.cons (.int .i64) .unit)), u78_0 x0 x1⟩], res := fun ⟨x0, x1, _⟩ => [⟨.int .i64, g78_0 x0 x1⟩] }
theorem con78 : Contract Tryz.prog 78 S78 := contract_of Tryz.func78 hb78 (Nat.le_of_ble_eq_true (by kernel_rfl)) (fun ⟨x0, x1, _⟩ h hwf K q =>
  (snd78 _).1 x0 x1 _ _ (top78 x0 x1 hwf.1.1 h) K q)
end
noncomputable section
def ext39 : Ext := [(78, S78)]
theorem ext39Ok : ExtOk Tryz.prog ext39 := ⟨⟨ca78, con78⟩, trivial⟩
noncomputable def b39 : Code := bodyOf Tryz.f39
theorem hb39 : Tryz.f39.body = some b39 := by kernel_rfl
def sig39 : List AT := [AT.sv YA2, AT.v (Ty.int .i64)]
def tys39 : List Ty := [Ty.int .i64]
def kds39 : List RK := []
def oks39 : List AT := owns sig39
def P39 (x0 : List TyB4 × Int × Int × Unit) (x1 : Int) : Prop := ((P78 x0.1 x1) ∧ (List.length (u78_0 x0.1 x1) = List.length x0.1) ∧ True)
def g39_0 (x0 : List TyB4 × Int × Int × Unit) (x1 : Int) : Int := g78_0 x0.1 x1
def u39_0 (x0 : List TyB4 × Int × Int × Unit) (x1 : Int) : List TyB4 × Int × Int × Unit := (u78_0 x0.1 x1, x0.2.1, x0.2.2.1, ())
theorem at39 (x0 : List TyB4 × Int × Int × Unit) (x1 : Int) (h : P39 x0 x1) (K : Ctx) (q : Nat → Value) : AtV Tryz.prog 39 (PostR kds39 oks39 [⟨Ty.int .i64, g39_0 x0 x1⟩] [some ⟨Ty.cons (Ty.sl YA9) YA9, [u39_0 x0 x1]⟩] [0] q K) 10 K q [0] [.code b39] (entE 0 0 sig39 (x0, x1, ())) (entL sig39 (x0, x1, ())) := by
  unfold P39 at h
  unfold g39_0 u39_0
  obtain ⟨s0, s1, h⟩ := h
  exact AtV.weak (AtV.ret (us := [Option.some (Lst.mk YA2 [(u78_0 x0.1 x1, x0.2.1, x0.2.2.1, ())])]) Tryz.func39 tabOk ext39Ok mixed false [] tys39 [] (a1 s0 (a1 s1 trivial)) (by kernel_rfl)) ⟨.inl rfl, trivial⟩
def S39 : Am.Spec := { sig := sig39, pre := fun ⟨x0, x1, _⟩ => P39 x0 x1, upd := fun ⟨x0, x1, _⟩ => [some ⟨Ty.cons (Ty.sl YA9) YA9, [u39_0 x0 x1]⟩], res := fun ⟨x0, x1, _⟩ => [⟨Ty.int .i64, g39_0 x0 x1⟩], kds := kds39 }
theorem con39 : Contract Tryz.prog 39 S39 := contract_of Tryz.func39 hb39 (Nat.le_of_ble_eq_true (by kernel_rfl)) (fun ⟨x0, x1, _⟩ h _ K q => at39 x0 x1 h K q)
end
end Go.Proofs.YtkemillpgmdlgaaGreatDoor
