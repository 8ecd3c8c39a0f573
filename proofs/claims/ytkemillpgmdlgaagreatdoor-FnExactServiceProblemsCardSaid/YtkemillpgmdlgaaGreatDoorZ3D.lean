/- Several texts in one: the functions that this law reaches, and their laws. -/
import Derived.Test.YtkemillpgmdlgaaGreatDoorZ3A
import Derived.Test.YtkemillpgmdlgaaGreatDoorZ3B
import Derived.Test.YtkemillpgmdlgaaGreatDoorZ3C
import Derived.Shelf.Utf8.RuneCount
import Derived.Shelf.Strconv.Itoa0
import Derived.Shelf.Strconv.Itoa1
import Derived.Shelf.LaysM
import Derived.Shelf.Strconv.Itoa2
import Derived.Shelf.Strconv.Itoa3
import Derived.Shelf.Strconv.Itoa4
import Derived.Shelf.Strings.Search1
import Derived.Shelf.Strings.Search2
import Derived.Shelf.Strings.Search3
import Derived.Shelf.Strings.Count
import Derived.Shelf.Strings.Shaped
import Derived.Shelf.Strings.Split
import Derived.Shelf.Strings.SplitShaped
import Derived.Shelf.Unicode.Decode
import Derived.Shelf.Strings.RuneCount
import Derived.Shelf.Strings.Explode
import Derived.Shelf.Unicode.DecodeSlow
import Derived.Shelf.Unicode.DecodeAny
import Derived.Lib.TrimByte
set_option linter.unusedVariables false
set_option linter.unusedSimpArgs false
set_option maxRecDepth 100000
namespace Go.Proofs.YtkemillpgmdlgaaGreatDoor
open Go Go.Am Go.Proofs
noncomputable section
def ext95 : Ext := [(113, S113)]
theorem ext95Ok : ExtOk Tryz.prog ext95 := ⟨⟨ca113, con113⟩, trivial⟩
noncomputable def b95 : Code := bodyOf Tryz.f95
theorem hb95 : Tryz.f95.body = some b95 := by kernel_rfl
def sig95 : List AT := [AT.v (Ty.sl YA5)]
def tys95 : List Ty := [Ty.bool]
def kds95 : List RK := []
def oks95 : List AT := owns sig95
def E95_2 (v7 : Int) (x0 : List TyB1) : Env := [(0, PV.a (Atom.sl YA5 x0)), (5, PV.a (Atom.sl YA5 x0)), (6, PV.a (Atom.val (Value.int .i64 (↑(List.length x0) : Int)))), (7, PV.a (Atom.val (Value.int .i64 v7)))]
def L95_2 (v7 : Int) (x0 : List TyB1) : Heap := []
mutual
def R95 : Nat → List TyB1 → List Dyn → Prop
  | 0, _, _ => False
  | n + 1, x0, ds => (R95_2 n (0) (x0) ds)
def R95_2 : Nat → Int → List TyB1 → List Dyn → Prop
  | 0, _, _, _ => False
  | n + 1, v7, x0, ds => (if (decide (v7 < (↑(List.length x0) : Int))) = true then ((0 ≤ v7) ∧ (v7 < (↑(List.length x0) : Int)) ∧ (if (!g113_0 (List.getD x0 (Int.toNat v7) (ByteArray.empty, 0, 0, 0, ()))) = true then (ds = [Dyn.mk Ty.bool false]) else (if (decide (v7 > 0)) = true then ((InR .i64 (v7 - 1)) ∧ ((0 ≤ v7 - 1) ∧ (v7 - 1 < (↑(List.length x0) : Int)) ∧ (if (Op.bytesLess (ByteArray.toList (List.getD x0 (Int.toNat v7) (ByteArray.empty, 0, 0, 0, ())).1) (ByteArray.toList (List.getD x0 (Int.toNat (v7 - 1)) (ByteArray.empty, 0, 0, 0, ())).1) || ByteArray.toList (List.getD x0 (Int.toNat v7) (ByteArray.empty, 0, 0, 0, ())).1 == ByteArray.toList (List.getD x0 (Int.toNat (v7 - 1)) (ByteArray.empty, 0, 0, 0, ())).1) = true then (ds = [Dyn.mk Ty.bool false]) else ((InR .i64 (v7 + 1)) ∧ (R95_2 n (v7 + 1) (x0) ds))))) else ((InR .i64 (v7 + 1)) ∧ (R95_2 n (v7 + 1) (x0) ds))))) else (ds = [Dyn.mk Ty.bool (decide ((↑(List.length x0) : Int) ≤ 12))]))
end
theorem snd95 : ∀ n, (∀ (x0 : List TyB1) ds, R95 n x0 ds → ∀ K q, AtV Tryz.prog 95 (PostR kds95 oks95 ds [] [] q K) 34 K q [] [.code b95] (entE 0 0 sig95 (x0, ())) (entL sig95 (x0, ()))) ∧ (∀ (v7 : Int) (x0 : List TyB1) ds, R95_2 n v7 x0 ds → ∀ K q, AtV Tryz.prog 95 (PostR kds95 oks95 ds [] [] q K) 34 K q [] (cutAt b95 2) (E95_2 v7 x0) (L95_2 v7 x0)) := by
  intro n
  induction n with
  | zero => exact ⟨fun _ _ h => by simp only [R95] at h, fun _ _ _ h => by simp only [R95_2] at h⟩
  | succ n ih =>
  obtain ⟨ih, ih2⟩ := ih
  refine ⟨?_, ?_⟩
  · intro x0 ds h K q
    rw [R95] at h
    exact AtV.go tabOk ext95Ok mixed false [] [] [0, 5, 6, 7] [] [] trivial (ih2 _ _ _ h K q) (by kernel_rfl)
  · intro v7 x0 ds h K q
    rw [R95_2] at h
    by_cases b0 : (decide (v7 < (↑(List.length x0) : Int))) = true
    · rw [if_pos b0] at h
      obtain ⟨s0, s1, h⟩ := h
      by_cases b1 : (!g113_0 (List.getD x0 (Int.toNat v7) (ByteArray.empty, 0, 0, 0, ()))) = true
      · rw [if_pos b1] at h
        subst h
        exact AtV.ret Tryz.func95 tabOk ext95Ok mixed false [] tys95 [true, true, true] (a1 b0 (a1 s0 (a1 s1 (a1 trivial (a1 b1 (a1 (rfl : true = true) trivial)))))) (by kernel_rfl)
      · rw [if_neg b1] at h
        replace b1 := Bool.eq_false_iff.2 b1
        by_cases b2 : (decide (v7 > 0)) = true
        · rw [if_pos b2] at h
          obtain ⟨s2, h⟩ := h
          obtain ⟨s3, s4, h⟩ := h
          by_cases b3 : (Op.bytesLess (ByteArray.toList (List.getD x0 (Int.toNat v7) (ByteArray.empty, 0, 0, 0, ())).1) (ByteArray.toList (List.getD x0 (Int.toNat (v7 - 1)) (ByteArray.empty, 0, 0, 0, ())).1) || ByteArray.toList (List.getD x0 (Int.toNat v7) (ByteArray.empty, 0, 0, 0, ())).1 == ByteArray.toList (List.getD x0 (Int.toNat (v7 - 1)) (ByteArray.empty, 0, 0, 0, ())).1) = true
          · rw [if_pos b3] at h
            subst h
            exact AtV.ret Tryz.func95 tabOk ext95Ok mixed false [] tys95 [true, false, true, true] (a1 b0 (a1 s0 (a1 s1 (a1 trivial (a1 b1 (a1 b2 (a1 s2 (a1 s3 (a1 s4 (a1 b3 trivial)))))))))) (by kernel_rfl)
          · rw [if_neg b3] at h
            replace b3 := Bool.eq_false_iff.2 b3
            obtain ⟨s5, h⟩ := h
            exact AtV.go tabOk ext95Ok mixed false [] [] [0, 5, 6, 7] [] [true, false, true, false] (a1 b0 (a1 s0 (a1 s1 (a1 trivial (a1 b1 (a1 b2 (a1 s2 (a1 s3 (a1 s4 (a1 b3 (a1 s5 trivial))))))))))) (ih2 _ _ _ h K q) (by kernel_rfl)
        · rw [if_neg b2] at h
          replace b2 := Bool.eq_false_iff.2 b2
          obtain ⟨s2, h⟩ := h
          exact AtV.go tabOk ext95Ok mixed false [] [] [0, 5, 6, 7] [] [true, false, false, false] (a1 b0 (a1 s0 (a1 s1 (a1 trivial (a1 b1 (a1 b2 (a1 (rfl : false = false) (a1 s2 trivial)))))))) (ih2 _ _ _ h K q) (by kernel_rfl)
    · rw [if_neg b0] at h
      replace b0 := Bool.eq_false_iff.2 b0
      subst h
      exact AtV.ret Tryz.func95 tabOk ext95Ok mixed false [] tys95 [false] (a1 b0 trivial) (by kernel_rfl)
def ok95 (x0 : List TyB1) (i : Nat) (x : TyB1) : Bool :=
  g113_0 x && (i == 0 || !(Op.bytesLess (ByteArray.toList x.1) (ByteArray.toList (x0.getD (i - 1) (ByteArray.empty, (0 : Int), (0 : Int), (0 : Int), ())).1) || ByteArray.toList x.1 == ByteArray.toList (x0.getD (i - 1) (ByteArray.empty, (0 : Int), (0 : Int), (0 : Int), ())).1))
def g95_0 (x0 : List TyB1) : Bool := allI (ok95 x0) 0 x0 && decide (x0.length ≤ 12)
def P95 (x0 : List TyB1) : Prop := True
theorem step95 (n i : Nat) (x0 : List TyB1) (hm : x0.length ≤ maxLen) (hi : i < x0.length) (ds : List Dyn) :
    (if ok95 x0 i (x0.getD i (ByteArray.empty, (0 : Int), (0 : Int), (0 : Int), ())) = true then R95_2 n ((i : Int) + 1) x0 ds else ds = [⟨.bool, false⟩]) → R95_2 (n + 1) (i : Int) x0 ds := by
  intro h
  have hu := inR_up hm hi
  rw [R95_2, if_pos (by simp; omega)]
  refine ⟨by omega, by omega, ?_⟩
  simp only [Int.toNat_natCast]
  unfold ok95 at h
  by_cases h1 : g113_0 (x0.getD i (ByteArray.empty, (0 : Int), (0 : Int), (0 : Int), ())) = true
  case neg =>
    have h1 := Bool.eq_false_iff.2 h1
    rw [h1] at h
    rw [if_pos (by rw [h1]; rfl)]
    simpa using h
  case pos =>
    rw [h1] at h
    rw [if_neg (by rw [h1]; simp)]
    by_cases h0 : (i : Int) > 0
    · rw [if_pos (by simpa using h0)]
      have hi0 : (i == 0) = false := by simp; omega
      have e : ((i : Int) - 1).toNat = i - 1 := by omega
      refine ⟨by rw [i64_iff]; have : maxLen ≤ 9223372036854775807 := by decide
                 omega, by omega, by omega, ?_⟩
      rw [e]
      by_cases h2 : (Op.bytesLess (ByteArray.toList (x0.getD i (ByteArray.empty, (0 : Int), (0 : Int), (0 : Int), ())).1) (ByteArray.toList (x0.getD (i - 1) (ByteArray.empty, (0 : Int), (0 : Int), (0 : Int), ())).1) || ByteArray.toList (x0.getD i (ByteArray.empty, (0 : Int), (0 : Int), (0 : Int), ())).1 == ByteArray.toList (x0.getD (i - 1) (ByteArray.empty, (0 : Int), (0 : Int), (0 : Int), ())).1) = true
      · rw [if_pos h2]
        rw [hi0, h2] at h
        simpa using h
      · rw [if_neg h2]
        rw [hi0, Bool.eq_false_iff.2 h2] at h
        exact ⟨hu, by simpa using h⟩
    · rw [if_neg (by simpa using h0)]
      have hi0 : (i == 0) = true := by simp; omega
      rw [hi0] at h
      exact ⟨hu, by simpa using h⟩
theorem top95 (x0 : List TyB1) (hw : x0.length ≤ maxLen) : R95 (x0.length + 1 + 1) x0 [⟨.bool, g95_0 x0⟩] := by
  rw [R95]
  have key := loop_testI x0 (ByteArray.empty, (0 : Int), (0 : Int), (0 : Int), ()) (ok95 x0) [(⟨.bool, false⟩ : Dyn)] [⟨.bool, decide (x0.length ≤ 12)⟩] (fun n i ds => R95_2 n i x0 ds) (fun n => ?_) (fun n i hi hok ds hr => ?_) (fun n i hi hok => ?_)
  · unfold g95_0
    cases h : allI (ok95 x0) 0 x0 with
    | true => rw [if_pos h] at key; simpa using key
    | false => rw [if_neg (by rw [h]; simp)] at key; simpa using key
  · rw [R95_2, if_neg (by simp)]
    have hc : decide ((x0.length : Int) ≤ 12) = decide (x0.length ≤ 12) := by
      congr 1; exact propext ⟨fun h => by omega, fun h => by omega⟩
    rw [hc]
  · exact step95 n i x0 hw hi ds (by rw [if_pos hok]; exact hr)
  · exact step95 n i x0 hw hi _ (by rw [if_neg (by rw [hok]; simp)])
def S95 : Am.Spec := { sig := sig95, pre := fun ⟨x0, _⟩ => P95 x0, res := fun ⟨x0, _⟩ => [⟨Ty.bool, g95_0 x0⟩] }
theorem con95 : Contract Tryz.prog 95 S95 := contract_of Tryz.func95 hb95 (Nat.le_of_ble_eq_true (by kernel_rfl)) (fun ⟨x0, _⟩ h hwf K q =>
  (snd95 _).1 x0 _ (top95 x0 hwf.1.1) K q)
end
noncomputable section
def ext96 : Ext := [(111, S111), (114, S114)]
theorem ext96Ok : ExtOk Tryz.prog ext96 := ⟨⟨ca111, con111⟩, ⟨ca114, con114⟩, trivial⟩
noncomputable def b96 : Code := bodyOf Tryz.f96
theorem hb96 : Tryz.f96.body = some b96 := by kernel_rfl
def sig96 : List AT := [AT.v YA7]
def tys96 : List Ty := [Ty.bool]
def kds96 : List RK := []
def oks96 : List AT := owns sig96
def P96 (x0 : Int × Int × Int × Unit) : Prop := True
def g96_0 (x0 : Int × Int × Int × Unit) : Bool := (if (g111_0 x0.1 0 200) = true then (if (g111_0 x0.2.1 0 40) = true then g114_0 x0.2.2.1 else false) else false)
theorem at96 (x0 : Int × Int × Int × Unit) (h : P96 x0) (K : Ctx) (q : Nat → Value) : AtV Tryz.prog 96 (PostR kds96 oks96 [⟨Ty.bool, g96_0 x0⟩] [] [] q K) 16 K q [] [.code b96] (entE 0 0 sig96 (x0, ())) (entL sig96 (x0, ())) := by
  unfold P96 at h
  unfold g96_0
  by_cases b0 : (g111_0 x0.1 0 200) = true
  · try simp only [if_pos b0] at h ⊢
    by_cases b1 : (g111_0 x0.2.1 0 40) = true
    · try simp only [if_pos b1] at h ⊢
      exact AtV.ret Tryz.func96 tabOk ext96Ok mixed false [] tys96 [true, true] (a1 trivial (a1 b0 (a1 trivial (a1 b1 (a1 trivial trivial))))) (by kernel_rfl)
    · try simp only [if_neg b1] at h ⊢
      replace b1 := Bool.eq_false_iff.2 b1
      exact AtV.ret Tryz.func96 tabOk ext96Ok mixed false [] tys96 [true, false] (a1 trivial (a1 b0 (a1 trivial (a1 b1 trivial)))) (by kernel_rfl)
  · try simp only [if_neg b0] at h ⊢
    replace b0 := Bool.eq_false_iff.2 b0
    exact AtV.ret Tryz.func96 tabOk ext96Ok mixed false [] tys96 [false, false] (a1 trivial (a1 b0 (a1 (rfl : false = false) trivial))) (by kernel_rfl)
def S96 : Am.Spec := { sig := sig96, pre := fun ⟨x0, _⟩ => P96 x0, res := fun ⟨x0, _⟩ => [⟨Ty.bool, g96_0 x0⟩], kds := kds96 }
theorem con96 : Contract Tryz.prog 96 S96 := contract_of Tryz.func96 hb96 (Nat.le_of_ble_eq_true (by kernel_rfl)) (fun ⟨x0, _⟩ h _ K q => at96 x0 h K q)
end
noncomputable section
def ext117 : Ext := [(111, S111)]
theorem ext117Ok : ExtOk Tryz.prog ext117 := ⟨⟨ca111, con111⟩, trivial⟩
noncomputable def b117 : Code := bodyOf Tryz.f117
theorem hb117 : Tryz.f117.body = some b117 := by kernel_rfl
def sig117 : List AT := [AT.v (Ty.int .i64)]
def tys117 : List Ty := [Ty.bool]
def kds117 : List RK := []
def oks117 : List AT := owns sig117
def P117 (x0 : Int) : Prop := True
def g117_0 (x0 : Int) : Bool := g111_0 x0 0 100000
theorem at117 (x0 : Int) (h : P117 x0) (K : Ctx) (q : Nat → Value) : AtV Tryz.prog 117 (PostR kds117 oks117 [⟨Ty.bool, g117_0 x0⟩] [] [] q K) 5 K q [] [.code b117] (entE 0 0 sig117 (x0, ())) (entL sig117 (x0, ())) := by
  unfold P117 at h
  unfold g117_0
  exact AtV.ret Tryz.func117 tabOk ext117Ok mixed false [] tys117 [] (a1 trivial trivial) (by kernel_rfl)
def S117 : Am.Spec := { sig := sig117, pre := fun ⟨x0, _⟩ => P117 x0, res := fun ⟨x0, _⟩ => [⟨Ty.bool, g117_0 x0⟩], kds := kds117 }
theorem con117 : Contract Tryz.prog 117 S117 := contract_of Tryz.func117 hb117 (Nat.le_of_ble_eq_true (by kernel_rfl)) (fun ⟨x0, _⟩ h _ K q => at117 x0 h K q)
end
noncomputable section
def ext116 : Ext := [(111, S111)]
theorem ext116Ok : ExtOk Tryz.prog ext116 := ⟨⟨ca111, con111⟩, trivial⟩
noncomputable def b116 : Code := bodyOf Tryz.f116
theorem hb116 : Tryz.f116.body = some b116 := by kernel_rfl
def sig116 : List AT := [AT.v (Ty.int .i64)]
def tys116 : List Ty := [Ty.bool]
def kds116 : List RK := []
def oks116 : List AT := owns sig116
def P116 (x0 : Int) : Prop := True
def g116_0 (x0 : Int) : Bool := g111_0 x0 0 1000000
theorem at116 (x0 : Int) (h : P116 x0) (K : Ctx) (q : Nat → Value) : AtV Tryz.prog 116 (PostR kds116 oks116 [⟨Ty.bool, g116_0 x0⟩] [] [] q K) 5 K q [] [.code b116] (entE 0 0 sig116 (x0, ())) (entL sig116 (x0, ())) := by
  unfold P116 at h
  unfold g116_0
  exact AtV.ret Tryz.func116 tabOk ext116Ok mixed false [] tys116 [] (a1 trivial trivial) (by kernel_rfl)
def S116 : Am.Spec := { sig := sig116, pre := fun ⟨x0, _⟩ => P116 x0, res := fun ⟨x0, _⟩ => [⟨Ty.bool, g116_0 x0⟩], kds := kds116 }
theorem con116 : Contract Tryz.prog 116 S116 := contract_of Tryz.func116 hb116 (Nat.le_of_ble_eq_true (by kernel_rfl)) (fun ⟨x0, _⟩ h _ K q => at116 x0 h K q)
end
noncomputable section
def ext129 : Ext := [(128, S128), (111, S111), (117, S117), (116, S116)]
theorem ext129Ok : ExtOk Tryz.prog ext129 := ⟨⟨ca128, con128⟩, ⟨ca111, con111⟩, ⟨ca117, con117⟩, ⟨ca116, con116⟩, trivial⟩
noncomputable def b129 : Code := bodyOf Tryz.f129
theorem hb129 : Tryz.f129.body = some b129 := by kernel_rfl
def sig129 : List AT := [AT.v YA3]
def tys129 : List Ty := [Ty.bool]
def kds129 : List RK := []
def oks129 : List AT := owns sig129
def P129 (x0 : ByteArray × Int × Int × Int × Int × Unit) : Prop := True
def g129_0 (x0 : ByteArray × Int × Int × Int × Int × Unit) : Bool := (if (g128_0 x0.1) = true then (if (g111_0 x0.2.1 1 100000) = true then (if (g111_0 x0.2.2.1 1 1000000) = true then (if (g117_0 x0.2.2.2.1) = true then g116_0 x0.2.2.2.2.1 else false) else false) else false) else false)
theorem at129 (x0 : ByteArray × Int × Int × Int × Int × Unit) (h : P129 x0) (K : Ctx) (q : Nat → Value) : AtV Tryz.prog 129 (PostR kds129 oks129 [⟨Ty.bool, g129_0 x0⟩] [] [] q K) 26 K q [] [.code b129] (entE 0 0 sig129 (x0, ())) (entL sig129 (x0, ())) := by
  unfold P129 at h
  unfold g129_0
  by_cases b0 : (g128_0 x0.1) = true
  · try simp only [if_pos b0] at h ⊢
    by_cases b1 : (g111_0 x0.2.1 1 100000) = true
    · try simp only [if_pos b1] at h ⊢
      by_cases b2 : (g111_0 x0.2.2.1 1 1000000) = true
      · try simp only [if_pos b2] at h ⊢
        by_cases b3 : (g117_0 x0.2.2.2.1) = true
        · try simp only [if_pos b3] at h ⊢
          exact AtV.ret Tryz.func129 tabOk ext129Ok mixed false [] tys129 [true, true, true, true] (a1 trivial (a1 b0 (a1 trivial (a1 b1 (a1 trivial (a1 b2 (a1 trivial (a1 b3 (a1 trivial trivial))))))))) (by kernel_rfl)
        · try simp only [if_neg b3] at h ⊢
          replace b3 := Bool.eq_false_iff.2 b3
          exact AtV.ret Tryz.func129 tabOk ext129Ok mixed false [] tys129 [true, true, true, false] (a1 trivial (a1 b0 (a1 trivial (a1 b1 (a1 trivial (a1 b2 (a1 trivial (a1 b3 trivial)))))))) (by kernel_rfl)
      · try simp only [if_neg b2] at h ⊢
        replace b2 := Bool.eq_false_iff.2 b2
        exact AtV.ret Tryz.func129 tabOk ext129Ok mixed false [] tys129 [true, true, false, false] (a1 trivial (a1 b0 (a1 trivial (a1 b1 (a1 trivial (a1 b2 (a1 (rfl : false = false) trivial))))))) (by kernel_rfl)
    · try simp only [if_neg b1] at h ⊢
      replace b1 := Bool.eq_false_iff.2 b1
      exact AtV.ret Tryz.func129 tabOk ext129Ok mixed false [] tys129 [true, false, false, false] (a1 trivial (a1 b0 (a1 trivial (a1 b1 (a1 (rfl : false = false) (a1 (rfl : false = false) trivial)))))) (by kernel_rfl)
  · try simp only [if_neg b0] at h ⊢
    replace b0 := Bool.eq_false_iff.2 b0
    exact AtV.ret Tryz.func129 tabOk ext129Ok mixed false [] tys129 [false, false, false, false] (a1 trivial (a1 b0 (a1 (rfl : false = false) (a1 (rfl : false = false) (a1 (rfl : false = false) trivial))))) (by kernel_rfl)
def S129 : Am.Spec := { sig := sig129, pre := fun ⟨x0, _⟩ => P129 x0, res := fun ⟨x0, _⟩ => [⟨Ty.bool, g129_0 x0⟩], kds := kds129 }
theorem con129 : Contract Tryz.prog 129 S129 := contract_of Tryz.func129 hb129 (Nat.le_of_ble_eq_true (by kernel_rfl)) (fun ⟨x0, _⟩ h _ K q => at129 x0 h K q)
end
noncomputable section
def ext115 : Ext := [(129, S129)]
theorem ext115Ok : ExtOk Tryz.prog ext115 := ⟨⟨ca129, con129⟩, trivial⟩
noncomputable def b115 : Code := bodyOf Tryz.f115
theorem hb115 : Tryz.f115.body = some b115 := by kernel_rfl
def sig115 : List AT := [AT.v (Ty.sl YA3)]
def tys115 : List Ty := [Ty.bool]
def kds115 : List RK := []
def oks115 : List AT := owns sig115
def E115_2 (v7 : Int) (x0 : List TyB0) : Env := [(0, PV.a (Atom.sl YA3 x0)), (5, PV.a (Atom.sl YA3 x0)), (6, PV.a (Atom.val (Value.int .i64 (↑(List.length x0) : Int)))), (7, PV.a (Atom.val (Value.int .i64 v7)))]
def L115_2 (v7 : Int) (x0 : List TyB0) : Heap := []
mutual
def R115 : Nat → List TyB0 → List Dyn → Prop
  | 0, _, _ => False
  | n + 1, x0, ds => (R115_2 n (0) (x0) ds)
def R115_2 : Nat → Int → List TyB0 → List Dyn → Prop
  | 0, _, _, _ => False
  | n + 1, v7, x0, ds => (if (decide (v7 < (↑(List.length x0) : Int))) = true then ((0 ≤ v7) ∧ (v7 < (↑(List.length x0) : Int)) ∧ (if (!g129_0 (List.getD x0 (Int.toNat v7) (ByteArray.empty, 0, 0, 0, 0, ()))) = true then (ds = [Dyn.mk Ty.bool false]) else (if (decide (v7 > 0)) = true then ((InR .i64 (v7 - 1)) ∧ ((0 ≤ v7 - 1) ∧ (v7 - 1 < (↑(List.length x0) : Int)) ∧ (if (Op.bytesLess (ByteArray.toList (List.getD x0 (Int.toNat v7) (ByteArray.empty, 0, 0, 0, 0, ())).1) (ByteArray.toList (List.getD x0 (Int.toNat (v7 - 1)) (ByteArray.empty, 0, 0, 0, 0, ())).1) || ByteArray.toList (List.getD x0 (Int.toNat v7) (ByteArray.empty, 0, 0, 0, 0, ())).1 == ByteArray.toList (List.getD x0 (Int.toNat (v7 - 1)) (ByteArray.empty, 0, 0, 0, 0, ())).1) = true then (ds = [Dyn.mk Ty.bool false]) else ((InR .i64 (v7 + 1)) ∧ (R115_2 n (v7 + 1) (x0) ds))))) else ((InR .i64 (v7 + 1)) ∧ (R115_2 n (v7 + 1) (x0) ds))))) else (ds = [Dyn.mk Ty.bool (decide ((↑(List.length x0) : Int) ≤ 16))]))
end
theorem snd115 : ∀ n, (∀ (x0 : List TyB0) ds, R115 n x0 ds → ∀ K q, AtV Tryz.prog 115 (PostR kds115 oks115 ds [] [] q K) 34 K q [] [.code b115] (entE 0 0 sig115 (x0, ())) (entL sig115 (x0, ()))) ∧ (∀ (v7 : Int) (x0 : List TyB0) ds, R115_2 n v7 x0 ds → ∀ K q, AtV Tryz.prog 115 (PostR kds115 oks115 ds [] [] q K) 34 K q [] (cutAt b115 2) (E115_2 v7 x0) (L115_2 v7 x0)) := by
  intro n
  induction n with
  | zero => exact ⟨fun _ _ h => by simp only [R115] at h, fun _ _ _ h => by simp only [R115_2] at h⟩
  | succ n ih =>
  obtain ⟨ih, ih2⟩ := ih
  refine ⟨?_, ?_⟩
  · intro x0 ds h K q
    rw [R115] at h
    exact AtV.go tabOk ext115Ok mixed false [] [] [0, 5, 6, 7] [] [] trivial (ih2 _ _ _ h K q) (by kernel_rfl)
  · intro v7 x0 ds h K q
    rw [R115_2] at h
    by_cases b0 : (decide (v7 < (↑(List.length x0) : Int))) = true
    · rw [if_pos b0] at h
      obtain ⟨s0, s1, h⟩ := h
      by_cases b1 : (!g129_0 (List.getD x0 (Int.toNat v7) (ByteArray.empty, 0, 0, 0, 0, ()))) = true
      · rw [if_pos b1] at h
        subst h
        exact AtV.ret Tryz.func115 tabOk ext115Ok mixed false [] tys115 [true, true, true] (a1 b0 (a1 s0 (a1 s1 (a1 trivial (a1 b1 (a1 (rfl : true = true) trivial)))))) (by kernel_rfl)
      · rw [if_neg b1] at h
        replace b1 := Bool.eq_false_iff.2 b1
        by_cases b2 : (decide (v7 > 0)) = true
        · rw [if_pos b2] at h
          obtain ⟨s2, h⟩ := h
          obtain ⟨s3, s4, h⟩ := h
          by_cases b3 : (Op.bytesLess (ByteArray.toList (List.getD x0 (Int.toNat v7) (ByteArray.empty, 0, 0, 0, 0, ())).1) (ByteArray.toList (List.getD x0 (Int.toNat (v7 - 1)) (ByteArray.empty, 0, 0, 0, 0, ())).1) || ByteArray.toList (List.getD x0 (Int.toNat v7) (ByteArray.empty, 0, 0, 0, 0, ())).1 == ByteArray.toList (List.getD x0 (Int.toNat (v7 - 1)) (ByteArray.empty, 0, 0, 0, 0, ())).1) = true
          · rw [if_pos b3] at h
            subst h
            exact AtV.ret Tryz.func115 tabOk ext115Ok mixed false [] tys115 [true, false, true, true] (a1 b0 (a1 s0 (a1 s1 (a1 trivial (a1 b1 (a1 b2 (a1 s2 (a1 s3 (a1 s4 (a1 b3 trivial)))))))))) (by kernel_rfl)
          · rw [if_neg b3] at h
            replace b3 := Bool.eq_false_iff.2 b3
            obtain ⟨s5, h⟩ := h
            exact AtV.go tabOk ext115Ok mixed false [] [] [0, 5, 6, 7] [] [true, false, true, false] (a1 b0 (a1 s0 (a1 s1 (a1 trivial (a1 b1 (a1 b2 (a1 s2 (a1 s3 (a1 s4 (a1 b3 (a1 s5 trivial))))))))))) (ih2 _ _ _ h K q) (by kernel_rfl)
        · rw [if_neg b2] at h
          replace b2 := Bool.eq_false_iff.2 b2
          obtain ⟨s2, h⟩ := h
          exact AtV.go tabOk ext115Ok mixed false [] [] [0, 5, 6, 7] [] [true, false, false, false] (a1 b0 (a1 s0 (a1 s1 (a1 trivial (a1 b1 (a1 b2 (a1 (rfl : false = false) (a1 s2 trivial)))))))) (ih2 _ _ _ h K q) (by kernel_rfl)
    · rw [if_neg b0] at h
      replace b0 := Bool.eq_false_iff.2 b0
      subst h
      exact AtV.ret Tryz.func115 tabOk ext115Ok mixed false [] tys115 [false] (a1 b0 trivial) (by kernel_rfl)
def ok115 (x0 : List TyB0) (i : Nat) (x : TyB0) : Bool :=
  g129_0 x && (i == 0 || !(Op.bytesLess (ByteArray.toList x.1) (ByteArray.toList (x0.getD (i - 1) (ByteArray.empty, (0 : Int), (0 : Int), (0 : Int), (0 : Int), ())).1) || ByteArray.toList x.1 == ByteArray.toList (x0.getD (i - 1) (ByteArray.empty, (0 : Int), (0 : Int), (0 : Int), (0 : Int), ())).1))
def g115_0 (x0 : List TyB0) : Bool := allI (ok115 x0) 0 x0 && decide (x0.length ≤ 16)
def P115 (x0 : List TyB0) : Prop := True
theorem step115 (n i : Nat) (x0 : List TyB0) (hm : x0.length ≤ maxLen) (hi : i < x0.length) (ds : List Dyn) :
    (if ok115 x0 i (x0.getD i (ByteArray.empty, (0 : Int), (0 : Int), (0 : Int), (0 : Int), ())) = true then R115_2 n ((i : Int) + 1) x0 ds else ds = [⟨.bool, false⟩]) → R115_2 (n + 1) (i : Int) x0 ds := by
  intro h
  have hu := inR_up hm hi
  rw [R115_2, if_pos (by simp; omega)]
  refine ⟨by omega, by omega, ?_⟩
  simp only [Int.toNat_natCast]
  unfold ok115 at h
  by_cases h1 : g129_0 (x0.getD i (ByteArray.empty, (0 : Int), (0 : Int), (0 : Int), (0 : Int), ())) = true
  case neg =>
    have h1 := Bool.eq_false_iff.2 h1
    rw [h1] at h
    rw [if_pos (by rw [h1]; rfl)]
    simpa using h
  case pos =>
    rw [h1] at h
    rw [if_neg (by rw [h1]; simp)]
    by_cases h0 : (i : Int) > 0
    · rw [if_pos (by simpa using h0)]
      have hi0 : (i == 0) = false := by simp; omega
      have e : ((i : Int) - 1).toNat = i - 1 := by omega
      refine ⟨by rw [i64_iff]; have : maxLen ≤ 9223372036854775807 := by decide
                 omega, by omega, by omega, ?_⟩
      rw [e]
      by_cases h2 : (Op.bytesLess (ByteArray.toList (x0.getD i (ByteArray.empty, (0 : Int), (0 : Int), (0 : Int), (0 : Int), ())).1) (ByteArray.toList (x0.getD (i - 1) (ByteArray.empty, (0 : Int), (0 : Int), (0 : Int), (0 : Int), ())).1) || ByteArray.toList (x0.getD i (ByteArray.empty, (0 : Int), (0 : Int), (0 : Int), (0 : Int), ())).1 == ByteArray.toList (x0.getD (i - 1) (ByteArray.empty, (0 : Int), (0 : Int), (0 : Int), (0 : Int), ())).1) = true
      · rw [if_pos h2]
        rw [hi0, h2] at h
        simpa using h
      · rw [if_neg h2]
        rw [hi0, Bool.eq_false_iff.2 h2] at h
        exact ⟨hu, by simpa using h⟩
    · rw [if_neg (by simpa using h0)]
      have hi0 : (i == 0) = true := by simp; omega
      rw [hi0] at h
      exact ⟨hu, by simpa using h⟩
theorem top115 (x0 : List TyB0) (hw : x0.length ≤ maxLen) : R115 (x0.length + 1 + 1) x0 [⟨.bool, g115_0 x0⟩] := by
  rw [R115]
  have key := loop_testI x0 (ByteArray.empty, (0 : Int), (0 : Int), (0 : Int), (0 : Int), ()) (ok115 x0) [(⟨.bool, false⟩ : Dyn)] [⟨.bool, decide (x0.length ≤ 16)⟩] (fun n i ds => R115_2 n i x0 ds) (fun n => ?_) (fun n i hi hok ds hr => ?_) (fun n i hi hok => ?_)
  · unfold g115_0
    cases h : allI (ok115 x0) 0 x0 with
    | true => rw [if_pos h] at key; simpa using key
    | false => rw [if_neg (by rw [h]; simp)] at key; simpa using key
  · rw [R115_2, if_neg (by simp)]
    have hc : decide ((x0.length : Int) ≤ 16) = decide (x0.length ≤ 16) := by
      congr 1; exact propext ⟨fun h => by omega, fun h => by omega⟩
    rw [hc]
  · exact step115 n i x0 hw hi ds (by rw [if_pos hok]; exact hr)
  · exact step115 n i x0 hw hi _ (by rw [if_neg (by rw [hok]; simp)])
def S115 : Am.Spec := { sig := sig115, pre := fun ⟨x0, _⟩ => P115 x0, res := fun ⟨x0, _⟩ => [⟨Ty.bool, g115_0 x0⟩] }
theorem con115 : Contract Tryz.prog 115 S115 := contract_of Tryz.func115 hb115 (Nat.le_of_ble_eq_true (by kernel_rfl)) (fun ⟨x0, _⟩ h hwf K q =>
  (snd115 _).1 x0 _ (top115 x0 hwf.1.1) K q)
end
noncomputable section
def ext119 : Ext := []
theorem ext119Ok : ExtOk Tryz.prog ext119 := trivial
noncomputable def b119 : Code := bodyOf Tryz.f119
theorem hb119 : Tryz.f119.body = some b119 := by kernel_rfl
def sig119 : List AT := [AT.v YA3, AT.p (.int .i64), AT.p (.int .i64)]
def tys119 : List Ty := [Ty.bool]
def kds119 : List RK := []
def oks119 : List AT := owns sig119
def P119 (x0 : ByteArray × Int × Int × Int × Int × Unit) (x1 : Int) (x2 : Int) : Prop := True
def g119_0 (x0 : ByteArray × Int × Int × Int × Int × Unit) (x1 : Int) (x2 : Int) : Bool := (if (decide (x0.2.2.2.1 > x1)) = true then true else decide (x0.2.2.2.2.1 > x2))
theorem at119 (x0 : ByteArray × Int × Int × Int × Int × Unit) (x1 : Int) (x2 : Int) (h : P119 x0 x1 x2) (K : Ctx) (q : Nat → Value) : AtV Tryz.prog 119 (PostR kds119 oks119 [⟨Ty.bool, g119_0 x0 x1 x2⟩] [] [] q K) 15 K q [] [.code b119] (entE 0 0 sig119 (x0, x1, x2, ())) (entL sig119 (x0, x1, x2, ())) := by
  unfold P119 at h
  unfold g119_0
  by_cases b0 : (decide (x0.2.2.2.1 > x1)) = true
  · try simp only [if_pos b0] at h ⊢
    exact AtV.ret Tryz.func119 tabOk ext119Ok mixed false [] tys119 [true] (a1 b0 trivial) (by kernel_rfl)
  · try simp only [if_neg b0] at h ⊢
    replace b0 := Bool.eq_false_iff.2 b0
    exact AtV.ret Tryz.func119 tabOk ext119Ok mixed false [] tys119 [false] (a1 b0 trivial) (by kernel_rfl)
def S119 : Am.Spec := { sig := sig119, pre := fun ⟨x0, x1, x2, _⟩ => P119 x0 x1 x2, res := fun ⟨x0, x1, x2, _⟩ => [⟨Ty.bool, g119_0 x0 x1 x2⟩], kds := kds119 }
theorem con119 : Contract Tryz.prog 119 S119 := contract_of Tryz.func119 hb119 (Nat.le_of_ble_eq_true (by kernel_rfl)) (fun ⟨x0, x1, x2, _⟩ h _ K q => at119 x0 x1 x2 h K q)
end
noncomputable section
def ext130c119 : Ext := [(119, S119)]
theorem ext130c119Ok : ExtOk Tryz.prog ext130c119 := ⟨⟨ca119, con119⟩, trivial⟩
noncomputable def b130c119 : Code := bodyOf Tryz.f130
theorem hb130c119 : Tryz.f130.body = some b130c119 := by kernel_rfl
def sig130c119 : List AT := [AT.v (Ty.sl YA3), AT.fn 119 [(true, (.int .i64)), (true, (.int .i64))]]
def tys130c119 : List Ty := [Ty.int .i64]
def kds130c119 : List RK := []
def oks130c119 : List AT := owns sig130c119
def E130c119_2 (v8 : Int) (x0 : List TyB0) (x1 : Int) (x1c : Int) : Env := [(0, PV.a (Atom.sl YA3 x0)), (1, PV.fn 119 [Atom.ptr (Ty.int .i64) x1, Atom.ptr (Ty.int .i64) x1c]), (7, PV.a (Atom.val (Value.int .i64 (↑(List.length x0) : Int)))), (8, PV.a (Atom.val (Value.int .i64 v8)))]
def L130c119_2 (v8 : Int) (x0 : List TyB0) (x1 : Int) (x1c : Int) : Heap := []
mutual
def R130c119 : Nat → List TyB0 → Int → Int → List Dyn → Prop
  | 0, _, _, _, _ => False
  | n + 1, x0, x1, x1c, ds => (R130c119_2 n (0) (x0) (x1) (x1c) ds)
def R130c119_2 : Nat → Int → List TyB0 → Int → Int → List Dyn → Prop
  | 0, _, _, _, _, _ => False
  | n + 1, v8, x0, x1, x1c, ds => (if (decide (v8 < (↑(List.length x0) : Int))) = true then ((0 ≤ v8) ∧ (v8 < (↑(List.length x0) : Int)) ∧ (if (g119_0 (List.getD x0 (Int.toNat v8) (ByteArray.empty, 0, 0, 0, 0, ())) x1 x1c) = true then (ds = [Dyn.mk (Ty.int .i64) v8]) else ((InR .i64 (v8 + 1)) ∧ (R130c119_2 n (v8 + 1) (x0) (x1) (x1c) ds)))) else (ds = [Dyn.mk (Ty.int .i64) (-1)]))
end
theorem snd130c119 : ∀ n, (∀ (x0 : List TyB0) (x1 : Int) (x1c : Int) ds, R130c119 n x0 x1 x1c ds → ∀ K q, AtV Tryz.prog 130 (PostR kds130c119 oks130c119 ds [] [] q K) 19 K q [] [.code b130c119] (entE 0 0 sig130c119 (x0, (x1, x1c, ()), ())) (entL sig130c119 (x0, (x1, x1c, ()), ()))) ∧ (∀ (v8 : Int) (x0 : List TyB0) (x1 : Int) (x1c : Int) ds, R130c119_2 n v8 x0 x1 x1c ds → ∀ K q, AtV Tryz.prog 130 (PostR kds130c119 oks130c119 ds [] [] q K) 19 K q [] (cutAt b130c119 2) (E130c119_2 v8 x0 x1 x1c) (L130c119_2 v8 x0 x1 x1c)) := by
  intro n
  induction n with
  | zero => exact ⟨fun _ _ _ _ h => by simp only [R130c119] at h, fun _ _ _ _ _ h => by simp only [R130c119_2] at h⟩
  | succ n ih =>
  obtain ⟨ih, ih2⟩ := ih
  refine ⟨?_, ?_⟩
  · intro x0 x1 x1c ds h K q
    rw [R130c119] at h
    exact AtV.go tabOk ext130c119Ok mixed false [] [] [0, 1, 7, 8] [] [] trivial (ih2 _ _ _ _ _ h K q) (by kernel_rfl)
  · intro v8 x0 x1 x1c ds h K q
    rw [R130c119_2] at h
    by_cases b0 : (decide (v8 < (↑(List.length x0) : Int))) = true
    · rw [if_pos b0] at h
      obtain ⟨s0, s1, h⟩ := h
      by_cases b1 : (g119_0 (List.getD x0 (Int.toNat v8) (ByteArray.empty, 0, 0, 0, 0, ())) x1 x1c) = true
      · rw [if_pos b1] at h
        subst h
        exact AtV.ret Tryz.func130 tabOk ext130c119Ok mixed false [] tys130c119 [true, true] (a1 b0 (a1 s0 (a1 s1 (a1 trivial (a1 b1 trivial))))) (by kernel_rfl)
      · rw [if_neg b1] at h
        replace b1 := Bool.eq_false_iff.2 b1
        obtain ⟨s2, h⟩ := h
        exact AtV.go tabOk ext130c119Ok mixed false [] [] [0, 1, 7, 8] [] [true, false] (a1 b0 (a1 s0 (a1 s1 (a1 trivial (a1 b1 (a1 s2 trivial)))))) (ih2 _ _ _ _ _ h K q) (by kernel_rfl)
    · rw [if_neg b0] at h
      replace b0 := Bool.eq_false_iff.2 b0
      subst h
      exact AtV.ret Tryz.func130 tabOk ext130c119Ok mixed false [] tys130c119 [false] (a1 b0 trivial) (by kernel_rfl)
def g130c119_0 (x0 : List TyB0) (y0 : Int) (y1 : Int) : Int := idx (x0.findIdx? (fun x => g119_0 x y0 y1))
def P130c119 (x0 : List TyB0) (y0 : Int) (y1 : Int) : Prop := True
theorem top130c119 (x0 : List TyB0) (y0 : Int) (y1 : Int) (hm : x0.length ≤ maxLen) : R130c119 (x0.length + 1 + 1) x0 y0 y1 [⟨.int .i64, g130c119_0 x0 y0 y1⟩] := by
  rw [R130c119]
  have key := loop_find x0 (ByteArray.empty, (0 : Int), (0 : Int), (0 : Int), (0 : Int), ()) (fun x => g119_0 x y0 y1) [(⟨.int .i64, -1⟩ : Dyn)] (fun k => [⟨.int .i64, k⟩]) (fun n i ds => R130c119_2 n i x0 y0 y1 ds) (fun n => ?_) (fun n i hi hok ds hr => ?_) (fun n i hi hok => ?_)
  · unfold g130c119_0
    cases h : x0.findIdx? (fun x => g119_0 x y0 y1) <;> rw [h] at key <;> exact key
  · rw [R130c119_2, if_neg (by simp)]
  · rw [R130c119_2, if_pos (by simp; omega)]
    simp only [Int.toNat_natCast]
    refine ⟨by omega, by omega, ?_⟩
    rw [if_neg (by rw [hok]; simp)]
    exact ⟨inR_up hm hi, hr⟩
  · rw [R130c119_2, if_pos (by simp; omega)]
    simp only [Int.toNat_natCast]
    refine ⟨by omega, by omega, ?_⟩
    rw [if_pos hok] <;> trivial
def S130c119 : Am.Spec := { sig := sig130c119, pre := fun ⟨x0, ⟨y0, y1, _⟩, _⟩ => P130c119 x0 y0 y1, res := fun ⟨x0, ⟨y0, y1, _⟩, _⟩ => [⟨Ty.int .i64, g130c119_0 x0 y0 y1⟩] }
theorem con130c119 : Contract Tryz.prog 130 S130c119 := contract_of Tryz.func130 hb130c119 (Nat.le_of_ble_eq_true (by kernel_rfl)) (fun ⟨x0, ⟨y0, y1, _⟩, _⟩ h hwf K q =>
  (snd130c119 _).1 x0 y0 y1 _ (top130c119 x0 y0 y1 hwf.1.1) K q)
theorem any130c119 (x0 : List TyB0) (y0 : Int) (y1 : Int) : decide (g130c119_0 x0 y0 y1 ≥ 0) = x0.any (fun x => g119_0 x y0 y1) := by
  have := findIdx_any (fun x => g119_0 x y0 y1) x0
  unfold g130c119_0
  cases h : x0.any (fun x => g119_0 x y0 y1) with
  | true => rw [h] at this; simpa using this
  | false => rw [h] at this; simpa using this
end
noncomputable section
def ext118c119 : Ext := [(130, S130c119), (119, S119)]
theorem ext118c119Ok : ExtOk Tryz.prog ext118c119 := ⟨⟨ca130, con130c119⟩, ⟨ca119, con119⟩, trivial⟩
noncomputable def b118c119 : Code := bodyOf Tryz.f118
theorem hb118c119 : Tryz.f118.body = some b118c119 := by kernel_rfl
def sig118c119 : List AT := [AT.v (Ty.sl YA3), AT.fn 119 [(true, (.int .i64)), (true, (.int .i64))]]
def tys118c119 : List Ty := [Ty.bool]
def kds118c119 : List RK := []
def oks118c119 : List AT := owns sig118c119
def P118c119 (x0 : List TyB0) (x1 : Int) (x1c : Int) : Prop := True
def g118c119_0 (x0 : List TyB0) (x1 : Int) (x1c : Int) : Bool := decide (g130c119_0 x0 x1 x1c ≥ 0)
theorem at118c119 (x0 : List TyB0) (x1 : Int) (x1c : Int) (h : P118c119 x0 x1 x1c) (K : Ctx) (q : Nat → Value) : AtV Tryz.prog 118 (PostR kds118c119 oks118c119 [⟨Ty.bool, g118c119_0 x0 x1 x1c⟩] [] [] q K) 9 K q [] [.code b118c119] (entE 0 0 sig118c119 (x0, (x1, x1c, ()), ())) (entL sig118c119 (x0, (x1, x1c, ()), ())) := by
  unfold P118c119 at h
  unfold g118c119_0
  exact AtV.ret Tryz.func118 tabOk ext118c119Ok mixed false [] tys118c119 [] (a1 trivial trivial) (by kernel_rfl)
def S118c119 : Am.Spec := { sig := sig118c119, pre := fun ⟨x0, ⟨x1, x1c, _⟩, _⟩ => P118c119 x0 x1 x1c, res := fun ⟨x0, ⟨x1, x1c, _⟩, _⟩ => [⟨Ty.bool, g118c119_0 x0 x1 x1c⟩], kds := kds118c119 }
theorem con118c119 : Contract Tryz.prog 118 S118c119 := contract_of Tryz.func118 hb118c119 (Nat.le_of_ble_eq_true (by kernel_rfl)) (fun ⟨x0, ⟨x1, x1c, _⟩, _⟩ h _ K q => at118c119 x0 x1 x1c h K q)
end
noncomputable section
def ext97 : Ext := [(115, S115), (116, S116), (117, S117), (118, S118c119)]
theorem ext97Ok : ExtOk Tryz.prog ext97 := ⟨⟨ca115, con115⟩, ⟨ca116, con116⟩, ⟨ca117, con117⟩, ⟨ca118, con118c119⟩, trivial⟩
noncomputable def b97 : Code := bodyOf Tryz.f97
theorem hb97 : Tryz.f97.body = some b97 := by kernel_rfl
def sig97 : List AT := [AT.v (Ty.sl YA3), AT.v (Ty.int .i64), AT.v (Ty.int .i64), AT.v (Ty.int .i64)]
def tys97 : List Ty := [Ty.int .i64]
def kds97 : List RK := []
def oks97 : List AT := owns sig97
def P97 (x0 : List TyB0) (x1 : Int) (x2 : Int) (x3 : Int) : Prop := True
def g97_0 (x0 : List TyB0) (x1 : Int) (x2 : Int) (x3 : Int) : Int := (if (!g115_0 x0) = true then 1 else (if (!g116_0 x3) = true then 2 else (if (!g117_0 x1) = true then 2 else (if (!g116_0 x2) = true then 2 else (if (g118c119_0 x0 x1 x2) = true then 6 else 0)))))
theorem at97 (x0 : List TyB0) (x1 : Int) (x2 : Int) (x3 : Int) (h : P97 x0 x1 x2 x3) (K : Ctx) (q : Nat → Value) : AtV Tryz.prog 97 (PostR kds97 oks97 [⟨Ty.int .i64, g97_0 x0 x1 x2 x3⟩] [] [] q K) 31 K q [] [.code b97] (entE 0 0 sig97 (x0, x1, x2, x3, ())) (entL sig97 (x0, x1, x2, x3, ())) := by
  unfold P97 at h
  unfold g97_0
  by_cases b0 : (!g115_0 x0) = true
  · try simp only [if_pos b0] at h ⊢
    exact AtV.ret Tryz.func97 tabOk ext97Ok mixed false [] tys97 [true] (a1 trivial (a1 b0 trivial)) (by kernel_rfl)
  · try simp only [if_neg b0] at h ⊢
    replace b0 := Bool.eq_false_iff.2 b0
    by_cases b1 : (!g116_0 x3) = true
    · try simp only [if_pos b1] at h ⊢
      exact AtV.ret Tryz.func97 tabOk ext97Ok mixed false [] tys97 [false, true, true, true] (a1 trivial (a1 b0 (a1 trivial (a1 b1 (a1 (rfl : true = true) (a1 (rfl : true = true) trivial)))))) (by kernel_rfl)
    · try simp only [if_neg b1] at h ⊢
      replace b1 := Bool.eq_false_iff.2 b1
      by_cases b2 : (!g117_0 x1) = true
      · try simp only [if_pos b2] at h ⊢
        exact AtV.ret Tryz.func97 tabOk ext97Ok mixed false [] tys97 [false, false, true, true] (a1 trivial (a1 b0 (a1 trivial (a1 b1 (a1 trivial (a1 b2 (a1 (rfl : true = true) trivial))))))) (by kernel_rfl)
      · try simp only [if_neg b2] at h ⊢
        replace b2 := Bool.eq_false_iff.2 b2
        by_cases b3 : (!g116_0 x2) = true
        · try simp only [if_pos b3] at h ⊢
          exact AtV.ret Tryz.func97 tabOk ext97Ok mixed false [] tys97 [false, false, false, true] (a1 trivial (a1 b0 (a1 trivial (a1 b1 (a1 trivial (a1 b2 (a1 trivial (a1 b3 trivial)))))))) (by kernel_rfl)
        · try simp only [if_neg b3] at h ⊢
          replace b3 := Bool.eq_false_iff.2 b3
          by_cases b4 : (g118c119_0 x0 x1 x2) = true
          · try simp only [if_pos b4] at h ⊢
            exact AtV.ret Tryz.func97 tabOk ext97Ok mixed false [] tys97 [false, false, false, false, true] (a1 trivial (a1 b0 (a1 trivial (a1 b1 (a1 trivial (a1 b2 (a1 trivial (a1 b3 (a1 trivial (a1 b4 trivial)))))))))) (by kernel_rfl)
          · try simp only [if_neg b4] at h ⊢
            replace b4 := Bool.eq_false_iff.2 b4
            exact AtV.ret Tryz.func97 tabOk ext97Ok mixed false [] tys97 [false, false, false, false, false] (a1 trivial (a1 b0 (a1 trivial (a1 b1 (a1 trivial (a1 b2 (a1 trivial (a1 b3 (a1 trivial (a1 b4 trivial)))))))))) (by kernel_rfl)
def S97 : Am.Spec := { sig := sig97, pre := fun ⟨x0, x1, x2, x3, _⟩ => P97 x0 x1 x2 x3, res := fun ⟨x0, x1, x2, x3, _⟩ => [⟨Ty.int .i64, g97_0 x0 x1 x2 x3⟩], kds := kds97 }
theorem con97 : Contract Tryz.prog 97 S97 := contract_of Tryz.func97 hb97 (Nat.le_of_ble_eq_true (by kernel_rfl)) (fun ⟨x0, x1, x2, x3, _⟩ h _ K q => at97 x0 x1 x2 x3 h K q)
end
noncomputable section
def ext99 : Ext := [(111, S111)]
theorem ext99Ok : ExtOk Tryz.prog ext99 := ⟨⟨ca111, con111⟩, trivial⟩
noncomputable def b99 : Code := bodyOf Tryz.f99
theorem hb99 : Tryz.f99.body = some b99 := by kernel_rfl
def sig99 : List AT := [AT.v (Ty.int .i64)]
def tys99 : List Ty := [Ty.bool]
def kds99 : List RK := []
def oks99 : List AT := owns sig99
def P99 (x0 : Int) : Prop := True
def g99_0 (x0 : Int) : Bool := g111_0 x0 0 1440
theorem at99 (x0 : Int) (h : P99 x0) (K : Ctx) (q : Nat → Value) : AtV Tryz.prog 99 (PostR kds99 oks99 [⟨Ty.bool, g99_0 x0⟩] [] [] q K) 5 K q [] [.code b99] (entE 0 0 sig99 (x0, ())) (entL sig99 (x0, ())) := by
  unfold P99 at h
  unfold g99_0
  exact AtV.ret Tryz.func99 tabOk ext99Ok mixed false [] tys99 [] (a1 trivial trivial) (by kernel_rfl)
def S99 : Am.Spec := { sig := sig99, pre := fun ⟨x0, _⟩ => P99 x0, res := fun ⟨x0, _⟩ => [⟨Ty.bool, g99_0 x0⟩], kds := kds99 }
theorem con99 : Contract Tryz.prog 99 S99 := contract_of Tryz.func99 hb99 (Nat.le_of_ble_eq_true (by kernel_rfl)) (fun ⟨x0, _⟩ h _ K q => at99 x0 h K q)
end
noncomputable section
def ext120 : Ext := [(99, S99), (111, S111)]
theorem ext120Ok : ExtOk Tryz.prog ext120 := ⟨⟨ca99, con99⟩, ⟨ca111, con111⟩, trivial⟩
noncomputable def b120 : Code := bodyOf Tryz.f120
theorem hb120 : Tryz.f120.body = some b120 := by kernel_rfl
def sig120 : List AT := [AT.v YA9]
def tys120 : List Ty := [Ty.bool]
def kds120 : List RK := []
def oks120 : List AT := owns sig120
def P120 (x0 : Int × Int × Unit) : Prop := (if (g99_0 x0.1) = true then (if (g111_0 x0.2.1 1 1440) = true then ((InR .i64 (x0.1 + x0.2.1)) ∧ True) else True) else True)
def g120_0 (x0 : Int × Int × Unit) : Bool := (if (g99_0 x0.1) = true then (if (g111_0 x0.2.1 1 1440) = true then decide (x0.1 + x0.2.1 ≤ 1440) else false) else false)
theorem at120 (x0 : Int × Int × Unit) (h : P120 x0) (K : Ctx) (q : Nat → Value) : AtV Tryz.prog 120 (PostR kds120 oks120 [⟨Ty.bool, g120_0 x0⟩] [] [] q K) 19 K q [] [.code b120] (entE 0 0 sig120 (x0, ())) (entL sig120 (x0, ())) := by
  unfold P120 at h
  unfold g120_0
  by_cases b0 : (g99_0 x0.1) = true
  · try simp only [if_pos b0] at h ⊢
    by_cases b1 : (g111_0 x0.2.1 1 1440) = true
    · try simp only [if_pos b1] at h ⊢
      obtain ⟨s0, h⟩ := h
      exact AtV.ret Tryz.func120 tabOk ext120Ok mixed false [] tys120 [true, true] (a1 trivial (a1 b0 (a1 trivial (a1 b1 (a1 s0 trivial))))) (by kernel_rfl)
    · try simp only [if_neg b1] at h ⊢
      replace b1 := Bool.eq_false_iff.2 b1
      exact AtV.ret Tryz.func120 tabOk ext120Ok mixed false [] tys120 [true, false] (a1 trivial (a1 b0 (a1 trivial (a1 b1 trivial)))) (by kernel_rfl)
  · try simp only [if_neg b0] at h ⊢
    replace b0 := Bool.eq_false_iff.2 b0
    exact AtV.ret Tryz.func120 tabOk ext120Ok mixed false [] tys120 [false, false] (a1 trivial (a1 b0 (a1 (rfl : false = false) trivial))) (by kernel_rfl)
def S120 : Am.Spec := { sig := sig120, pre := fun ⟨x0, _⟩ => P120 x0, res := fun ⟨x0, _⟩ => [⟨Ty.bool, g120_0 x0⟩], kds := kds120 }
theorem con120 : Contract Tryz.prog 120 S120 := contract_of Tryz.func120 hb120 (Nat.le_of_ble_eq_true (by kernel_rfl)) (fun ⟨x0, _⟩ h _ K q => at120 x0 h K q)
end
noncomputable section
def ext104 : Ext := []
theorem ext104Ok : ExtOk Tryz.prog ext104 := trivial
noncomputable def b104 : Code := bodyOf Tryz.f104
theorem hb104 : Tryz.f104.body = some b104 := by kernel_rfl
def sig104 : List AT := [AT.v YA9]
def tys104 : List Ty := [Ty.int .i64]
def kds104 : List RK := []
def oks104 : List AT := owns sig104
def P104 (x0 : Int × Int × Unit) : Prop := ((InR .i64 (x0.1 + x0.2.1)) ∧ True)
def g104_0 (x0 : Int × Int × Unit) : Int := x0.1 + x0.2.1
theorem at104 (x0 : Int × Int × Unit) (h : P104 x0) (K : Ctx) (q : Nat → Value) : AtV Tryz.prog 104 (PostR kds104 oks104 [⟨Ty.int .i64, g104_0 x0⟩] [] [] q K) 8 K q [] [.code b104] (entE 0 0 sig104 (x0, ())) (entL sig104 (x0, ())) := by
  unfold P104 at h
  unfold g104_0
  obtain ⟨s0, h⟩ := h
  exact AtV.ret Tryz.func104 tabOk ext104Ok mixed false [] tys104 [] (a1 s0 trivial) (by kernel_rfl)
def S104 : Am.Spec := { sig := sig104, pre := fun ⟨x0, _⟩ => P104 x0, res := fun ⟨x0, _⟩ => [⟨Ty.int .i64, g104_0 x0⟩], kds := kds104 }
theorem con104 : Contract Tryz.prog 104 S104 := contract_of Tryz.func104 hb104 (Nat.le_of_ble_eq_true (by kernel_rfl)) (fun ⟨x0, _⟩ h _ K q => at104 x0 h K q)
end
noncomputable section
def ext98 : Ext := [(120, S120), (104, S104)]
theorem ext98Ok : ExtOk Tryz.prog ext98 := ⟨⟨ca120, con120⟩, ⟨ca104, con104⟩, trivial⟩
noncomputable def b98 : Code := bodyOf Tryz.f98
theorem hb98 : Tryz.f98.body = some b98 := by kernel_rfl
def sig98 : List AT := [AT.v (Ty.sl YA9)]
def tys98 : List Ty := [Ty.bool]
def kds98 : List RK := []
def oks98 : List AT := owns sig98
def E98_2 (v7 : Int) (x0 : List TyB4) : Env := [(0, PV.a (Atom.sl YA9 x0)), (5, PV.a (Atom.sl YA9 x0)), (6, PV.a (Atom.val (Value.int .i64 (↑(List.length x0) : Int)))), (7, PV.a (Atom.val (Value.int .i64 v7)))]
def L98_2 (v7 : Int) (x0 : List TyB4) : Heap := []
mutual
def R98 : Nat → List TyB4 → List Dyn → Prop
  | 0, _, _ => False
  | n + 1, x0, ds => (R98_2 n (0) (x0) ds)
def R98_2 : Nat → Int → List TyB4 → List Dyn → Prop
  | 0, _, _, _ => False
  | n + 1, v7, x0, ds => (if (decide (v7 < (↑(List.length x0) : Int))) = true then ((0 ≤ v7) ∧ (v7 < (↑(List.length x0) : Int)) ∧ ((P120 (List.getD x0 (Int.toNat v7) (0, 0, ()))) ∧ (if (!g120_0 (List.getD x0 (Int.toNat v7) (0, 0, ()))) = true then (ds = [Dyn.mk Ty.bool false]) else (if (decide (v7 > 0)) = true then ((InR .i64 (v7 - 1)) ∧ ((0 ≤ v7 - 1) ∧ (v7 - 1 < (↑(List.length x0) : Int)) ∧ ((P104 (List.getD x0 (Int.toNat (v7 - 1)) (0, 0, ()))) ∧ (if (decide ((List.getD x0 (Int.toNat v7) (0, 0, ())).1 < g104_0 (List.getD x0 (Int.toNat (v7 - 1)) (0, 0, ())))) = true then (ds = [Dyn.mk Ty.bool false]) else ((InR .i64 (v7 + 1)) ∧ (R98_2 n (v7 + 1) (x0) ds)))))) else ((InR .i64 (v7 + 1)) ∧ (R98_2 n (v7 + 1) (x0) ds)))))) else (ds = [Dyn.mk Ty.bool (decide ((↑(List.length x0) : Int) ≤ 24))]))
end
theorem snd98 : ∀ n, (∀ (x0 : List TyB4) ds, R98 n x0 ds → ∀ K q, AtV Tryz.prog 98 (PostR kds98 oks98 ds [] [] q K) 34 K q [] [.code b98] (entE 0 0 sig98 (x0, ())) (entL sig98 (x0, ()))) ∧ (∀ (v7 : Int) (x0 : List TyB4) ds, R98_2 n v7 x0 ds → ∀ K q, AtV Tryz.prog 98 (PostR kds98 oks98 ds [] [] q K) 34 K q [] (cutAt b98 2) (E98_2 v7 x0) (L98_2 v7 x0)) := by
  intro n
  induction n with
  | zero => exact ⟨fun _ _ h => by simp only [R98] at h, fun _ _ _ h => by simp only [R98_2] at h⟩
  | succ n ih =>
  obtain ⟨ih, ih2⟩ := ih
  refine ⟨?_, ?_⟩
  · intro x0 ds h K q
    rw [R98] at h
    exact AtV.go tabOk ext98Ok mixed false [] [] [0, 5, 6, 7] [] [] trivial (ih2 _ _ _ h K q) (by kernel_rfl)
  · intro v7 x0 ds h K q
    rw [R98_2] at h
    by_cases b0 : (decide (v7 < (↑(List.length x0) : Int))) = true
    · rw [if_pos b0] at h
      obtain ⟨s0, s1, h⟩ := h
      obtain ⟨s2, h⟩ := h
      by_cases b1 : (!g120_0 (List.getD x0 (Int.toNat v7) (0, 0, ()))) = true
      · rw [if_pos b1] at h
        subst h
        exact AtV.ret Tryz.func98 tabOk ext98Ok mixed false [] tys98 [true, true, true] (a1 b0 (a1 s0 (a1 s1 (a1 s2 (a1 b1 (a1 (rfl : true = true) trivial)))))) (by kernel_rfl)
      · rw [if_neg b1] at h
        replace b1 := Bool.eq_false_iff.2 b1
        by_cases b2 : (decide (v7 > 0)) = true
        · rw [if_pos b2] at h
          obtain ⟨s3, h⟩ := h
          obtain ⟨s4, s5, h⟩ := h
          obtain ⟨s6, h⟩ := h
          by_cases b3 : (decide ((List.getD x0 (Int.toNat v7) (0, 0, ())).1 < g104_0 (List.getD x0 (Int.toNat (v7 - 1)) (0, 0, ())))) = true
          · rw [if_pos b3] at h
            subst h
            exact AtV.ret Tryz.func98 tabOk ext98Ok mixed false [] tys98 [true, false, true, true] (a1 b0 (a1 s0 (a1 s1 (a1 s2 (a1 b1 (a1 b2 (a1 s3 (a1 s4 (a1 s5 (a1 s6 (a1 b3 trivial))))))))))) (by kernel_rfl)
          · rw [if_neg b3] at h
            replace b3 := Bool.eq_false_iff.2 b3
            obtain ⟨s7, h⟩ := h
            exact AtV.go tabOk ext98Ok mixed false [] [] [0, 5, 6, 7] [] [true, false, true, false] (a1 b0 (a1 s0 (a1 s1 (a1 s2 (a1 b1 (a1 b2 (a1 s3 (a1 s4 (a1 s5 (a1 s6 (a1 b3 (a1 s7 trivial)))))))))))) (ih2 _ _ _ h K q) (by kernel_rfl)
        · rw [if_neg b2] at h
          replace b2 := Bool.eq_false_iff.2 b2
          obtain ⟨s3, h⟩ := h
          exact AtV.go tabOk ext98Ok mixed false [] [] [0, 5, 6, 7] [] [true, false, false, false] (a1 b0 (a1 s0 (a1 s1 (a1 s2 (a1 b1 (a1 b2 (a1 (rfl : false = false) (a1 s3 trivial)))))))) (ih2 _ _ _ h K q) (by kernel_rfl)
    · rw [if_neg b0] at h
      replace b0 := Bool.eq_false_iff.2 b0
      subst h
      exact AtV.ret Tryz.func98 tabOk ext98Ok mixed false [] tys98 [false] (a1 b0 trivial) (by kernel_rfl)
def one98 (x : TyB4) : Bool := g120_0 x
def ok98 (x0 : List TyB4) (i : Nat) (x : TyB4) : Bool := one98 x && (i == 0 || decide ((x0.getD (i - 1) ((0 : Int), (0 : Int), ())).1 + (x0.getD (i - 1) ((0 : Int), (0 : Int), ())).2.1 ≤ x.1))
def g98_0 (x0 : List TyB4) : Bool := allI (ok98 x0) 0 x0 && decide ((x0.length : Int) ≤ 24)
def P98 (x0 : List TyB4) : Prop := True
theorem in98 {x a b : Int} : g111_0 x a b = true ↔ a ≤ x ∧ x ≤ b := by
  unfold g111_0
  by_cases c1 : x ≥ a
  · by_cases c2 : x ≤ b
    · simp [c1, c2]
    · simp [c1, c2]
  · have : ¬ a ≤ x := c1
    simp [c1, this]
theorem one98_pre (x : TyB4) : P120 x := by
  unfold P120
  split
  · rename_i h1
    split
    · rename_i h2
      have h1 := in98.1 (show g111_0 x.1 0 1440 = true from h1)
      have h2 := in98.1 (show g111_0 x.2.1 1 1440 = true from h2)
      exact ⟨by rw [i64_iff]; omega, trivial⟩
    · trivial
  · trivial
theorem one98_b {x : TyB4} (h : one98 x = true) : (0 ≤ x.1 ∧ x.1 ≤ 1440) ∧ (1 ≤ x.2.1 ∧ x.2.1 ≤ 1440) := by
  unfold one98 g120_0 at h
  split at h
  · rename_i h0
    split at h
    · rename_i h1
      exact ⟨in98.1 h0, in98.1 h1⟩
    · cases h
  · cases h
theorem run98 (x0 : List TyB4) (hm : x0.length ≤ maxLen) : ∀ (k i : Nat), i + k = x0.length → (∀ j, j < i → one98 (x0.getD j ((0 : Int), (0 : Int), ())) = true) →
    R98_2 (k + 1) (i : Int) x0 [⟨.bool, allI (ok98 x0) i (x0.drop i) && decide ((x0.length : Int) ≤ 24)⟩] := by
  intro k
  induction k with
  | zero =>
    intro i hi _
    rw [R98_2, if_neg (by simp only [decide_eq_true_eq]; omega), drop_end _ _ (by omega)]
    rfl
  | succ k ih =>
    intro i hi hp
    have hlt : i < x0.length := by omega
    have hu := inR_up hm hlt
    have hmx : maxLen ≤ 9223372036854775807 := by decide
    rw [R98_2, if_pos (by simp only [decide_eq_true_eq]; omega), drop_get x0 i ((0 : Int), (0 : Int), ()) hlt]
    simp only [Int.toNat_natCast, allI]
    refine ⟨by omega, by omega, one98_pre _, ?_⟩
    cases h1 : one98 (x0.getD i ((0 : Int), (0 : Int), ())) with
    | false =>
      unfold one98 at h1
      rw [if_pos (by rw [h1]; rfl)]
      have : ok98 x0 i (x0.getD i ((0 : Int), (0 : Int), ())) = false := by unfold ok98 one98; rw [h1]; rfl
      rw [this]; rfl
    | true =>
      have h1' := h1
      unfold one98 at h1
      rw [if_neg (by rw [h1]; simp)]
      have hnext := ih (i + 1) (by omega) (fun j hj => by
        rcases Nat.lt_or_ge j i with h | h
        · exact hp j h
        · have : j = i := by omega
          subst this; exact h1')
      have e1 : (((i + 1 : Nat)) : Int) = (i : Int) + 1 := by omega
      rw [e1] at hnext
      by_cases h0 : (i : Int) > 0
      · rw [if_pos (by simpa using h0)]
        have hi0 : (i == 0) = false := by simp; omega
        have e : ((i : Int) - 1).toNat = i - 1 := by omega
        obtain ⟨b1, b2⟩ := one98_b (hp (i - 1) (by omega))
        have hd : InR .i64 ((i : Int) - 1) := by rw [i64_iff]; omega
        simp only [e]
        refine ⟨hd, by omega, by omega, ⟨by rw [i64_iff]; show _ ≤ (x0.getD (i - 1) ((0 : Int), (0 : Int), ())).1 + (x0.getD (i - 1) ((0 : Int), (0 : Int), ())).2.1 ∧ _; omega, trivial⟩, ?_⟩
        by_cases hc : (x0.getD (i - 1) ((0 : Int), (0 : Int), ())).1 + (x0.getD (i - 1) ((0 : Int), (0 : Int), ())).2.1 ≤ (x0.getD i ((0 : Int), (0 : Int), ())).1
        · rw [if_neg (by show ¬ decide ((x0.getD i ((0 : Int), (0 : Int), ())).1 < (x0.getD (i - 1) ((0 : Int), (0 : Int), ())).1 + (x0.getD (i - 1) ((0 : Int), (0 : Int), ())).2.1) = true; rw [decide_eq_true_eq]; omega)]
          have : ok98 x0 i (x0.getD i ((0 : Int), (0 : Int), ())) = true := by unfold ok98; rw [h1', hi0, decide_eq_true hc]; rfl
          rw [this, Bool.true_and]
          exact ⟨hu, hnext⟩
        · rw [if_pos (by show decide ((x0.getD i ((0 : Int), (0 : Int), ())).1 < (x0.getD (i - 1) ((0 : Int), (0 : Int), ())).1 + (x0.getD (i - 1) ((0 : Int), (0 : Int), ())).2.1) = true; rw [decide_eq_true_eq]; omega)]
          have : ok98 x0 i (x0.getD i ((0 : Int), (0 : Int), ())) = false := by unfold ok98; rw [hi0, decide_eq_false hc, Bool.or_false, Bool.and_false]
          rw [this, Bool.false_and, Bool.false_and]
      · rw [if_neg (by simpa using h0)]
        have hi0 : (i == 0) = true := by simp; omega
        have : ok98 x0 i (x0.getD i ((0 : Int), (0 : Int), ())) = true := by unfold ok98; rw [h1', hi0]; rfl
        rw [this, Bool.true_and]
        exact ⟨hu, hnext⟩
theorem top98 (x0 : List TyB4) (hw : x0.length ≤ maxLen) : R98 (x0.length + 1 + 1) x0 [⟨.bool, g98_0 x0⟩] := by
  rw [R98]
  exact run98 x0 hw x0.length 0 (by omega) (fun j hj => by omega)
def S98 : Am.Spec := { sig := sig98, pre := fun ⟨x0, _⟩ => P98 x0, res := fun ⟨x0, _⟩ => [⟨Ty.bool, g98_0 x0⟩] }
theorem con98 : Contract Tryz.prog 98 S98 := contract_of Tryz.func98 hb98 (Nat.le_of_ble_eq_true (by kernel_rfl)) (fun ⟨x0, _⟩ h hwf K q =>
  (snd98 _).1 x0 _ (top98 x0 hwf.1.1) K q)
end
noncomputable section
def ext131 : Ext := [(111, S111)]
theorem ext131Ok : ExtOk Tryz.prog ext131 := ⟨⟨ca111, con111⟩, trivial⟩
noncomputable def b131 : Code := bodyOf Tryz.f131
theorem hb131 : Tryz.f131.body = some b131 := by kernel_rfl
def sig131 : List AT := [AT.v (Ty.int .i64)]
def tys131 : List Ty := [Ty.bool]
def kds131 : List RK := []
def oks131 : List AT := owns sig131
def P131 (x0 : Int) : Prop := True
def g131_0 (x0 : Int) : Bool := g111_0 x0 0 1439
theorem at131 (x0 : Int) (h : P131 x0) (K : Ctx) (q : Nat → Value) : AtV Tryz.prog 131 (PostR kds131 oks131 [⟨Ty.bool, g131_0 x0⟩] [] [] q K) 5 K q [] [.code b131] (entE 0 0 sig131 (x0, ())) (entL sig131 (x0, ())) := by
  unfold P131 at h
  unfold g131_0
  exact AtV.ret Tryz.func131 tabOk ext131Ok mixed false [] tys131 [] (a1 trivial trivial) (by kernel_rfl)
def S131 : Am.Spec := { sig := sig131, pre := fun ⟨x0, _⟩ => P131 x0, res := fun ⟨x0, _⟩ => [⟨Ty.bool, g131_0 x0⟩], kds := kds131 }
theorem con131 : Contract Tryz.prog 131 S131 := contract_of Tryz.func131 hb131 (Nat.le_of_ble_eq_true (by kernel_rfl)) (fun ⟨x0, _⟩ h _ K q => at131 x0 h K q)
end
end Go.Proofs.YtkemillpgmdlgaaGreatDoor
set_option linter.unusedVariables false
set_option maxRecDepth 100000
namespace Go.Proofs
open Go.Shelf
def Tryz.laysM173_ren : Go.Shelf.Ren := ⟨fun | 173 => 101 | 246 => 123 | 283 => 134 | 284 => 135 | 285 => 136 | 286 => 137 | 129 => 143 | 317 => 142 | 318 => 144 | 319 => 145 | 320 => 146 | 337 => 151 | 338 => 152 | n => n, fun | 2 => 2 | 3 => 3 | 9 => 9 | 4 => 4 | 171 => 186 | 0 => 0 | 53 => 187 | 37 => 147 | 5 => 5 | 173 => 190 | 212 => 196 | 51 => 197 | 20 => 20 | 213 => 198 | 46 => 200 | 232 => 209 | 233 => 210 | n => n, fun | 17 => 0 | 18 => 1 | 19 => 2 | n => n⟩
theorem Tryz.laysM173 : Go.Proofs.LaysM.n173 Tryz.prog Tryz.laysM173_ren := {
  mixed := by kernel_rfl
  f129 := Tryz.func143.trans (congrArg some (by kernel_rfl))
  f173 := Tryz.func101.trans (congrArg some (by kernel_rfl))
  f246 := Tryz.func123.trans (congrArg some (by kernel_rfl))
  f283 := Tryz.func134.trans (congrArg some (by kernel_rfl))
  f284 := Tryz.func135.trans (congrArg some (by kernel_rfl))
  f285 := Tryz.func136.trans (congrArg some (by kernel_rfl))
  f286 := Tryz.func137.trans (congrArg some (by kernel_rfl))
  f317 := Tryz.func142.trans (congrArg some (by kernel_rfl))
  f318 := Tryz.func144.trans (congrArg some (by kernel_rfl))
  f319 := Tryz.func145.trans (congrArg some (by kernel_rfl))
  f320 := Tryz.func146.trans (congrArg some (by kernel_rfl))
  f337 := Tryz.func151.trans (congrArg some (by kernel_rfl))
  f338 := Tryz.func152.trans (congrArg some (by kernel_rfl))
  t0 := Tryz.underlying0
  a0 := Tryz.isAgg0
  z0 := Tryz.sizeOf0
  v0 := Tryz.zeroValue0
  t2 := Tryz.underlying2
  a2 := Tryz.isAgg2
  z2 := Tryz.sizeOf2
  v2 := Tryz.zeroValue2
  t3 := Tryz.underlying3
  a3 := Tryz.isAgg3
  z3 := Tryz.sizeOf3
  v3 := Tryz.zeroValue3
  t4 := Tryz.underlying4
  a4 := Tryz.isAgg4
  z4 := Tryz.sizeOf4
  v4 := Tryz.zeroValue4
  t5 := Tryz.underlying5
  a5 := Tryz.isAgg5
  z5 := Tryz.sizeOf5
  v5 := Tryz.zeroValue5
  t9 := Tryz.underlying9
  a9 := Tryz.isAgg9
  z9 := Tryz.sizeOf9
  v9 := Tryz.zeroValue9
  t20 := Tryz.underlying20
  a20 := Tryz.isAgg20
  z20 := Tryz.sizeOf20
  v20 := Tryz.zeroValue20
  t37 := Tryz.underlying147
  a37 := Tryz.isAgg147
  z37 := Tryz.sizeOf147
  v37 := Tryz.zeroValue147
  t46 := Tryz.underlying200
  a46 := Tryz.isAgg200
  z46 := Tryz.sizeOf200
  v46 := Tryz.zeroValue200
  t51 := Tryz.underlying197
  a51 := Tryz.isAgg197
  z51 := Tryz.sizeOf197
  v51 := Tryz.zeroValue197
  t53 := Tryz.underlying187
  a53 := Tryz.isAgg187
  z53 := Tryz.sizeOf187
  v53 := Tryz.zeroValue187
  t171 := Tryz.underlying186
  a171 := Tryz.isAgg186
  z171 := Tryz.sizeOf186
  v171 := Tryz.zeroValue186
  t173 := Tryz.underlying190
  a173 := Tryz.isAgg190
  z173 := Tryz.sizeOf190
  v173 := Tryz.zeroValue190
  t212 := Tryz.underlying196
  a212 := Tryz.isAgg196
  z212 := Tryz.sizeOf196
  v212 := Tryz.zeroValue196
  t213 := Tryz.underlying198
  a213 := Tryz.isAgg198
  z213 := Tryz.sizeOf198
  t232 := Tryz.underlying209
  a232 := Tryz.isAgg209
  z232 := Tryz.sizeOf209
  v232 := Tryz.zeroValue209
  t233 := Tryz.underlying210
  a233 := Tryz.isAgg210
  z233 := Tryz.sizeOf210
  v233 := Tryz.zeroValue210
  g17 := by kernel_rfl
  g18 := by kernel_rfl
  g19 := by kernel_rfl
  i0 := by kernel_rfl
  i2 := by kernel_rfl
  i3 := by kernel_rfl
  i4 := by kernel_rfl
  i5 := by kernel_rfl
  i9 := by kernel_rfl
  i20 := by kernel_rfl
  i37 := by kernel_rfl
  i46 := by kernel_rfl
  i51 := by kernel_rfl
  i53 := by kernel_rfl
  i171 := by kernel_rfl
  i173 := by kernel_rfl
  i212 := by kernel_rfl
  i232 := by kernel_rfl
  i233 := by kernel_rfl
  m17 := by kernel_rfl
  m18 := by kernel_rfl
  m19 := by kernel_rfl }
open Go.RowKit Go.Sort Go.Lib in theorem Tryz.strconv_FormatInt_10 (n : Int) (h0 : -9223372036854775808 ≤ n) (h1 : n ≤ 9223372036854775807) (w : World) (htab : Lib.TabIs Tryz.prog w "internal/strconv.uint64pow10" .u64 Lib.pow10Tab) :
    Calls Tryz.prog 101 #[.int .i64 n, .int .i64 10] w fun e w' => e = .returned (.string ⟨(Lib.itoa n).toArray⟩) ∧ ∃ k os, w' = grow (w.drewN k) os := Any.strconv_FormatInt_10 Tryz.laysM173 n h0 h1 w htab
def Tryz.lays146_ren : Go.Shelf.Ren := ⟨fun | 146 => 139 | 221 => 148 | 268 => 153 | 138 => 154 | 143 => 155 | 195 => 157 | 197 => 158 | 218 => 159 | 219 => 160 | 260 => 161 | 217 => 162 | 225 => 163 | 224 => 164 | 267 => 165 | 266 => 166 | 314 => 167 | n => n, fun | 9 => 9 | 31 => 123 | 3 => 3 | 4 => 4 | 0 => 0 | 105 => 212 | 21 => 21 | 5 => 5 | 46 => 200 | 119 => 215 | 139 => 218 | 138 => 217 | 146 => 219 | 51 => 197 | n => n, fun | 1 => 3 | 3 => 4 | 4 => 5 | n => n⟩
theorem Tryz.lays146 : Go.Proofs.Lays.n146 Tryz.prog Tryz.lays146_ren := {
  mixed := by kernel_rfl
  f138 := Tryz.func154.trans (congrArg some (by kernel_rfl))
  f143 := Tryz.func155.trans (congrArg some (by kernel_rfl))
  f146 := Tryz.func139.trans (congrArg some (by kernel_rfl))
  f195 := Tryz.func157.trans (congrArg some (by kernel_rfl))
  f197 := Tryz.func158.trans (congrArg some (by kernel_rfl))
  f217 := Tryz.func162.trans (congrArg some (by kernel_rfl))
  f218 := Tryz.func159.trans (congrArg some (by kernel_rfl))
  f219 := Tryz.func160.trans (congrArg some (by kernel_rfl))
  f221 := Tryz.func148.trans (congrArg some (by kernel_rfl))
  f224 := Tryz.func164.trans (congrArg some (by kernel_rfl))
  f225 := Tryz.func163.trans (congrArg some (by kernel_rfl))
  f260 := Tryz.func161.trans (congrArg some (by kernel_rfl))
  f266 := Tryz.func166.trans (congrArg some (by kernel_rfl))
  f267 := Tryz.func165.trans (congrArg some (by kernel_rfl))
  f268 := Tryz.func153.trans (congrArg some (by kernel_rfl))
  f314 := Tryz.func167.trans (congrArg some (by kernel_rfl))
  t0 := Tryz.underlying0
  a0 := Tryz.isAgg0
  z0 := Tryz.sizeOf0
  v0 := Tryz.zeroValue0
  t3 := Tryz.underlying3
  a3 := Tryz.isAgg3
  z3 := Tryz.sizeOf3
  v3 := Tryz.zeroValue3
  t4 := Tryz.underlying4
  a4 := Tryz.isAgg4
  z4 := Tryz.sizeOf4
  v4 := Tryz.zeroValue4
  t5 := Tryz.underlying5
  a5 := Tryz.isAgg5
  z5 := Tryz.sizeOf5
  v5 := Tryz.zeroValue5
  t9 := Tryz.underlying9
  a9 := Tryz.isAgg9
  z9 := Tryz.sizeOf9
  v9 := Tryz.zeroValue9
  t21 := Tryz.underlying21
  a21 := Tryz.isAgg21
  z21 := Tryz.sizeOf21
  v21 := Tryz.zeroValue21
  t31 := Tryz.underlying123
  a31 := Tryz.isAgg123
  z31 := Tryz.sizeOf123
  v31 := Tryz.zeroValue123
  t46 := Tryz.underlying200
  a46 := Tryz.isAgg200
  z46 := Tryz.sizeOf200
  v46 := Tryz.zeroValue200
  t51 := Tryz.underlying197
  a51 := Tryz.isAgg197
  z51 := Tryz.sizeOf197
  v51 := Tryz.zeroValue197
  t105 := Tryz.underlying212
  a105 := Tryz.isAgg212
  z105 := Tryz.sizeOf212
  v105 := Tryz.zeroValue212
  t119 := Tryz.underlying215
  a119 := Tryz.isAgg215
  z119 := Tryz.sizeOf215
  t138 := Tryz.underlying217
  a138 := Tryz.isAgg217
  z138 := Tryz.sizeOf217
  v138 := Tryz.zeroValue217
  t139 := Tryz.underlying218
  a139 := Tryz.isAgg218
  z139 := Tryz.sizeOf218
  v139 := Tryz.zeroValue218
  t146 := Tryz.underlying219
  a146 := Tryz.isAgg219
  z146 := Tryz.sizeOf219
  v146 := Tryz.zeroValue219
  g1 := by kernel_rfl
  g3 := by kernel_rfl
  g4 := by kernel_rfl }
open Go.RowKit Go.Lib in theorem Tryz.strings_Split (s sep : ByteArray) (m : Int) (w : World) (hs : s.size < 4294967281) (hm : w.cell? ⟨3, 0, none⟩ = some (.int .i64 m)) (h1 : 1 ≤ sep.size) :
    Calls Tryz.prog 139 #[.string s, .string sep] w fun e w' =>
      e = .returned (.slice (some ⟨w.heap.size, 0, none⟩) (Lib.countB s sep + 1) (Lib.countB s sep + 1)) ∧ w' = w.alloc (.cells ((Lib.splitB sep 0 (Lib.countB s sep) s).map Value.string).toArray 9) := Any.strings_Split Tryz.lays146 (by kernel_rfl) s sep m w hs hm h1
end Go.Proofs
set_option linter.unusedVariables false
set_option linter.unusedSimpArgs false
set_option maxRecDepth 100000
namespace Go.Proofs.YtkemillpgmdlgaaGreatDoor
open Go Go.Am Go.Proofs
def sig139 : List AT := [AT.v Ty.str, AT.v Ty.str]
def g139_0 (x0 x1 : ByteArray) : List ByteArray := Lib.splitB x1 0 (Lib.countB x0 x1) x0
def P139 (x0 x1 : ByteArray) : Prop := x0.size < 4294967281 ∧ 1 ≤ x1.size
def S139 : Am.Spec := { sig := sig139, pre := fun ⟨x0, x1, _⟩ => P139 x0 x1, res := fun ⟨x0, x1, _⟩ => [⟨Ty.sl Ty.str, g139_0 x0 x1⟩] }
theorem con139 : Contract Tryz.prog 139 S139 := by
  refine Contract0.up rfl rfl ?_
  rintro w ⟨x0, x1, u⟩ vs bss hgo hp ⟨v0, s0, b0, bs0, rfl, rfl, ⟨rfl, rfl, _⟩, v1, s1, b1, bs1, rfl, rfl, ⟨rfl, rfl, _⟩, rfl, rfl⟩ hn
  obtain ⟨hs, h1⟩ : x0.size < 4294967281 ∧ 1 ≤ x1.size := hp
  obtain ⟨m, hm⟩ := maxLenG hgo.inv
  refine (Tryz.strings_Split x0 x1 m w hs hm h1).mono ?_
  rintro e w' ⟨rfl, rfl⟩
  have hlen : (g139_0 x0 x1).length = Lib.countB x0 x1 + 1 := Lib.splitB_all x1 h1 0 _ _ rfl
  have hle := Lib.countB_le x1 h1 x0.size x0 (Nat.le_refl _)
  have hparts : ∀ y ∈ g139_0 x0 x1, y.size ≤ maxLen := fun y hy => by
    have := splitB_part x1 0 _ _ y hy
    unfold maxLen; omega
  have e1 : ∀ xs : List ByteArray, fcs .str xs = xs.map Value.string := by
    intro xs
    induction xs with
    | nil => rfl
    | cons a r ih => unfold fcs at ih ⊢; rw [List.map_cons, List.flatten_cons, ih]; rfl
  have ho : OwnC (w.alloc (.cells ((g139_0 x0 x1).map Value.string).toArray 9)) (.sl .str) (g139_0 x0 x1) [.slice (some ⟨w.heap.size, 0, none⟩) (Lib.countB x0 x1 + 1) (Lib.countB x0 x1 + 1)] [w.heap.size] :=
    own_flat_mk rfl hparts hlen.symm (Nat.le_of_eq hlen) (by unfold maxLen; omega) (by rw [List.size_toArray, List.length_map, hlen]; simp [Ty.size]) (heap_new w _) (freeS_zero _ _) (fun j u hj => by
      rw [e1] at hj
      rw [Nat.zero_add, ← Array.getElem?_toList]
      exact hj)
  refine ⟨[_], [], [[w.heap.size]], rfl, (Kept.refl _ _).alloc _, ⟨_, _, _, _, _, rfl, rfl, ho, rfl, rfl, rfl⟩, ⟨rfl, rfl⟩, by simp, fun b hb hg => ?_⟩
  simp at hb
  have := hg.1
  omega
noncomputable section
def ext150 : Ext := []
theorem ext150Ok : ExtOk Tryz.prog ext150 := trivial
noncomputable def b150 : Code := bodyOf Tryz.f150
theorem hb150 : Tryz.f150.body = some b150 := by kernel_rfl
def sig150 : List AT := [AT.v (Ty.int .u8)]
def tys150 : List Ty := [Ty.bool]
def kds150 : List RK := []
def oks150 : List AT := owns sig150
def P150 (x0 : Int) : Prop := True
def g150_0 (x0 : Int) : Bool := (if (decide (x0 < 97)) = true then (if (decide (x0 < 48)) = true then true else decide (x0 > 57)) else (if (decide (x0 > 122)) = true then (if (decide (x0 < 48)) = true then true else decide (x0 > 57)) else false))
theorem at150 (x0 : Int) (h : P150 x0) (K : Ctx) (q : Nat → Value) : AtV Tryz.prog 150 (PostR kds150 oks150 [⟨Ty.bool, g150_0 x0⟩] [] [] q K) 17 K q [] [.code b150] (entE 0 0 sig150 (x0, ())) (entL sig150 (x0, ())) := by
  unfold P150 at h
  unfold g150_0
  by_cases b0 : (decide (x0 < 97)) = true
  · try simp only [if_pos b0] at h ⊢
    by_cases b1 : (decide (x0 < 48)) = true
    · try simp only [if_pos b1] at h ⊢
      exact AtV.ret Tryz.func150 tabOk ext150Ok mixed false [] tys150 [true, true, true] (a1 b0 (a1 (rfl : true = true) (a1 b1 trivial))) (by kernel_rfl)
    · try simp only [if_neg b1] at h ⊢
      replace b1 := Bool.eq_false_iff.2 b1
      exact AtV.ret Tryz.func150 tabOk ext150Ok mixed false [] tys150 [true, true, false] (a1 b0 (a1 (rfl : true = true) (a1 b1 trivial))) (by kernel_rfl)
  · try simp only [if_neg b0] at h ⊢
    replace b0 := Bool.eq_false_iff.2 b0
    by_cases b1 : (decide (x0 > 122)) = true
    · try simp only [if_pos b1] at h ⊢
      by_cases b2 : (decide (x0 < 48)) = true
      · try simp only [if_pos b2] at h ⊢
        exact AtV.ret Tryz.func150 tabOk ext150Ok mixed false [] tys150 [false, true, true] (a1 b0 (a1 b1 (a1 b2 trivial))) (by kernel_rfl)
      · try simp only [if_neg b2] at h ⊢
        replace b2 := Bool.eq_false_iff.2 b2
        exact AtV.ret Tryz.func150 tabOk ext150Ok mixed false [] tys150 [false, true, false] (a1 b0 (a1 b1 (a1 b2 trivial))) (by kernel_rfl)
    · try simp only [if_neg b1] at h ⊢
      replace b1 := Bool.eq_false_iff.2 b1
      exact AtV.ret Tryz.func150 tabOk ext150Ok mixed false [] tys150 [false, false] (a1 b0 (a1 b1 trivial)) (by kernel_rfl)
def S150 : Am.Spec := { sig := sig150, pre := fun ⟨x0, _⟩ => P150 x0, res := fun ⟨x0, _⟩ => [⟨Ty.bool, g150_0 x0⟩], kds := kds150 }
theorem con150 : Contract Tryz.prog 150 S150 := contract_of Tryz.func150 hb150 (Nat.le_of_ble_eq_true (by kernel_rfl)) (fun ⟨x0, _⟩ h _ K q => at150 x0 h K q)
end
noncomputable section
def ext156c150 : Ext := [(150, S150)]
theorem ext156c150Ok : ExtOk Tryz.prog ext156c150 := ⟨⟨ca150, con150⟩, trivial⟩
noncomputable def b156c150 : Code := bodyOf Tryz.f156
theorem hb156c150 : Tryz.f156.body = some b156c150 := by kernel_rfl
def sig156c150 : List AT := [AT.v (Ty.sl (Ty.int .u8)), AT.fn 150 []]
def tys156c150 : List Ty := [Ty.int .i64]
def kds156c150 : List RK := []
def oks156c150 : List AT := owns sig156c150
def E156c150_2 (v8 : Int) (x0 : List Int) : Env := [(0, PV.a (Atom.sl (Ty.int .u8) x0)), (1, PV.fn 150 []), (7, PV.a (Atom.val (Value.int .i64 (↑(List.length x0) : Int)))), (8, PV.a (Atom.val (Value.int .i64 v8)))]
def L156c150_2 (v8 : Int) (x0 : List Int) : Heap := []
mutual
def R156c150 : Nat → List Int → List Dyn → Prop
  | 0, _, _ => False
  | n + 1, x0, ds => (R156c150_2 n (0) (x0) ds)
def R156c150_2 : Nat → Int → List Int → List Dyn → Prop
  | 0, _, _, _ => False
  | n + 1, v8, x0, ds => (if (decide (v8 < (↑(List.length x0) : Int))) = true then ((0 ≤ v8) ∧ (v8 < (↑(List.length x0) : Int)) ∧ (if (g150_0 (List.getD x0 (Int.toNat v8) 0)) = true then (ds = [Dyn.mk (Ty.int .i64) v8]) else ((InR .i64 (v8 + 1)) ∧ (R156c150_2 n (v8 + 1) (x0) ds)))) else (ds = [Dyn.mk (Ty.int .i64) (-1)]))
end
theorem snd156c150 : ∀ n, (∀ (x0 : List Int) ds, R156c150 n x0 ds → ∀ K q, AtV Tryz.prog 156 (PostR kds156c150 oks156c150 ds [] [] q K) 19 K q [] [.code b156c150] (entE 0 0 sig156c150 (x0, (), ())) (entL sig156c150 (x0, (), ()))) ∧ (∀ (v8 : Int) (x0 : List Int) ds, R156c150_2 n v8 x0 ds → ∀ K q, AtV Tryz.prog 156 (PostR kds156c150 oks156c150 ds [] [] q K) 19 K q [] (cutAt b156c150 2) (E156c150_2 v8 x0) (L156c150_2 v8 x0)) := by
  intro n
  induction n with
  | zero => exact ⟨fun _ _ h => by simp only [R156c150] at h, fun _ _ _ h => by simp only [R156c150_2] at h⟩
  | succ n ih =>
  obtain ⟨ih, ih2⟩ := ih
  refine ⟨?_, ?_⟩
  · intro x0 ds h K q
    rw [R156c150] at h
    exact AtV.go tabOk ext156c150Ok mixed false [] [] [0, 1, 7, 8] [] [] trivial (ih2 _ _ _ h K q) (by kernel_rfl)
  · intro v8 x0 ds h K q
    rw [R156c150_2] at h
    by_cases b0 : (decide (v8 < (↑(List.length x0) : Int))) = true
    · rw [if_pos b0] at h
      obtain ⟨s0, s1, h⟩ := h
      by_cases b1 : (g150_0 (List.getD x0 (Int.toNat v8) 0)) = true
      · rw [if_pos b1] at h
        subst h
        exact AtV.ret Tryz.func156 tabOk ext156c150Ok mixed false [] tys156c150 [true, true] (a1 b0 (a1 s0 (a1 s1 (a1 trivial (a1 b1 trivial))))) (by kernel_rfl)
      · rw [if_neg b1] at h
        replace b1 := Bool.eq_false_iff.2 b1
        obtain ⟨s2, h⟩ := h
        exact AtV.go tabOk ext156c150Ok mixed false [] [] [0, 1, 7, 8] [] [true, false] (a1 b0 (a1 s0 (a1 s1 (a1 trivial (a1 b1 (a1 s2 trivial)))))) (ih2 _ _ _ h K q) (by kernel_rfl)
    · rw [if_neg b0] at h
      replace b0 := Bool.eq_false_iff.2 b0
      subst h
      exact AtV.ret Tryz.func156 tabOk ext156c150Ok mixed false [] tys156c150 [false] (a1 b0 trivial) (by kernel_rfl)
def g156c150_0 (x0 : List (Int)) : Int := idx (x0.findIdx? g150_0)
def P156c150 (x0 : List (Int)) : Prop := True
theorem top156c150 (x0 : List (Int)) (hm : x0.length ≤ maxLen) : R156c150 (x0.length + 1 + 1) x0 [⟨.int .i64, g156c150_0 x0⟩] := by
  rw [R156c150]
  have key := loop_find x0 (0 : Int) g150_0 [(⟨.int .i64, -1⟩ : Dyn)] (fun k => [⟨.int .i64, k⟩]) (fun n i ds => R156c150_2 n i x0 ds) (fun n => ?_) (fun n i hi hok ds hr => ?_) (fun n i hi hok => ?_)
  · unfold g156c150_0
    cases h : x0.findIdx? g150_0 <;> rw [h] at key <;> exact key
  · rw [R156c150_2, if_neg (by simp)]
  · rw [R156c150_2, if_pos (by simp; omega)]
    simp only [Int.toNat_natCast]
    refine ⟨by omega, by omega, ?_⟩
    rw [if_neg (by rw [hok]; simp)]
    exact ⟨inR_up hm hi, hr⟩
  · rw [R156c150_2, if_pos (by simp; omega)]
    simp only [Int.toNat_natCast]
    refine ⟨by omega, by omega, ?_⟩
    rw [if_pos hok] <;> trivial
def S156c150 : Am.Spec := { sig := sig156c150, pre := fun ⟨x0, _⟩ => P156c150 x0, res := fun ⟨x0, _⟩ => [⟨Ty.int .i64, g156c150_0 x0⟩] }
theorem con156c150 : Contract Tryz.prog 156 S156c150 := contract_of Tryz.func156 hb156c150 (Nat.le_of_ble_eq_true (by kernel_rfl)) (fun ⟨x0, _⟩ h hwf K q =>
  (snd156c150 _).1 x0 _ (top156c150 x0 hwf.1.1) K q)
theorem any156c150 (x0 : List (Int)) : decide (g156c150_0 x0 ≥ 0) = x0.any g150_0 := by
  have := findIdx_any g150_0 x0
  unfold g156c150_0
  cases h : x0.any g150_0 with
  | true => rw [h] at this; simpa using this
  | false => rw [h] at this; simpa using this
end
noncomputable section
def ext149c150 : Ext := [(156, S156c150), (150, S150)]
theorem ext149c150Ok : ExtOk Tryz.prog ext149c150 := ⟨⟨ca156, con156c150⟩, ⟨ca150, con150⟩, trivial⟩
noncomputable def b149c150 : Code := bodyOf Tryz.f149
theorem hb149c150 : Tryz.f149.body = some b149c150 := by kernel_rfl
def sig149c150 : List AT := [AT.v (Ty.sl (Ty.int .u8)), AT.fn 150 []]
def tys149c150 : List Ty := [Ty.bool]
def kds149c150 : List RK := []
def oks149c150 : List AT := owns sig149c150
def P149c150 (x0 : List Int) : Prop := True
def g149c150_0 (x0 : List Int) : Bool := decide (g156c150_0 x0 ≥ 0)
theorem at149c150 (x0 : List Int) (h : P149c150 x0) (K : Ctx) (q : Nat → Value) : AtV Tryz.prog 149 (PostR kds149c150 oks149c150 [⟨Ty.bool, g149c150_0 x0⟩] [] [] q K) 9 K q [] [.code b149c150] (entE 0 0 sig149c150 (x0, (), ())) (entL sig149c150 (x0, (), ())) := by
  unfold P149c150 at h
  unfold g149c150_0
  exact AtV.ret Tryz.func149 tabOk ext149c150Ok mixed false [] tys149c150 [] (a1 trivial trivial) (by kernel_rfl)
def S149c150 : Am.Spec := { sig := sig149c150, pre := fun ⟨x0, _⟩ => P149c150 x0, res := fun ⟨x0, _⟩ => [⟨Ty.bool, g149c150_0 x0⟩], kds := kds149c150 }
theorem con149c150 : Contract Tryz.prog 149 S149c150 := contract_of Tryz.func149 hb149c150 (Nat.le_of_ble_eq_true (by kernel_rfl)) (fun ⟨x0, _⟩ h _ K q => at149c150 x0 h K q)
end
noncomputable section
def ext141 : Ext := [(149, S149c150)]
theorem ext141Ok : ExtOk Tryz.prog ext141 := ⟨⟨ca149, con149c150⟩, trivial⟩
noncomputable def b141 : Code := bodyOf Tryz.f141
theorem hb141 : Tryz.f141.body = some b141 := by kernel_rfl
def sig141 : List AT := [AT.v (Ty.str)]
def tys141 : List Ty := [Ty.bool]
def kds141 : List RK := []
def oks141 : List AT := owns sig141
def P141 (x0 : ByteArray) : Prop := True
def g141_0 (x0 : ByteArray) : Bool := (if (!ByteArray.toList x0 == ByteArray.toList (ByteArray.mk #[])) = true then !g149c150_0 (bytesOf x0) else false)
theorem at141 (x0 : ByteArray) (h : P141 x0) (K : Ctx) (q : Nat → Value) : AtV Tryz.prog 141 (PostR kds141 oks141 [⟨Ty.bool, g141_0 x0⟩] [] [] q K) 11 K q [] [.code b141] (entE 0 0 sig141 (x0, ())) (entL sig141 (x0, ())) := by
  unfold P141 at h
  unfold g141_0
  by_cases b0 : (!ByteArray.toList x0 == ByteArray.toList (ByteArray.mk #[])) = true
  · try simp only [if_pos b0] at h ⊢
    exact AtV.ret Tryz.func141 tabOk ext141Ok mixed false [] tys141 [true] (a1 b0 (a1 trivial trivial)) (by kernel_rfl)
  · try simp only [if_neg b0] at h ⊢
    replace b0 := Bool.eq_false_iff.2 b0
    exact AtV.ret Tryz.func141 tabOk ext141Ok mixed false [] tys141 [false] (a1 b0 trivial) (by kernel_rfl)
def S141 : Am.Spec := { sig := sig141, pre := fun ⟨x0, _⟩ => P141 x0, res := fun ⟨x0, _⟩ => [⟨Ty.bool, g141_0 x0⟩], kds := kds141 }
theorem con141 : Contract Tryz.prog 141 S141 := contract_of Tryz.func141 hb141 (Nat.le_of_ble_eq_true (by kernel_rfl)) (fun ⟨x0, _⟩ h _ K q => at141 x0 h K q)
end
noncomputable section
def ext140 : Ext := [(141, S141)]
theorem ext140Ok : ExtOk Tryz.prog ext140 := ⟨⟨ca141, con141⟩, trivial⟩
noncomputable def b140 : Code := bodyOf Tryz.f140
theorem hb140 : Tryz.f140.body = some b140 := by kernel_rfl
def sig140 : List AT := [AT.v (Ty.str)]
def tys140 : List Ty := [Ty.bool]
def kds140 : List RK := []
def oks140 : List AT := owns sig140
def P140 (x0 : ByteArray) : Prop := True
def g140_0 (x0 : ByteArray) : Bool := !g141_0 x0
theorem at140 (x0 : ByteArray) (h : P140 x0) (K : Ctx) (q : Nat → Value) : AtV Tryz.prog 140 (PostR kds140 oks140 [⟨Ty.bool, g140_0 x0⟩] [] [] q K) 6 K q [] [.code b140] (entE 0 0 sig140 (x0, ())) (entL sig140 (x0, ())) := by
  unfold P140 at h
  unfold g140_0
  exact AtV.ret Tryz.func140 tabOk ext140Ok mixed false [] tys140 [] (a1 trivial trivial) (by kernel_rfl)
def S140 : Am.Spec := { sig := sig140, pre := fun ⟨x0, _⟩ => P140 x0, res := fun ⟨x0, _⟩ => [⟨Ty.bool, g140_0 x0⟩], kds := kds140 }
theorem con140 : Contract Tryz.prog 140 S140 := contract_of Tryz.func140 hb140 (Nat.le_of_ble_eq_true (by kernel_rfl)) (fun ⟨x0, _⟩ h _ K q => at140 x0 h K q)
end
noncomputable section
def ext147c140 : Ext := [(140, S140)]
theorem ext147c140Ok : ExtOk Tryz.prog ext147c140 := ⟨⟨ca140, con140⟩, trivial⟩
noncomputable def b147c140 : Code := bodyOf Tryz.f147
theorem hb147c140 : Tryz.f147.body = some b147c140 := by kernel_rfl
def sig147c140 : List AT := [AT.v (Ty.sl Ty.str), AT.fn 140 []]
def tys147c140 : List Ty := [Ty.int .i64]
def kds147c140 : List RK := []
def oks147c140 : List AT := owns sig147c140
def E147c140_2 (v8 : Int) (x0 : List ByteArray) : Env := [(0, PV.a (Atom.sl Ty.str x0)), (1, PV.fn 140 []), (7, PV.a (Atom.val (Value.int .i64 (↑(List.length x0) : Int)))), (8, PV.a (Atom.val (Value.int .i64 v8)))]
def L147c140_2 (v8 : Int) (x0 : List ByteArray) : Heap := []
mutual
def R147c140 : Nat → List ByteArray → List Dyn → Prop
  | 0, _, _ => False
  | n + 1, x0, ds => (R147c140_2 n (0) (x0) ds)
def R147c140_2 : Nat → Int → List ByteArray → List Dyn → Prop
  | 0, _, _, _ => False
  | n + 1, v8, x0, ds => (if (decide (v8 < (↑(List.length x0) : Int))) = true then ((0 ≤ v8) ∧ (v8 < (↑(List.length x0) : Int)) ∧ (if (g140_0 (List.getD x0 (Int.toNat v8) ByteArray.empty)) = true then (ds = [Dyn.mk (Ty.int .i64) v8]) else ((InR .i64 (v8 + 1)) ∧ (R147c140_2 n (v8 + 1) (x0) ds)))) else (ds = [Dyn.mk (Ty.int .i64) (-1)]))
end
theorem snd147c140 : ∀ n, (∀ (x0 : List ByteArray) ds, R147c140 n x0 ds → ∀ K q, AtV Tryz.prog 147 (PostR kds147c140 oks147c140 ds [] [] q K) 19 K q [] [.code b147c140] (entE 0 0 sig147c140 (x0, (), ())) (entL sig147c140 (x0, (), ()))) ∧ (∀ (v8 : Int) (x0 : List ByteArray) ds, R147c140_2 n v8 x0 ds → ∀ K q, AtV Tryz.prog 147 (PostR kds147c140 oks147c140 ds [] [] q K) 19 K q [] (cutAt b147c140 2) (E147c140_2 v8 x0) (L147c140_2 v8 x0)) := by
  intro n
  induction n with
  | zero => exact ⟨fun _ _ h => by simp only [R147c140] at h, fun _ _ _ h => by simp only [R147c140_2] at h⟩
  | succ n ih =>
  obtain ⟨ih, ih2⟩ := ih
  refine ⟨?_, ?_⟩
  · intro x0 ds h K q
    rw [R147c140] at h
    exact AtV.go tabOk ext147c140Ok mixed false [] [] [0, 1, 7, 8] [] [] trivial (ih2 _ _ _ h K q) (by kernel_rfl)
  · intro v8 x0 ds h K q
    rw [R147c140_2] at h
    by_cases b0 : (decide (v8 < (↑(List.length x0) : Int))) = true
    · rw [if_pos b0] at h
      obtain ⟨s0, s1, h⟩ := h
      by_cases b1 : (g140_0 (List.getD x0 (Int.toNat v8) ByteArray.empty)) = true
      · rw [if_pos b1] at h
        subst h
        exact AtV.ret Tryz.func147 tabOk ext147c140Ok mixed false [] tys147c140 [true, true] (a1 b0 (a1 s0 (a1 s1 (a1 trivial (a1 b1 trivial))))) (by kernel_rfl)
      · rw [if_neg b1] at h
        replace b1 := Bool.eq_false_iff.2 b1
        obtain ⟨s2, h⟩ := h
        exact AtV.go tabOk ext147c140Ok mixed false [] [] [0, 1, 7, 8] [] [true, false] (a1 b0 (a1 s0 (a1 s1 (a1 trivial (a1 b1 (a1 s2 trivial)))))) (ih2 _ _ _ h K q) (by kernel_rfl)
    · rw [if_neg b0] at h
      replace b0 := Bool.eq_false_iff.2 b0
      subst h
      exact AtV.ret Tryz.func147 tabOk ext147c140Ok mixed false [] tys147c140 [false] (a1 b0 trivial) (by kernel_rfl)
def g147c140_0 (x0 : List (ByteArray)) : Int := idx (x0.findIdx? g140_0)
def P147c140 (x0 : List (ByteArray)) : Prop := True
theorem top147c140 (x0 : List (ByteArray)) (hm : x0.length ≤ maxLen) : R147c140 (x0.length + 1 + 1) x0 [⟨.int .i64, g147c140_0 x0⟩] := by
  rw [R147c140]
  have key := loop_find x0 ByteArray.empty g140_0 [(⟨.int .i64, -1⟩ : Dyn)] (fun k => [⟨.int .i64, k⟩]) (fun n i ds => R147c140_2 n i x0 ds) (fun n => ?_) (fun n i hi hok ds hr => ?_) (fun n i hi hok => ?_)
  · unfold g147c140_0
    cases h : x0.findIdx? g140_0 <;> rw [h] at key <;> exact key
  · rw [R147c140_2, if_neg (by simp)]
  · rw [R147c140_2, if_pos (by simp; omega)]
    simp only [Int.toNat_natCast]
    refine ⟨by omega, by omega, ?_⟩
    rw [if_neg (by rw [hok]; simp)]
    exact ⟨inR_up hm hi, hr⟩
  · rw [R147c140_2, if_pos (by simp; omega)]
    simp only [Int.toNat_natCast]
    refine ⟨by omega, by omega, ?_⟩
    rw [if_pos hok] <;> trivial
def S147c140 : Am.Spec := { sig := sig147c140, pre := fun ⟨x0, _⟩ => P147c140 x0, res := fun ⟨x0, _⟩ => [⟨Ty.int .i64, g147c140_0 x0⟩] }
theorem con147c140 : Contract Tryz.prog 147 S147c140 := contract_of Tryz.func147 hb147c140 (Nat.le_of_ble_eq_true (by kernel_rfl)) (fun ⟨x0, _⟩ h hwf K q =>
  (snd147c140 _).1 x0 _ (top147c140 x0 hwf.1.1) K q)
theorem any147c140 (x0 : List (ByteArray)) : decide (g147c140_0 x0 ≥ 0) = x0.any g140_0 := by
  have := findIdx_any g140_0 x0
  unfold g147c140_0
  cases h : x0.any g140_0 with
  | true => rw [h] at this; simpa using this
  | false => rw [h] at this; simpa using this
end
noncomputable section
def ext138c140 : Ext := [(147, S147c140), (140, S140)]
theorem ext138c140Ok : ExtOk Tryz.prog ext138c140 := ⟨⟨ca147, con147c140⟩, ⟨ca140, con140⟩, trivial⟩
noncomputable def b138c140 : Code := bodyOf Tryz.f138
theorem hb138c140 : Tryz.f138.body = some b138c140 := by kernel_rfl
def sig138c140 : List AT := [AT.v (Ty.sl Ty.str), AT.fn 140 []]
def tys138c140 : List Ty := [Ty.bool]
def kds138c140 : List RK := []
def oks138c140 : List AT := owns sig138c140
def P138c140 (x0 : List ByteArray) : Prop := True
def g138c140_0 (x0 : List ByteArray) : Bool := decide (g147c140_0 x0 ≥ 0)
theorem at138c140 (x0 : List ByteArray) (h : P138c140 x0) (K : Ctx) (q : Nat → Value) : AtV Tryz.prog 138 (PostR kds138c140 oks138c140 [⟨Ty.bool, g138c140_0 x0⟩] [] [] q K) 9 K q [] [.code b138c140] (entE 0 0 sig138c140 (x0, (), ())) (entL sig138c140 (x0, (), ())) := by
  unfold P138c140 at h
  unfold g138c140_0
  exact AtV.ret Tryz.func138 tabOk ext138c140Ok mixed false [] tys138c140 [] (a1 trivial trivial) (by kernel_rfl)
def S138c140 : Am.Spec := { sig := sig138c140, pre := fun ⟨x0, _⟩ => P138c140 x0, res := fun ⟨x0, _⟩ => [⟨Ty.bool, g138c140_0 x0⟩], kds := kds138c140 }
theorem con138c140 : Contract Tryz.prog 138 S138c140 := contract_of Tryz.func138 hb138c140 (Nat.le_of_ble_eq_true (by kernel_rfl)) (fun ⟨x0, _⟩ h _ K q => at138c140 x0 h K q)
end
noncomputable section
def ext132 : Ext := [(139, S139), (138, S138c140)]
theorem ext132Ok : ExtOk Tryz.prog ext132 := ⟨⟨ca139, con139⟩, ⟨ca138, con138c140⟩, trivial⟩
noncomputable def b132 : Code := bodyOf Tryz.f132
theorem hb132 : Tryz.f132.body = some b132 := by kernel_rfl
def sig132 : List AT := [AT.v (Ty.str)]
def tys132 : List Ty := [Ty.bool]
def kds132 : List RK := []
def oks132 : List AT := owns sig132
def P132 (x0 : ByteArray) : Prop := (if (decide ((↑(ByteArray.size x0) : Int) ≤ 40)) = true then ((P139 x0 (ByteArray.mk #[32])) ∧ True) else True)
def g132_0 (x0 : ByteArray) : Bool := (if (decide ((↑(ByteArray.size x0) : Int) ≤ 40)) = true then !g138c140_0 (g139_0 x0 (ByteArray.mk #[32])) else false)
theorem at132 (x0 : ByteArray) (h : P132 x0) (K : Ctx) (q : Nat → Value) : AtV Tryz.prog 132 (PostR kds132 oks132 [⟨Ty.bool, g132_0 x0⟩] [] [] q K) 12 K q [] [.code b132] (entE 0 0 sig132 (x0, ())) (entL sig132 (x0, ())) := by
  unfold P132 at h
  unfold g132_0
  by_cases b0 : (decide ((↑(ByteArray.size x0) : Int) ≤ 40)) = true
  · try simp only [if_pos b0] at h ⊢
    obtain ⟨s0, h⟩ := h
    exact AtV.ret Tryz.func132 tabOk ext132Ok mixed false [] tys132 [true] (a1 b0 (a1 s0 (a1 trivial trivial))) (by kernel_rfl)
  · try simp only [if_neg b0] at h ⊢
    replace b0 := Bool.eq_false_iff.2 b0
    exact AtV.ret Tryz.func132 tabOk ext132Ok mixed false [] tys132 [false] (a1 b0 trivial) (by kernel_rfl)
def S132 : Am.Spec := { sig := sig132, pre := fun ⟨x0, _⟩ => P132 x0, res := fun ⟨x0, _⟩ => [⟨Ty.bool, g132_0 x0⟩], kds := kds132 }
theorem con132 : Contract Tryz.prog 132 S132 := contract_of Tryz.func132 hb132 (Nat.le_of_ble_eq_true (by kernel_rfl)) (fun ⟨x0, _⟩ h _ K q => at132 x0 h K q)
end
noncomputable section
def ext133 : Ext := [(111, S111)]
theorem ext133Ok : ExtOk Tryz.prog ext133 := ⟨⟨ca111, con111⟩, trivial⟩
noncomputable def b133 : Code := bodyOf Tryz.f133
theorem hb133 : Tryz.f133.body = some b133 := by kernel_rfl
def sig133 : List AT := [AT.v (Ty.int .i64)]
def tys133 : List Ty := [Ty.bool]
def kds133 : List RK := []
def oks133 : List AT := owns sig133
def P133 (x0 : Int) : Prop := True
def g133_0 (x0 : Int) : Bool := g111_0 x0 0 65535
theorem at133 (x0 : Int) (h : P133 x0) (K : Ctx) (q : Nat → Value) : AtV Tryz.prog 133 (PostR kds133 oks133 [⟨Ty.bool, g133_0 x0⟩] [] [] q K) 5 K q [] [.code b133] (entE 0 0 sig133 (x0, ())) (entL sig133 (x0, ())) := by
  unfold P133 at h
  unfold g133_0
  exact AtV.ret Tryz.func133 tabOk ext133Ok mixed false [] tys133 [] (a1 trivial trivial) (by kernel_rfl)
def S133 : Am.Spec := { sig := sig133, pre := fun ⟨x0, _⟩ => P133 x0, res := fun ⟨x0, _⟩ => [⟨Ty.bool, g133_0 x0⟩], kds := kds133 }
theorem con133 : Contract Tryz.prog 133 S133 := contract_of Tryz.func133 hb133 (Nat.le_of_ble_eq_true (by kernel_rfl)) (fun ⟨x0, _⟩ h _ K q => at133 x0 h K q)
end
noncomputable section
def ext121 : Ext := [(117, S117), (131, S131), (132, S132), (133, S133)]
theorem ext121Ok : ExtOk Tryz.prog ext121 := ⟨⟨ca117, con117⟩, ⟨ca131, con131⟩, ⟨ca132, con132⟩, ⟨ca133, con133⟩, trivial⟩
noncomputable def b121 : Code := bodyOf Tryz.f121
theorem hb121 : Tryz.f121.body = some b121 := by kernel_rfl
def sig121 : List AT := [AT.v YA6]
def tys121 : List Ty := [Ty.bool]
def kds121 : List RK := []
def oks121 : List AT := owns sig121
def P121 (x0 : Int × Int × ByteArray × Int × Unit) : Prop := (if (g117_0 x0.1) = true then (if (g131_0 x0.2.1) = true then ((P132 x0.2.2.1) ∧ True) else True) else True)
def g121_0 (x0 : Int × Int × ByteArray × Int × Unit) : Bool := (if (g117_0 x0.1) = true then (if (g131_0 x0.2.1) = true then (if (g132_0 x0.2.2.1) = true then g133_0 x0.2.2.2.1 else false) else false) else false)
theorem at121 (x0 : Int × Int × ByteArray × Int × Unit) (h : P121 x0) (K : Ctx) (q : Nat → Value) : AtV Tryz.prog 121 (PostR kds121 oks121 [⟨Ty.bool, g121_0 x0⟩] [] [] q K) 21 K q [] [.code b121] (entE 0 0 sig121 (x0, ())) (entL sig121 (x0, ())) := by
  unfold P121 at h
  unfold g121_0
  by_cases b0 : (g117_0 x0.1) = true
  · try simp only [if_pos b0] at h ⊢
    by_cases b1 : (g131_0 x0.2.1) = true
    · try simp only [if_pos b1] at h ⊢
      obtain ⟨s0, h⟩ := h
      by_cases b2 : (g132_0 x0.2.2.1) = true
      · try simp only [if_pos b2] at h ⊢
        exact AtV.ret Tryz.func121 tabOk ext121Ok mixed false [] tys121 [true, true, true] (a1 trivial (a1 b0 (a1 trivial (a1 b1 (a1 s0 (a1 b2 (a1 trivial trivial))))))) (by kernel_rfl)
      · try simp only [if_neg b2] at h ⊢
        replace b2 := Bool.eq_false_iff.2 b2
        exact AtV.ret Tryz.func121 tabOk ext121Ok mixed false [] tys121 [true, true, false] (a1 trivial (a1 b0 (a1 trivial (a1 b1 (a1 s0 (a1 b2 trivial)))))) (by kernel_rfl)
    · try simp only [if_neg b1] at h ⊢
      replace b1 := Bool.eq_false_iff.2 b1
      exact AtV.ret Tryz.func121 tabOk ext121Ok mixed false [] tys121 [true, false, false] (a1 trivial (a1 b0 (a1 trivial (a1 b1 (a1 (rfl : false = false) trivial))))) (by kernel_rfl)
  · try simp only [if_neg b0] at h ⊢
    replace b0 := Bool.eq_false_iff.2 b0
    exact AtV.ret Tryz.func121 tabOk ext121Ok mixed false [] tys121 [false, false, false] (a1 trivial (a1 b0 (a1 (rfl : false = false) (a1 (rfl : false = false) trivial)))) (by kernel_rfl)
def S121 : Am.Spec := { sig := sig121, pre := fun ⟨x0, _⟩ => P121 x0, res := fun ⟨x0, _⟩ => [⟨Ty.bool, g121_0 x0⟩], kds := kds121 }
theorem con121 : Contract Tryz.prog 121 S121 := contract_of Tryz.func121 hb121 (Nat.le_of_ble_eq_true (by kernel_rfl)) (fun ⟨x0, _⟩ h _ K q => at121 x0 h K q)
end
noncomputable section
def ext122 : Ext := []
theorem ext122Ok : ExtOk Tryz.prog ext122 := trivial
noncomputable def b122 : Code := bodyOf Tryz.f122
theorem hb122 : Tryz.f122.body = some b122 := by kernel_rfl
def sig122 : List AT := [AT.v YA6, AT.v YA6]
def tys122 : List Ty := [Ty.bool]
def kds122 : List RK := []
def oks122 : List AT := owns sig122
def P122 (x0 : Int × Int × ByteArray × Int × Unit) (x1 : Int × Int × ByteArray × Int × Unit) : Prop := True
def g122_0 (x0 : Int × Int × ByteArray × Int × Unit) (x1 : Int × Int × ByteArray × Int × Unit) : Bool := (if (decide (x0.1 > x1.1)) = true then true else (if (x0.1 == x1.1) = true then decide (x0.2.1 > x1.2.1) else false))
theorem at122 (x0 : Int × Int × ByteArray × Int × Unit) (x1 : Int × Int × ByteArray × Int × Unit) (h : P122 x0 x1) (K : Ctx) (q : Nat → Value) : AtV Tryz.prog 122 (PostR kds122 oks122 [⟨Ty.bool, g122_0 x0 x1⟩] [] [] q K) 24 K q [] [.code b122] (entE 0 0 sig122 (x0, x1, ())) (entL sig122 (x0, x1, ())) := by
  unfold P122 at h
  unfold g122_0
  by_cases b0 : (decide (x0.1 > x1.1)) = true
  · try simp only [if_pos b0] at h ⊢
    exact AtV.ret Tryz.func122 tabOk ext122Ok mixed false [] tys122 [true] (a1 b0 trivial) (by kernel_rfl)
  · try simp only [if_neg b0] at h ⊢
    replace b0 := Bool.eq_false_iff.2 b0
    by_cases b1 : (x0.1 == x1.1) = true
    · try simp only [if_pos b1] at h ⊢
      exact AtV.ret Tryz.func122 tabOk ext122Ok mixed false [] tys122 [false, true] (a1 b0 (a1 b1 trivial)) (by kernel_rfl)
    · try simp only [if_neg b1] at h ⊢
      replace b1 := Bool.eq_false_iff.2 b1
      exact AtV.ret Tryz.func122 tabOk ext122Ok mixed false [] tys122 [false, false] (a1 b0 (a1 b1 trivial)) (by kernel_rfl)
def S122 : Am.Spec := { sig := sig122, pre := fun ⟨x0, x1, _⟩ => P122 x0 x1, res := fun ⟨x0, x1, _⟩ => [⟨Ty.bool, g122_0 x0 x1⟩], kds := kds122 }
theorem con122 : Contract Tryz.prog 122 S122 := contract_of Tryz.func122 hb122 (Nat.le_of_ble_eq_true (by kernel_rfl)) (fun ⟨x0, x1, _⟩ h _ K q => at122 x0 x1 h K q)
end
noncomputable section
def ext100 : Ext := [(121, S121), (122, S122)]
theorem ext100Ok : ExtOk Tryz.prog ext100 := ⟨⟨ca121, con121⟩, ⟨ca122, con122⟩, trivial⟩
noncomputable def b100 : Code := bodyOf Tryz.f100
theorem hb100 : Tryz.f100.body = some b100 := by kernel_rfl
def sig100 : List AT := [AT.v (Ty.sl YA6)]
def tys100 : List Ty := [Ty.bool]
def kds100 : List RK := []
def oks100 : List AT := owns sig100
def E100_2 (v7 : Int) (x0 : List TyB2) : Env := [(0, PV.a (Atom.sl YA6 x0)), (5, PV.a (Atom.sl YA6 x0)), (6, PV.a (Atom.val (Value.int .i64 (↑(List.length x0) : Int)))), (7, PV.a (Atom.val (Value.int .i64 v7)))]
def L100_2 (v7 : Int) (x0 : List TyB2) : Heap := []
mutual
def R100 : Nat → List TyB2 → List Dyn → Prop
  | 0, _, _ => False
  | n + 1, x0, ds => (R100_2 n (0) (x0) ds)
def R100_2 : Nat → Int → List TyB2 → List Dyn → Prop
  | 0, _, _, _ => False
  | n + 1, v7, x0, ds => (if (decide (v7 < (↑(List.length x0) : Int))) = true then ((0 ≤ v7) ∧ (v7 < (↑(List.length x0) : Int)) ∧ ((P121 (List.getD x0 (Int.toNat v7) (0, 0, ByteArray.empty, 0, ()))) ∧ (if (!g121_0 (List.getD x0 (Int.toNat v7) (0, 0, ByteArray.empty, 0, ()))) = true then (ds = [Dyn.mk Ty.bool false]) else (if (decide (v7 > 0)) = true then ((InR .i64 (v7 - 1)) ∧ ((0 ≤ v7 - 1) ∧ (v7 - 1 < (↑(List.length x0) : Int)) ∧ (if (g122_0 (List.getD x0 (Int.toNat (v7 - 1)) (0, 0, ByteArray.empty, 0, ())) (List.getD x0 (Int.toNat v7) (0, 0, ByteArray.empty, 0, ()))) = true then (ds = [Dyn.mk Ty.bool false]) else ((InR .i64 (v7 + 1)) ∧ (R100_2 n (v7 + 1) (x0) ds))))) else ((InR .i64 (v7 + 1)) ∧ (R100_2 n (v7 + 1) (x0) ds)))))) else (ds = [Dyn.mk Ty.bool (decide ((↑(List.length x0) : Int) ≤ 40))]))
end
theorem snd100 : ∀ n, (∀ (x0 : List TyB2) ds, R100 n x0 ds → ∀ K q, AtV Tryz.prog 100 (PostR kds100 oks100 ds [] [] q K) 32 K q [] [.code b100] (entE 0 0 sig100 (x0, ())) (entL sig100 (x0, ()))) ∧ (∀ (v7 : Int) (x0 : List TyB2) ds, R100_2 n v7 x0 ds → ∀ K q, AtV Tryz.prog 100 (PostR kds100 oks100 ds [] [] q K) 32 K q [] (cutAt b100 2) (E100_2 v7 x0) (L100_2 v7 x0)) := by
  intro n
  induction n with
  | zero => exact ⟨fun _ _ h => by simp only [R100] at h, fun _ _ _ h => by simp only [R100_2] at h⟩
  | succ n ih =>
  obtain ⟨ih, ih2⟩ := ih
  refine ⟨?_, ?_⟩
  · intro x0 ds h K q
    rw [R100] at h
    exact AtV.go tabOk ext100Ok mixed false [] [] [0, 5, 6, 7] [] [] trivial (ih2 _ _ _ h K q) (by kernel_rfl)
  · intro v7 x0 ds h K q
    rw [R100_2] at h
    by_cases b0 : (decide (v7 < (↑(List.length x0) : Int))) = true
    · rw [if_pos b0] at h
      obtain ⟨s0, s1, h⟩ := h
      obtain ⟨s2, h⟩ := h
      by_cases b1 : (!g121_0 (List.getD x0 (Int.toNat v7) (0, 0, ByteArray.empty, 0, ()))) = true
      · rw [if_pos b1] at h
        subst h
        exact AtV.ret Tryz.func100 tabOk ext100Ok mixed false [] tys100 [true, true, true] (a1 b0 (a1 s0 (a1 s1 (a1 s2 (a1 b1 (a1 (rfl : true = true) trivial)))))) (by kernel_rfl)
      · rw [if_neg b1] at h
        replace b1 := Bool.eq_false_iff.2 b1
        by_cases b2 : (decide (v7 > 0)) = true
        · rw [if_pos b2] at h
          obtain ⟨s3, h⟩ := h
          obtain ⟨s4, s5, h⟩ := h
          by_cases b3 : (g122_0 (List.getD x0 (Int.toNat (v7 - 1)) (0, 0, ByteArray.empty, 0, ())) (List.getD x0 (Int.toNat v7) (0, 0, ByteArray.empty, 0, ()))) = true
          · rw [if_pos b3] at h
            subst h
            exact AtV.ret Tryz.func100 tabOk ext100Ok mixed false [] tys100 [true, false, true, true] (a1 b0 (a1 s0 (a1 s1 (a1 s2 (a1 b1 (a1 b2 (a1 s3 (a1 s4 (a1 s5 (a1 trivial (a1 b3 trivial))))))))))) (by kernel_rfl)
          · rw [if_neg b3] at h
            replace b3 := Bool.eq_false_iff.2 b3
            obtain ⟨s6, h⟩ := h
            exact AtV.go tabOk ext100Ok mixed false [] [] [0, 5, 6, 7] [] [true, false, true, false] (a1 b0 (a1 s0 (a1 s1 (a1 s2 (a1 b1 (a1 b2 (a1 s3 (a1 s4 (a1 s5 (a1 trivial (a1 b3 (a1 s6 trivial)))))))))))) (ih2 _ _ _ h K q) (by kernel_rfl)
        · rw [if_neg b2] at h
          replace b2 := Bool.eq_false_iff.2 b2
          obtain ⟨s3, h⟩ := h
          exact AtV.go tabOk ext100Ok mixed false [] [] [0, 5, 6, 7] [] [true, false, false, false] (a1 b0 (a1 s0 (a1 s1 (a1 s2 (a1 b1 (a1 b2 (a1 (rfl : false = false) (a1 s3 trivial)))))))) (ih2 _ _ _ h K q) (by kernel_rfl)
    · rw [if_neg b0] at h
      replace b0 := Bool.eq_false_iff.2 b0
      subst h
      exact AtV.ret Tryz.func100 tabOk ext100Ok mixed false [] tys100 [false] (a1 b0 trivial) (by kernel_rfl)
def ok100 (x0 : List TyB2) (i : Nat) (x : TyB2) : Bool := g121_0 x && (i == 0 || !g122_0 (x0.getD (i - 1) ((0 : Int), (0 : Int), ByteArray.empty, (0 : Int), ())) x)
def g100_0 (x0 : List TyB2) : Bool := allI (ok100 x0) 0 x0 && decide ((x0.length : Int) ≤ 40)
def P100 (x0 : List TyB2) : Prop := True
theorem one100_pre (x : TyB2) : P121 x := by
  unfold P121
  split
  · split
    · refine ⟨?_, trivial⟩
      unfold P132
      split
      · rename_i h
        have h : (x.2.2.1.size : Int) ≤ 40 := by simpa using h
        have h' : x.2.2.1.size ≤ 281474976710656 := by omega
        repeat' (first | apply And.intro | exact trivial | split)
        all_goals (first | omega | decide | trivial)
      · trivial
    · trivial
  · trivial
theorem step100 (n i : Nat) (x0 : List TyB2) (hm : x0.length ≤ maxLen) (hi : i < x0.length) (ds : List Dyn)
    (h : if ok100 x0 i (x0.getD i ((0 : Int), (0 : Int), ByteArray.empty, (0 : Int), ())) = true then R100_2 n ((i : Int) + 1) x0 ds else ds = [⟨.bool, false⟩]) : R100_2 (n + 1) (i : Int) x0 ds := by
  have hu := inR_up hm hi
  have hmx : maxLen ≤ 9223372036854775807 := by decide
  rw [R100_2, if_pos (by simp only [decide_eq_true_eq]; omega)]
  simp only [Int.toNat_natCast]
  refine ⟨by omega, by omega, one100_pre _, ?_⟩
  unfold ok100 at h
  by_cases hv : g121_0 (x0.getD i ((0 : Int), (0 : Int), ByteArray.empty, (0 : Int), ())) = true
  case neg => rw [Bool.eq_false_iff.2 hv] at h; rw [if_pos (by rw [Bool.eq_false_iff.2 hv]; rfl)]; simpa using h
  rw [if_neg (by rw [hv]; simp)]
  rw [hv] at h
  by_cases h0 : (i : Int) > 0
  case neg =>
    rw [if_neg (by simpa using h0)]
    have hi0 : (i == 0) = true := by simp; omega
    rw [hi0] at h
    exact ⟨hu, by simpa using h⟩
  rw [if_pos (by simpa using h0)]
  have hi0 : (i == 0) = false := by simp; omega
  have e : ((i : Int) - 1).toNat = i - 1 := by omega
  have hd : InR .i64 ((i : Int) - 1) := by rw [i64_iff]; omega
  rw [hi0] at h
  simp only [e]
  refine ⟨hd, by omega, by omega, ?_⟩
  by_cases c0 : g122_0 (x0.getD (i - 1) ((0 : Int), (0 : Int), ByteArray.empty, (0 : Int), ())) (x0.getD i ((0 : Int), (0 : Int), ByteArray.empty, (0 : Int), ())) = true
  · rw [if_pos c0]
    rw [c0] at h
    simpa using h
  · rw [if_neg c0]
    rw [Bool.eq_false_iff.2 c0] at h
    exact ⟨hu, by simpa using h⟩
theorem top100 (x0 : List TyB2) (hw : x0.length ≤ maxLen) : R100 (x0.length + 1 + 1) x0 [⟨.bool, g100_0 x0⟩] := by
  rw [R100]
  have key := loop_testI x0 ((0 : Int), (0 : Int), ByteArray.empty, (0 : Int), ()) (ok100 x0) [(⟨.bool, false⟩ : Dyn)] [⟨.bool, decide ((x0.length : Int) ≤ 40)⟩] (fun n i ds => R100_2 n i x0 ds) (fun n => ?_) (fun n i hi hok ds hr => ?_) (fun n i hi hok => ?_)
  · unfold g100_0
    cases h : allI (ok100 x0) 0 x0 with
    | true => rw [if_pos h] at key; simpa using key
    | false => rw [if_neg (by rw [h]; simp)] at key; simpa using key
  · rw [R100_2, if_neg (by simp)]
  · exact step100 n i x0 hw hi ds (by rw [if_pos hok]; exact hr)
  · exact step100 n i x0 hw hi _ (by rw [if_neg (by rw [hok]; simp)])
def S100 : Am.Spec := { sig := sig100, pre := fun ⟨x0, _⟩ => P100 x0, res := fun ⟨x0, _⟩ => [⟨Ty.bool, g100_0 x0⟩] }
theorem con100 : Contract Tryz.prog 100 S100 := contract_of Tryz.func100 hb100 (Nat.le_of_ble_eq_true (by kernel_rfl)) (fun ⟨x0, _⟩ h hwf K q =>
  (snd100 _).1 x0 _ (top100 x0 hwf.1.1) K q)
end
noncomputable section
def ext67 : Ext := [(91, S91), (92, S92), (93, S93), (94, S94), (95, S95), (96, S96), (97, S97), (98, S98), (99, S99), (100, S100)]
theorem ext67Ok : ExtOk Tryz.prog ext67 := ⟨⟨ca91, con91⟩, ⟨ca92, con92⟩, ⟨ca93, con93⟩, ⟨ca94, con94⟩, ⟨ca95, con95⟩, ⟨ca96, con96⟩, ⟨ca97, con97⟩, ⟨ca98, con98⟩, ⟨ca99, con99⟩, ⟨ca100, con100⟩, trivial⟩
noncomputable def b67 : Code := bodyOf Tryz.f67
theorem hb67 : Tryz.f67.body = some b67 := by kernel_rfl
def sig67 : List AT := [AT.v YA0]
def tys67 : List Ty := [Ty.bool]
def kds67 : List RK := []
def oks67 : List AT := owns sig67
def P67 (x0 : TyA0) : Prop := True
def g67_0 (x0 : TyA0) : Bool := (if (g91_0 x0.1) = true then (if (g92_0 x0.2.1) = true then (if (g93_0 x0.2.2.1) = true then (if (g95_0 x0.2.2.2.2.1) = true then (if (g96_0 x0.2.2.2.2.2.1) = true then (if (g94_0 x0.2.2.2.1) = true then (if (g97_0 x0.2.2.2.2.2.2.1 x0.2.2.2.2.2.2.2.1 x0.2.2.2.2.2.2.2.2.1 0 == 0) = true then (if (g98_0 x0.2.2.2.2.2.2.2.2.2.1) = true then (if (g99_0 x0.2.2.2.2.2.2.2.2.2.2.1) = true then g100_0 x0.2.2.2.2.2.2.2.2.2.2.2.1 else false) else false) else false) else false) else (if (g94_0 x0.2.2.2.1) = true then false else false)) else (if (g94_0 x0.2.2.2.1) = true then false else false)) else (if (g95_0 x0.2.2.2.2.1) = true then (if (g96_0 x0.2.2.2.2.2.1) = true then false else false) else false)) else (if (g95_0 x0.2.2.2.2.1) = true then (if (g96_0 x0.2.2.2.2.2.1) = true then false else false) else false)) else (if (g95_0 x0.2.2.2.2.1) = true then (if (g96_0 x0.2.2.2.2.2.1) = true then false else false) else false))
theorem at67 (x0 : TyA0) (h : P67 x0) (K : Ctx) (q : Nat → Value) : AtV Tryz.prog 67 (PostR kds67 oks67 [⟨Ty.bool, g67_0 x0⟩] [] [] q K) 60 K q [] [.code b67] (entE 0 0 sig67 (x0, ())) (entL sig67 (x0, ())) := by
  unfold P67 at h
  unfold g67_0
  by_cases b0 : (g91_0 x0.1) = true
  · try simp only [if_pos b0] at h ⊢
    by_cases b1 : (g92_0 x0.2.1) = true
    · try simp only [if_pos b1] at h ⊢
      by_cases b2 : (g93_0 x0.2.2.1) = true
      · try simp only [if_pos b2] at h ⊢
        by_cases b3 : (g95_0 x0.2.2.2.2.1) = true
        · try simp only [if_pos b3] at h ⊢
          by_cases b4 : (g96_0 x0.2.2.2.2.2.1) = true
          · try simp only [if_pos b4] at h ⊢
            by_cases b5 : (g94_0 x0.2.2.2.1) = true
            · try simp only [if_pos b5] at h ⊢
              by_cases b6 : (g97_0 x0.2.2.2.2.2.2.1 x0.2.2.2.2.2.2.2.1 x0.2.2.2.2.2.2.2.2.1 0 == 0) = true
              · try simp only [if_pos b6] at h ⊢
                by_cases b7 : (g98_0 x0.2.2.2.2.2.2.2.2.2.1) = true
                · try simp only [if_pos b7] at h ⊢
                  by_cases b8 : (g99_0 x0.2.2.2.2.2.2.2.2.2.2.1) = true
                  · try simp only [if_pos b8] at h ⊢
                    exact AtV.ret Tryz.func67 tabOk ext67Ok mixed false [] tys67 [true, true, true, true, true, true, true, true, true] (a1 trivial (a1 b0 (a1 trivial (a1 b1 (a1 trivial (a1 b2 (a1 trivial (a1 trivial (a1 b3 (a1 trivial (a1 b4 (a1 trivial (a1 b5 (a1 b6 (a1 trivial (a1 b7 (a1 trivial (a1 b8 (a1 trivial trivial))))))))))))))))))) (by kernel_rfl)
                  · try simp only [if_neg b8] at h ⊢
                    replace b8 := Bool.eq_false_iff.2 b8
                    exact AtV.ret Tryz.func67 tabOk ext67Ok mixed false [] tys67 [true, true, true, true, true, true, true, true, false] (a1 trivial (a1 b0 (a1 trivial (a1 b1 (a1 trivial (a1 b2 (a1 trivial (a1 trivial (a1 b3 (a1 trivial (a1 b4 (a1 trivial (a1 b5 (a1 b6 (a1 trivial (a1 b7 (a1 trivial (a1 b8 trivial)))))))))))))))))) (by kernel_rfl)
                · try simp only [if_neg b7] at h ⊢
                  replace b7 := Bool.eq_false_iff.2 b7
                  exact AtV.ret Tryz.func67 tabOk ext67Ok mixed false [] tys67 [true, true, true, true, true, true, true, false, false] (a1 trivial (a1 b0 (a1 trivial (a1 b1 (a1 trivial (a1 b2 (a1 trivial (a1 trivial (a1 b3 (a1 trivial (a1 b4 (a1 trivial (a1 b5 (a1 b6 (a1 trivial (a1 b7 (a1 (rfl : false = false) trivial))))))))))))))))) (by kernel_rfl)
              · try simp only [if_neg b6] at h ⊢
                replace b6 := Bool.eq_false_iff.2 b6
                exact AtV.ret Tryz.func67 tabOk ext67Ok mixed false [] tys67 [true, true, true, true, true, true, false, false, false] (a1 trivial (a1 b0 (a1 trivial (a1 b1 (a1 trivial (a1 b2 (a1 trivial (a1 trivial (a1 b3 (a1 trivial (a1 b4 (a1 trivial (a1 b5 (a1 b6 (a1 (rfl : false = false) (a1 (rfl : false = false) trivial)))))))))))))))) (by kernel_rfl)
            · try simp only [if_neg b5] at h ⊢
              replace b5 := Bool.eq_false_iff.2 b5
              exact AtV.ret Tryz.func67 tabOk ext67Ok mixed false [] tys67 [true, true, true, true, true, false, false, false, false] (a1 trivial (a1 b0 (a1 trivial (a1 b1 (a1 trivial (a1 b2 (a1 trivial (a1 trivial (a1 b3 (a1 trivial (a1 b4 (a1 trivial (a1 b5 (a1 (rfl : false = false) (a1 (rfl : false = false) (a1 (rfl : false = false) trivial)))))))))))))))) (by kernel_rfl)
          · try simp only [if_neg b4] at h ⊢
            replace b4 := Bool.eq_false_iff.2 b4
            by_cases b5 : (g94_0 x0.2.2.2.1) = true
            · try simp only [if_pos b5] at h ⊢
              exact AtV.ret Tryz.func67 tabOk ext67Ok mixed false [] tys67 [true, true, true, true, false, true, false, false, false] (a1 trivial (a1 b0 (a1 trivial (a1 b1 (a1 trivial (a1 b2 (a1 trivial (a1 trivial (a1 b3 (a1 trivial (a1 b4 (a1 b5 (a1 (rfl : false = false) (a1 (rfl : false = false) (a1 (rfl : false = false) trivial))))))))))))))) (by kernel_rfl)
            · try simp only [if_neg b5] at h ⊢
              replace b5 := Bool.eq_false_iff.2 b5
              exact AtV.ret Tryz.func67 tabOk ext67Ok mixed false [] tys67 [true, true, true, true, false, false, false, false, false] (a1 trivial (a1 b0 (a1 trivial (a1 b1 (a1 trivial (a1 b2 (a1 trivial (a1 trivial (a1 b3 (a1 trivial (a1 b4 (a1 b5 (a1 (rfl : false = false) (a1 (rfl : false = false) (a1 (rfl : false = false) trivial))))))))))))))) (by kernel_rfl)
        · try simp only [if_neg b3] at h ⊢
          replace b3 := Bool.eq_false_iff.2 b3
          by_cases b4 : (g94_0 x0.2.2.2.1) = true
          · try simp only [if_pos b4] at h ⊢
            exact AtV.ret Tryz.func67 tabOk ext67Ok mixed false [] tys67 [true, true, true, false, false, true, false, false, false] (a1 trivial (a1 b0 (a1 trivial (a1 b1 (a1 trivial (a1 b2 (a1 trivial (a1 trivial (a1 b3 (a1 (rfl : false = false) (a1 b4 (a1 (rfl : false = false) (a1 (rfl : false = false) (a1 (rfl : false = false) trivial)))))))))))))) (by kernel_rfl)
          · try simp only [if_neg b4] at h ⊢
            replace b4 := Bool.eq_false_iff.2 b4
            exact AtV.ret Tryz.func67 tabOk ext67Ok mixed false [] tys67 [true, true, true, false, false, false, false, false, false] (a1 trivial (a1 b0 (a1 trivial (a1 b1 (a1 trivial (a1 b2 (a1 trivial (a1 trivial (a1 b3 (a1 (rfl : false = false) (a1 b4 (a1 (rfl : false = false) (a1 (rfl : false = false) (a1 (rfl : false = false) trivial)))))))))))))) (by kernel_rfl)
      · try simp only [if_neg b2] at h ⊢
        replace b2 := Bool.eq_false_iff.2 b2
        by_cases b3 : (g95_0 x0.2.2.2.2.1) = true
        · try simp only [if_pos b3] at h ⊢
          by_cases b4 : (g96_0 x0.2.2.2.2.2.1) = true
          · try simp only [if_pos b4] at h ⊢
            exact AtV.ret Tryz.func67 tabOk ext67Ok mixed false [] tys67 [true, true, false, true, true, false, false, false, false] (a1 trivial (a1 b0 (a1 trivial (a1 b1 (a1 trivial (a1 b2 (a1 trivial (a1 b3 (a1 trivial (a1 b4 (a1 trivial (a1 (rfl : false = false) (a1 (rfl : false = false) (a1 (rfl : false = false) (a1 (rfl : false = false) trivial))))))))))))))) (by kernel_rfl)
          · try simp only [if_neg b4] at h ⊢
            replace b4 := Bool.eq_false_iff.2 b4
            exact AtV.ret Tryz.func67 tabOk ext67Ok mixed false [] tys67 [true, true, false, true, false, false, false, false, false] (a1 trivial (a1 b0 (a1 trivial (a1 b1 (a1 trivial (a1 b2 (a1 trivial (a1 b3 (a1 trivial (a1 b4 (a1 (rfl : false = false) (a1 (rfl : false = false) (a1 (rfl : false = false) (a1 (rfl : false = false) trivial)))))))))))))) (by kernel_rfl)
        · try simp only [if_neg b3] at h ⊢
          replace b3 := Bool.eq_false_iff.2 b3
          exact AtV.ret Tryz.func67 tabOk ext67Ok mixed false [] tys67 [true, true, false, false, false, false, false, false, false] (a1 trivial (a1 b0 (a1 trivial (a1 b1 (a1 trivial (a1 b2 (a1 trivial (a1 b3 (a1 (rfl : false = false) (a1 (rfl : false = false) (a1 (rfl : false = false) (a1 (rfl : false = false) (a1 (rfl : false = false) trivial))))))))))))) (by kernel_rfl)
    · try simp only [if_neg b1] at h ⊢
      replace b1 := Bool.eq_false_iff.2 b1
      by_cases b2 : (g95_0 x0.2.2.2.2.1) = true
      · try simp only [if_pos b2] at h ⊢
        by_cases b3 : (g96_0 x0.2.2.2.2.2.1) = true
        · try simp only [if_pos b3] at h ⊢
          exact AtV.ret Tryz.func67 tabOk ext67Ok mixed false [] tys67 [true, false, false, true, true, false, false, false, false] (a1 trivial (a1 b0 (a1 trivial (a1 b1 (a1 (rfl : false = false) (a1 trivial (a1 b2 (a1 trivial (a1 b3 (a1 trivial (a1 (rfl : false = false) (a1 (rfl : false = false) (a1 (rfl : false = false) (a1 (rfl : false = false) trivial)))))))))))))) (by kernel_rfl)
        · try simp only [if_neg b3] at h ⊢
          replace b3 := Bool.eq_false_iff.2 b3
          exact AtV.ret Tryz.func67 tabOk ext67Ok mixed false [] tys67 [true, false, false, true, false, false, false, false, false] (a1 trivial (a1 b0 (a1 trivial (a1 b1 (a1 (rfl : false = false) (a1 trivial (a1 b2 (a1 trivial (a1 b3 (a1 (rfl : false = false) (a1 (rfl : false = false) (a1 (rfl : false = false) (a1 (rfl : false = false) trivial))))))))))))) (by kernel_rfl)
      · try simp only [if_neg b2] at h ⊢
        replace b2 := Bool.eq_false_iff.2 b2
        exact AtV.ret Tryz.func67 tabOk ext67Ok mixed false [] tys67 [true, false, false, false, false, false, false, false, false] (a1 trivial (a1 b0 (a1 trivial (a1 b1 (a1 (rfl : false = false) (a1 trivial (a1 b2 (a1 (rfl : false = false) (a1 (rfl : false = false) (a1 (rfl : false = false) (a1 (rfl : false = false) (a1 (rfl : false = false) trivial)))))))))))) (by kernel_rfl)
  · try simp only [if_neg b0] at h ⊢
    replace b0 := Bool.eq_false_iff.2 b0
    by_cases b1 : (g95_0 x0.2.2.2.2.1) = true
    · try simp only [if_pos b1] at h ⊢
      by_cases b2 : (g96_0 x0.2.2.2.2.2.1) = true
      · try simp only [if_pos b2] at h ⊢
        exact AtV.ret Tryz.func67 tabOk ext67Ok mixed false [] tys67 [false, false, false, true, true, false, false, false, false] (a1 trivial (a1 b0 (a1 (rfl : false = false) (a1 (rfl : false = false) (a1 trivial (a1 b1 (a1 trivial (a1 b2 (a1 trivial (a1 (rfl : false = false) (a1 (rfl : false = false) (a1 (rfl : false = false) (a1 (rfl : false = false) trivial))))))))))))) (by kernel_rfl)
      · try simp only [if_neg b2] at h ⊢
        replace b2 := Bool.eq_false_iff.2 b2
        exact AtV.ret Tryz.func67 tabOk ext67Ok mixed false [] tys67 [false, false, false, true, false, false, false, false, false] (a1 trivial (a1 b0 (a1 (rfl : false = false) (a1 (rfl : false = false) (a1 trivial (a1 b1 (a1 trivial (a1 b2 (a1 (rfl : false = false) (a1 (rfl : false = false) (a1 (rfl : false = false) (a1 (rfl : false = false) trivial)))))))))))) (by kernel_rfl)
    · try simp only [if_neg b1] at h ⊢
      replace b1 := Bool.eq_false_iff.2 b1
      exact AtV.ret Tryz.func67 tabOk ext67Ok mixed false [] tys67 [false, false, false, false, false, false, false, false, false] (a1 trivial (a1 b0 (a1 (rfl : false = false) (a1 (rfl : false = false) (a1 trivial (a1 b1 (a1 (rfl : false = false) (a1 (rfl : false = false) (a1 (rfl : false = false) (a1 (rfl : false = false) (a1 (rfl : false = false) trivial))))))))))) (by kernel_rfl)
def S67 : Am.Spec := { sig := sig67, pre := fun ⟨x0, _⟩ => P67 x0, res := fun ⟨x0, _⟩ => [⟨Ty.bool, g67_0 x0⟩], kds := kds67 }
theorem con67 : Contract Tryz.prog 67 S67 := contract_of Tryz.func67 hb67 (Nat.le_of_ble_eq_true (by kernel_rfl)) (fun ⟨x0, _⟩ h _ K q => at67 x0 h K q)
end
noncomputable section
def ext69 : Ext := []
theorem ext69Ok : ExtOk Tryz.prog ext69 := trivial
noncomputable def b69 : Code := bodyOf Tryz.f69
theorem hb69 : Tryz.f69.body = some b69 := by kernel_rfl
def sig69 : List AT := [AT.v YA5]
def tys69 : List Ty := [Ty.cons (Ty.int .i64) YA9]
def kds69 : List RK := []
def oks69 : List AT := owns sig69
def P69 (x0 : ByteArray × Int × Int × Int × Unit) : Prop := ((InR .i64 (75 * x0.2.1)) ∧ ((InR .i64 (15 * x0.2.2.1)) ∧ ((InR .i64 (75 * x0.2.1 + 15 * x0.2.2.1)) ∧ ((InR .i64 (75 * x0.2.1 + 15 * x0.2.2.1 + x0.2.2.2.1)) ∧ True))))
def g69_0 (x0 : ByteArray × Int × Int × Int × Unit) : Int × Int × Int × Unit := (x0.2.1, x0.2.2.1, 75 * x0.2.1 + 15 * x0.2.2.1 + x0.2.2.2.1, ())
theorem at69 (x0 : ByteArray × Int × Int × Int × Unit) (h : P69 x0) (K : Ctx) (q : Nat → Value) : AtV Tryz.prog 69 (PostR kds69 oks69 [⟨Ty.cons (Ty.int .i64) YA9, g69_0 x0⟩] [] [] q K) 18 K q [] [.code b69] (entE 0 0 sig69 (x0, ())) (entL sig69 (x0, ())) := by
  unfold P69 at h
  unfold g69_0
  obtain ⟨s0, h⟩ := h
  obtain ⟨s1, h⟩ := h
  obtain ⟨s2, h⟩ := h
  obtain ⟨s3, h⟩ := h
  exact AtV.ret Tryz.func69 tabOk ext69Ok mixed false [] tys69 [] (a1 s0 (a1 s1 (a1 s2 (a1 s3 trivial)))) (by kernel_rfl)
def S69 : Am.Spec := { sig := sig69, pre := fun ⟨x0, _⟩ => P69 x0, res := fun ⟨x0, _⟩ => [⟨Ty.cons (Ty.int .i64) YA9, g69_0 x0⟩], kds := kds69 }
theorem con69 : Contract Tryz.prog 69 S69 := contract_of Tryz.func69 hb69 (Nat.le_of_ble_eq_true (by kernel_rfl)) (fun ⟨x0, _⟩ h _ K q => at69 x0 h K q)
end
noncomputable section
def ext68 : Ext := []
theorem ext68Ok : ExtOk Tryz.prog ext68 := trivial
noncomputable def b68 : Code := bodyOf Tryz.f68
theorem hb68 : Tryz.f68.body = some b68 := by kernel_rfl
def sig68 : List AT := [AT.v YA7, AT.v YA7]
def tys68 : List Ty := [Ty.bool]
def kds68 : List RK := []
def oks68 : List AT := owns sig68
def P68 (x0 : Int × Int × Int × Unit) (x1 : Int × Int × Int × Unit) : Prop := True
def g68_0 (x0 : Int × Int × Int × Unit) (x1 : Int × Int × Int × Unit) : Bool := (if (decide (x0.1 ≤ x1.1)) = true then (if (decide (x0.2.1 ≤ x1.2.1)) = true then decide (x0.2.2.1 ≤ x1.2.2.1) else false) else false)
theorem at68 (x0 : Int × Int × Int × Unit) (x1 : Int × Int × Int × Unit) (h : P68 x0 x1) (K : Ctx) (q : Nat → Value) : AtV Tryz.prog 68 (PostR kds68 oks68 [⟨Ty.bool, g68_0 x0 x1⟩] [] [] q K) 24 K q [] [.code b68] (entE 0 0 sig68 (x0, x1, ())) (entL sig68 (x0, x1, ())) := by
  unfold P68 at h
  unfold g68_0
  by_cases b0 : (decide (x0.1 ≤ x1.1)) = true
  · try simp only [if_pos b0] at h ⊢
    by_cases b1 : (decide (x0.2.1 ≤ x1.2.1)) = true
    · try simp only [if_pos b1] at h ⊢
      exact AtV.ret Tryz.func68 tabOk ext68Ok mixed false [] tys68 [true, true] (a1 b0 (a1 b1 trivial)) (by kernel_rfl)
    · try simp only [if_neg b1] at h ⊢
      replace b1 := Bool.eq_false_iff.2 b1
      exact AtV.ret Tryz.func68 tabOk ext68Ok mixed false [] tys68 [true, false] (a1 b0 (a1 b1 trivial)) (by kernel_rfl)
  · try simp only [if_neg b0] at h ⊢
    replace b0 := Bool.eq_false_iff.2 b0
    exact AtV.ret Tryz.func68 tabOk ext68Ok mixed false [] tys68 [false, false] (a1 b0 (a1 (rfl : false = false) trivial)) (by kernel_rfl)
def S68 : Am.Spec := { sig := sig68, pre := fun ⟨x0, x1, _⟩ => P68 x0 x1, res := fun ⟨x0, x1, _⟩ => [⟨Ty.bool, g68_0 x0 x1⟩], kds := kds68 }
theorem con68 : Contract Tryz.prog 68 S68 := contract_of Tryz.func68 hb68 (Nat.le_of_ble_eq_true (by kernel_rfl)) (fun ⟨x0, x1, _⟩ h _ K q => at68 x0 x1 h K q)
end
def sig101 : List AT := [AT.v (Ty.int .i64), AT.v (Ty.int .i64)]
def g101_0 (x0 x1 : Int) : ByteArray := numB x0
def P101 (x0 x1 : Int) : Prop := x1 = 10
def S101 : Am.Spec := { sig := sig101, pre := fun ⟨x0, x1, _⟩ => P101 x0 x1, res := fun ⟨x0, x1, _⟩ => [⟨Ty.str, g101_0 x0 x1⟩] }
theorem con101 : Contract Tryz.prog 101 S101 := contract_flat rfl fun w ⟨x0, x1, _⟩ vs bss hg hp hw ha => by
  obtain ⟨v0, s0, _, _, rfl, _, ⟨_, rfl, hi⟩, v1, s1, _, _, rfl, _, ⟨_, rfl, _⟩, rfl, _⟩ := ha
  obtain rfl : x1 = 10 := hp
  have hi : InR .i64 x0 := hi
  rw [i64_iff] at hi
  refine ⟨fun d hd => ?_, ?_⟩
  · rw [List.mem_singleton.1 hd]
    refine ⟨rfl, ?_⟩
    show (numB x0).size ≤ maxLen
    have := numB_size x0 hi.1 hi.2
    unfold maxLen; omega
  · refine (Tryz.strconv_FormatInt_10 x0 hi.1 hi.2 w (pow10G hg)).mono ?_
    rintro e w' ⟨rfl, n, os, rfl⟩
    exact ⟨rfl, kept_grow _ _ _⟩
noncomputable section
def ext70 : Ext := [(101, S101)]
theorem ext70Ok : ExtOk Tryz.prog ext70 := ⟨⟨ca101, con101⟩, trivial⟩
noncomputable def b70 : Code := bodyOf Tryz.f70
theorem hb70 : Tryz.f70.body = some b70 := by kernel_rfl
def sig70 : List AT := [AT.v (Ty.int .i64)]
def tys70 : List Ty := [Ty.str]
def kds70 : List RK := []
def oks70 : List AT := owns sig70
def P70 (x0 : Int) : Prop := ((P101 x0 10) ∧ True)
def g70_0 (x0 : Int) : ByteArray := g101_0 x0 10
theorem at70 (x0 : Int) (h : P70 x0) (K : Ctx) (q : Nat → Value) : AtV Tryz.prog 70 (PostR kds70 oks70 [⟨Ty.str, g70_0 x0⟩] [] [] q K) 5 K q [] [.code b70] (entE 0 0 sig70 (x0, ())) (entL sig70 (x0, ())) := by
  unfold P70 at h
  unfold g70_0
  obtain ⟨s0, h⟩ := h
  exact AtV.ret Tryz.func70 tabOk ext70Ok mixed false [] tys70 [] (a1 s0 trivial) (by kernel_rfl)
def S70 : Am.Spec := { sig := sig70, pre := fun ⟨x0, _⟩ => P70 x0, res := fun ⟨x0, _⟩ => [⟨Ty.str, g70_0 x0⟩], kds := kds70 }
theorem con70 : Contract Tryz.prog 70 S70 := contract_of Tryz.func70 hb70 (Nat.le_of_ble_eq_true (by kernel_rfl)) (fun ⟨x0, _⟩ h _ K q => at70 x0 h K q)
end
noncomputable section
def ext102 : Ext := []
theorem ext102Ok : ExtOk Tryz.prog ext102 := trivial
noncomputable def b102 : Code := bodyOf Tryz.f102
theorem hb102 : Tryz.f102.body = some b102 := by kernel_rfl
def sig102 : List AT := [AT.v YA3, AT.v (Ty.int .i64), AT.v (Ty.int .i64)]
def tys102 : List Ty := [Ty.int .i64, Ty.int .i64]
def kds102 : List RK := []
def oks102 : List AT := owns sig102
def P102 (x0 : ByteArray × Int × Int × Int × Int × Unit) (x1 : Int) (x2 : Int) : Prop := ((InR .i64 (x0.2.2.2.1 + x0.2.1)) ∧ ((InR .i64 (x0.2.2.2.1 + x0.2.1 - x1)) ∧ ((InR .i64 (x0.2.2.2.2.1 + x0.2.2.1)) ∧ ((InR .i64 (x0.2.2.2.2.1 + x0.2.2.1 - x2)) ∧ True))))
def g102_0 (x0 : ByteArray × Int × Int × Int × Int × Unit) (x1 : Int) (x2 : Int) : Int := x0.2.2.2.1 + x0.2.1 - x1
def g102_1 (x0 : ByteArray × Int × Int × Int × Int × Unit) (x1 : Int) (x2 : Int) : Int := x0.2.2.2.2.1 + x0.2.2.1 - x2
theorem at102 (x0 : ByteArray × Int × Int × Int × Int × Unit) (x1 : Int) (x2 : Int) (h : P102 x0 x1 x2) (K : Ctx) (q : Nat → Value) : AtV Tryz.prog 102 (PostR kds102 oks102 [⟨Ty.int .i64, g102_0 x0 x1 x2⟩, ⟨Ty.int .i64, g102_1 x0 x1 x2⟩] [] [] q K) 22 K q [] [.code b102] (entE 0 0 sig102 (x0, x1, x2, ())) (entL sig102 (x0, x1, x2, ())) := by
  unfold P102 at h
  unfold g102_0 g102_1
  obtain ⟨s0, h⟩ := h
  obtain ⟨s1, h⟩ := h
  obtain ⟨s2, h⟩ := h
  obtain ⟨s3, h⟩ := h
  exact AtV.ret Tryz.func102 tabOk ext102Ok mixed false [] tys102 [] (a1 s0 (a1 s1 (a1 s2 (a1 s3 trivial)))) (by kernel_rfl)
def S102 : Am.Spec := { sig := sig102, pre := fun ⟨x0, x1, x2, _⟩ => P102 x0 x1 x2, res := fun ⟨x0, x1, x2, _⟩ => [⟨Ty.int .i64, g102_0 x0 x1 x2⟩, ⟨Ty.int .i64, g102_1 x0 x1 x2⟩], kds := kds102 }
theorem con102 : Contract Tryz.prog 102 S102 := contract_of Tryz.func102 hb102 (Nat.le_of_ble_eq_true (by kernel_rfl)) (fun ⟨x0, x1, x2, _⟩ h _ K q => at102 x0 x1 x2 h K q)
end
noncomputable section
def ext71 : Ext := [(102, S102)]
theorem ext71Ok : ExtOk Tryz.prog ext71 := ⟨⟨ca102, con102⟩, trivial⟩
noncomputable def b71 : Code := bodyOf Tryz.f71
theorem hb71 : Tryz.f71.body = some b71 := by kernel_rfl
def sig71 : List AT := [AT.v YA3, AT.v (Ty.int .i64), AT.v (Ty.int .i64)]
def tys71 : List Ty := [Ty.bool]
def kds71 : List RK := []
def oks71 : List AT := owns sig71
def P71 (x0 : ByteArray × Int × Int × Int × Int × Unit) (x1 : Int) (x2 : Int) : Prop := ((P102 x0 x1 x2) ∧ True)
def g71_0 (x0 : ByteArray × Int × Int × Int × Int × Unit) (x1 : Int) (x2 : Int) : Bool := (if (decide (g102_0 x0 x1 x2 < 0)) = true then true else decide (g102_1 x0 x1 x2 < 0))
theorem at71 (x0 : ByteArray × Int × Int × Int × Int × Unit) (x1 : Int) (x2 : Int) (h : P71 x0 x1 x2) (K : Ctx) (q : Nat → Value) : AtV Tryz.prog 71 (PostR kds71 oks71 [⟨Ty.bool, g71_0 x0 x1 x2⟩] [] [] q K) 22 K q [] [.code b71] (entE 0 0 sig71 (x0, x1, x2, ())) (entL sig71 (x0, x1, x2, ())) := by
  unfold P71 at h
  unfold g71_0
  obtain ⟨s0, h⟩ := h
  by_cases b0 : (decide (g102_0 x0 x1 x2 < 0)) = true
  · try simp only [if_pos b0] at h ⊢
    exact AtV.ret Tryz.func71 tabOk ext71Ok mixed false [] tys71 [true] (a1 s0 (a1 b0 trivial)) (by kernel_rfl)
  · try simp only [if_neg b0] at h ⊢
    replace b0 := Bool.eq_false_iff.2 b0
    exact AtV.ret Tryz.func71 tabOk ext71Ok mixed false [] tys71 [false] (a1 s0 (a1 b0 trivial)) (by kernel_rfl)
def S71 : Am.Spec := { sig := sig71, pre := fun ⟨x0, x1, x2, _⟩ => P71 x0 x1 x2, res := fun ⟨x0, x1, x2, _⟩ => [⟨Ty.bool, g71_0 x0 x1 x2⟩], kds := kds71 }
theorem con71 : Contract Tryz.prog 71 S71 := contract_of Tryz.func71 hb71 (Nat.le_of_ble_eq_true (by kernel_rfl)) (fun ⟨x0, x1, x2, _⟩ h _ K q => at71 x0 x1 x2 h K q)
end
noncomputable section
def ext103 : Ext := [(98, S98)]
theorem ext103Ok : ExtOk Tryz.prog ext103 := ⟨⟨ca98, con98⟩, trivial⟩
noncomputable def b103 : Code := bodyOf Tryz.f103
theorem hb103 : Tryz.f103.body = some b103 := by kernel_rfl
def sig103 : List AT := [AT.v (Ty.sl YA9), AT.v (Ty.bool)]
def tys103 : List Ty := [Ty.int .i64]
def kds103 : List RK := []
def oks103 : List AT := owns sig103
def P103 (x0 : List TyB4) (x1 : Bool) : Prop := True
def g103_0 (x0 : List TyB4) (x1 : Bool) : Int := (if (!g98_0 x0) = true then 1 else (if (!x1) = true then 2 else 0))
theorem at103 (x0 : List TyB4) (x1 : Bool) (h : P103 x0 x1) (K : Ctx) (q : Nat → Value) : AtV Tryz.prog 103 (PostR kds103 oks103 [⟨Ty.int .i64, g103_0 x0 x1⟩] [] [] q K) 12 K q [] [.code b103] (entE 0 0 sig103 (x0, x1, ())) (entL sig103 (x0, x1, ())) := by
  unfold P103 at h
  unfold g103_0
  by_cases b0 : (!g98_0 x0) = true
  · try simp only [if_pos b0] at h ⊢
    exact AtV.ret Tryz.func103 tabOk ext103Ok mixed false [] tys103 [true] (a1 trivial (a1 b0 trivial)) (by kernel_rfl)
  · try simp only [if_neg b0] at h ⊢
    replace b0 := Bool.eq_false_iff.2 b0
    by_cases b1 : (!x1) = true
    · try simp only [if_pos b1] at h ⊢
      exact AtV.ret Tryz.func103 tabOk ext103Ok mixed false [] tys103 [false, true] (a1 trivial (a1 b0 (a1 b1 trivial))) (by kernel_rfl)
    · try simp only [if_neg b1] at h ⊢
      replace b1 := Bool.eq_false_iff.2 b1
      exact AtV.ret Tryz.func103 tabOk ext103Ok mixed false [] tys103 [false, false] (a1 trivial (a1 b0 (a1 b1 trivial))) (by kernel_rfl)
def S103 : Am.Spec := { sig := sig103, pre := fun ⟨x0, x1, _⟩ => P103 x0 x1, res := fun ⟨x0, x1, _⟩ => [⟨Ty.int .i64, g103_0 x0 x1⟩], kds := kds103 }
theorem con103 : Contract Tryz.prog 103 S103 := contract_of Tryz.func103 hb103 (Nat.le_of_ble_eq_true (by kernel_rfl)) (fun ⟨x0, x1, _⟩ h _ K q => at103 x0 x1 h K q)
end
noncomputable section
def ext72 : Ext := [(99, S99), (103, S103), (104, S104)]
theorem ext72Ok : ExtOk Tryz.prog ext72 := ⟨⟨ca99, con99⟩, ⟨ca103, con103⟩, ⟨ca104, con104⟩, trivial⟩
noncomputable def b72 : Code := bodyOf Tryz.f72
theorem hb72 : Tryz.f72.body = some b72 := by kernel_rfl
def sig72 : List AT := [AT.v (Ty.sl YA9), AT.v (Ty.int .i64)]
def tys72 : List Ty := [Ty.sl (Ty.int .i64), Ty.int .i64]
def kds72 : List RK := []
def oks72 : List AT := owns sig72
def E72_6 (v8 : Int) (h0 : List Int) (x0 : List TyB4) (x1 : Int) : Env := [(0, PV.a (Atom.sl YA9 x0)), (1, PV.a (Atom.val (Value.int .i64 x1))), (7, PV.a (Atom.osl 0 Option.none)), (8, PV.a (Atom.val (Value.int .i64 v8)))]
def L72_6 (v8 : Int) (h0 : List Int) (x0 : List TyB4) (x1 : Int) : Heap := [Option.some (Arr.mk (Ty.int .i64) h0 false Option.none Option.none)]
mutual
def R72 : Nat → List TyB4 → Int → List Dyn → Prop
  | 0, _, _, _ => False
  | n + 1, x0, x1, ds => (if (g103_0 x0 (g99_0 x1) != 0) = true then (ds = [Dyn.mk (Ty.sl (Ty.int .i64)) [], Dyn.mk (Ty.int .i64) (g103_0 x0 (g99_0 x1))]) else (R72_6 n (1) ([]) (x0) (x1) ds))
def R72_6 : Nat → Int → List Int → List TyB4 → Int → List Dyn → Prop
  | 0, _, _, _, _, _ => False
  | n + 1, v8, h0, x0, x1, ds => (if (decide (v8 < (↑(List.length x0) : Int))) = true then ((0 ≤ v8) ∧ (v8 < (↑(List.length x0) : Int)) ∧ ((InR .i64 (v8 - 1)) ∧ ((0 ≤ v8 - 1) ∧ (v8 - 1 < (↑(List.length x0) : Int)) ∧ ((P104 (List.getD x0 (Int.toNat (v8 - 1)) (0, 0, ()))) ∧ ((InR .i64 ((List.getD x0 (Int.toNat v8) (0, 0, ())).1 - g104_0 (List.getD x0 (Int.toNat (v8 - 1)) (0, 0, ())))) ∧ ((InR .i64 ((List.getD x0 (Int.toNat v8) (0, 0, ())).1 - g104_0 (List.getD x0 (Int.toNat (v8 - 1)) (0, 0, ())) - x1)) ∧ (((List.length h0 + 1) * 8 ≤ 140737488355328) ∧ ((InR .i64 (v8 + 1)) ∧ (R72_6 n (v8 + 1) (h0 ++ [(List.getD x0 (Int.toNat v8) (0, 0, ())).1 - g104_0 (List.getD x0 (Int.toNat (v8 - 1)) (0, 0, ())) - x1]) (x0) (x1) ds))))))))) else (ds = [Dyn.mk (Ty.sl (Ty.int .i64)) h0, Dyn.mk (Ty.int .i64) 0]))
end
theorem snd72 : ∀ n, (∀ (x0 : List TyB4) (x1 : Int) ds, R72 n x0 x1 ds → ∀ K q, AtV Tryz.prog 72 (PostR kds72 oks72 ds [] [] q K) 40 K q [] [.code b72] (entE 0 0 sig72 (x0, x1, ())) (entL sig72 (x0, x1, ()))) ∧ (∀ (v8 : Int) (h0 : List Int) (x0 : List TyB4) (x1 : Int) ds, R72_6 n v8 h0 x0 x1 ds → ∀ K q, AtV Tryz.prog 72 (PostR kds72 oks72 ds [] [] q K) 40 K q [] (cutAt b72 6) (E72_6 v8 h0 x0 x1) (L72_6 v8 h0 x0 x1)) := by
  intro n
  induction n with
  | zero => exact ⟨fun _ _ _ h => by simp only [R72] at h, fun _ _ _ _ _ h => by simp only [R72_6] at h⟩
  | succ n ih =>
  obtain ⟨ih, ih6⟩ := ih
  refine ⟨?_, ?_⟩
  · intro x0 x1 ds h K q
    rw [R72] at h
    by_cases b0 : (g103_0 x0 (g99_0 x1) != 0) = true
    · rw [if_pos b0] at h
      subst h
      exact AtV.ret Tryz.func72 tabOk ext72Ok mixed false [] tys72 [true] (a1 trivial (a1 trivial (a1 b0 trivial))) (by kernel_rfl)
    · rw [if_neg b0] at h
      replace b0 := Bool.eq_false_iff.2 b0
      exact AtV.go tabOk ext72Ok mixed false [] [(7, Ty.int .i64)] [0, 1, 7, 8] [0] [false] (a1 trivial (a1 trivial (a1 b0 trivial))) (ih6 _ _ _ _ _ h K q) (by kernel_rfl)
  · intro v8 h0 x0 x1 ds h K q
    rw [R72_6] at h
    by_cases b0 : (decide (v8 < (↑(List.length x0) : Int))) = true
    · rw [if_pos b0] at h
      obtain ⟨s0, s1, h⟩ := h
      obtain ⟨s2, h⟩ := h
      obtain ⟨s3, s4, h⟩ := h
      obtain ⟨s5, h⟩ := h
      obtain ⟨s6, h⟩ := h
      obtain ⟨s7, h⟩ := h
      obtain ⟨s8, h⟩ := h
      obtain ⟨s9, h⟩ := h
      exact AtV.go tabOk ext72Ok mixed false [] [(7, Ty.int .i64)] [0, 1, 7, 8] [0] [true] (a1 b0 (a1 s0 (a1 s1 (a1 s2 (a1 s3 (a1 s4 (a1 s5 (a1 s6 (a1 s7 (a1 s8 (a1 s9 trivial))))))))))) (ih6 _ _ _ _ _ h K q) (by kernel_rfl)
    · rw [if_neg b0] at h
      replace b0 := Bool.eq_false_iff.2 b0
      subst h
      exact AtV.ret Tryz.func72 tabOk ext72Ok mixed false [] tys72 [false] (a1 b0 trivial) (by kernel_rfl)
def sk72 (x1 : Int) : List TyB4 → List Int
  | x :: y :: r => (y.1 - g104_0 x - x1) :: sk72 x1 (y :: r)
  | _ => []
def g72_0 (x0 : List TyB4) (x1 : Int) : List Int := if (g103_0 x0 (g99_0 x1) != 0) = true then [] else sk72 x1 x0
def g72_1 (x0 : List TyB4) (x1 : Int) : Int := if (g103_0 x0 (g99_0 x1) != 0) = true then g103_0 x0 (g99_0 x1) else 0
def ok72 (x : Int × Int × Unit) : Prop := P104 x ∧ 0 ≤ x.1 ∧ x.1 ≤ 100000 ∧ 0 ≤ g104_0 x ∧ g104_0 x ≤ 1000000
def P72 (x0 : List TyB4) (x1 : Int) : Prop := (g103_0 x0 (g99_0 x1) != 0) = true ∨ x0.length ≤ 1048576 ∧ 0 ≤ x1 ∧ x1 ≤ 100000 ∧ ∀ x ∈ x0, ok72 x
theorem run72 (x0 : List TyB4) (x1 : Int) (hl : x0.length ≤ 1048576) (h0 : 0 ≤ x1) (h1 : x1 ≤ 100000) (hp : ∀ x ∈ x0, ok72 x) : ∀ (k i : Nat) (h : List Int), i + k = x0.length → 1 ≤ i → h.length ≤ i →
    R72_6 (k + 1) (i : Int) h x0 x1 [⟨.sl (.int .i64), h ++ sk72 x1 (x0.drop (i - 1))⟩, ⟨.int .i64, (0 : Int)⟩] := by
  intro k
  induction k with
  | zero =>
    intro i h hi h2 hh
    have e := drop_get x0 (i - 1) ((0 : Int), (0 : Int), ()) (by omega)
    rw [show i - 1 + 1 = i by omega, drop_end x0 i (by omega)] at e
    rw [R72_6, if_neg (by simp only [decide_eq_true_eq]; omega), e]
    simp [sk72]
  | succ k ih =>
    intro i h hi h2 hh
    have hlt : i < x0.length := by omega
    have hm : x0.length ≤ maxLen := Nat.le_trans hl (by decide)
    have e := drop_get x0 (i - 1) ((0 : Int), (0 : Int), ()) (by omega)
    rw [show i - 1 + 1 = i by omega] at e
    have e2 := drop_get x0 i ((0 : Int), (0 : Int), ()) hlt
    have et : ((i : Int) - 1).toNat = i - 1 := by omega
    obtain ⟨p1, a1, a2, a3, a4⟩ := hp _ (mem_getD x0 (i - 1) ((0 : Int), (0 : Int), ()) (by omega))
    obtain ⟨q1, b1, b2, b3, b4⟩ := hp _ (mem_getD x0 i ((0 : Int), (0 : Int), ()) hlt)
    have h3 := ih (i + 1) (h ++ [(x0.getD i ((0 : Int), (0 : Int), ())).1 - g104_0 (x0.getD (i - 1) ((0 : Int), (0 : Int), ())) - x1]) (by omega) (by omega) (by simp; omega)
    rw [R72_6, if_pos (by simp only [decide_eq_true_eq]; omega), e, e2]
    simp only [Int.toNat_natCast, et, sk72]
    rw [show i + 1 - 1 = i by omega, e2, List.append_assoc] at h3
    exact ⟨by omega, by omega, by rw [i64_iff]; omega, by omega, by omega, p1, by rw [i64_iff]; omega, by rw [i64_iff]; omega, by omega, inR_up hm hlt, h3⟩
theorem top72 (x0 : List TyB4) (x1 : Int) (h : P72 x0 x1) : ∃ n, R72 n x0 x1 [⟨.sl (.int .i64), g72_0 x0 x1⟩, ⟨.int .i64, g72_1 x0 x1⟩] := by
  unfold g72_0 g72_1
  by_cases hc : (g103_0 x0 (g99_0 x1) != 0) = true
  · exact ⟨1, by rw [R72, if_pos hc, if_pos hc, if_pos hc]⟩
  · rw [if_neg hc, if_neg hc]
    obtain ⟨h1, h2, h3, h4⟩ := h.resolve_left hc
    cases x0 with
    | nil => exact ⟨2, by rw [R72, if_neg hc, R72_6, if_neg (by simp)]; rfl⟩
    | cons x r =>
      have := run72 (x :: r) x1 h1 h2 h3 h4 r.length 1 [] (by simp; omega) (by omega) (by simp)
      simp only [List.nil_append, Nat.sub_self, List.drop_zero] at this
      exact ⟨r.length + 1 + 1, by rw [R72, if_neg hc]; exact this⟩
def S72 : Am.Spec := { sig := sig72, pre := fun ⟨x0, x1, _⟩ => P72 x0 x1, res := fun ⟨x0, x1, _⟩ => [⟨.sl (.int .i64), g72_0 x0 x1⟩, ⟨.int .i64, g72_1 x0 x1⟩] }
theorem con72 : Contract Tryz.prog 72 S72 := contract_of Tryz.func72 hb72 (Nat.le_of_ble_eq_true (by kernel_rfl)) (fun ⟨x0, x1, _⟩ h hwf K q =>
  let ⟨_, hn⟩ := top72 x0 x1 h
  (snd72 _).1 x0 x1 _ hn K q)
end
def bl {α β : Type} (f : Nat → α → List β) : Nat → List α → List β
  | _, [] => []
  | i, x :: r => f i x ++ bl f (i + 1) r
theorem bl_len {α β : Type} (f : Nat → α → List β) (hf : ∀ i x, (f i x).length ≤ 1) : ∀ (l : List α) (i : Nat), (bl f i l).length ≤ l.length
  | [], _ => Nat.le_refl _
  | x :: r, i => by
    have := bl_len f hf r (i + 1)
    have := hf i x
    simp only [bl, List.length_append, List.length_cons]
    omega
theorem bl_congr {α β : Type} {f g : Nat → α → List β} : ∀ (l : List α) (i : Nat), (∀ j x, x ∈ l → f j x = g j x) → bl f i l = bl g i l
  | [], _, _ => rfl
  | x :: r, i, h => by
    simp only [bl]
    rw [h i x (List.mem_cons_self ..), bl_congr r (i + 1) fun j y hy => h j y (List.mem_cons_of_mem _ hy)]
theorem loop_build {α β : Type} (xs : List α) (d : α) (f : Nat → α → List β) (hf : ∀ i x, (f i x).length ≤ 1) (c : Nat) (R : Nat → Int → List β → Prop)
    (step : ∀ (n i : Nat) (h : List β), i < xs.length → h.length ≤ c + i → R n ((i : Int) + 1) (h ++ f i (xs.getD i d)) → R (n + 1) (i : Int) h) (m : Nat) :
    ∀ (k i : Nat) (h : List β), i + k = xs.length → h.length ≤ c + i → R m (xs.length : Int) (h ++ bl f i (xs.drop i)) → R (m + k) (i : Int) h := by
  intro k
  induction k with
  | zero =>
    intro i h hi hh hr
    have : i = xs.length := by omega
    subst this
    rw [drop_end xs _ (Nat.le_refl _)] at hr
    simpa [bl] using hr
  | succ k ih =>
    intro i h hi hh hr
    have hlt : i < xs.length := by omega
    refine step (m + k) i h hlt hh ?_
    have h2 := ih (i + 1) (h ++ f i (xs.getD i d)) (by omega) (by have := hf i (xs.getD i d); simp only [List.length_append]; omega) (by
      rw [drop_get xs i d hlt] at hr
      simpa [bl, List.append_assoc] using hr)
    simpa using h2
theorem loop_build0 {α β : Type} (xs : List α) (d : α) (f : Nat → α → List β) (hf : ∀ i x, (f i x).length ≤ 1) (c : Nat) (R : Nat → Int → List β → Prop)
    (step : ∀ (n i : Nat) (h : List β), i < xs.length → h.length ≤ c + i → R n ((i : Int) + 1) (h ++ f i (xs.getD i d)) → R (n + 1) (i : Int) h) (m : Nat) (h : List β) (hh : h.length ≤ c) (hr : R m (xs.length : Int) (h ++ bl f 0 xs)) : R (m + xs.length) 0 h := by
  have := loop_build xs d f hf c R step m xs.length 0 h (by omega) (by omega) (by simpa using hr)
  simpa using this
noncomputable section
def ext29 : Ext := [(69, S69), (68, S68), (70, S70), (71, S71), (72, S72)]
theorem ext29Ok : ExtOk Tryz.prog ext29 := ⟨⟨ca69, con69⟩, ⟨ca68, con68⟩, ⟨ca70, con70⟩, ⟨ca71, con71⟩, ⟨ca72, con72⟩, trivial⟩
noncomputable def b29 : Code := bodyOf Tryz.f29
theorem hb29 : Tryz.f29.body = some b29 := by kernel_rfl
def sig29 : List AT := [AT.v YA0]
def tys29 : List Ty := [Ty.sl YA8]
def kds29 : List RK := []
def oks29 : List AT := owns sig29
def E29_3 (v15 : Int) (h1 : List TyB3) (x0 : TyA0) : Env := [(1, PV.a (Atom.optr 0 0 [])), (3, PV.a (Atom.osl 1 Option.none)), (13, PV.a (Atom.sl YA5 x0.2.2.2.2.1)), (14, PV.a (Atom.val (Value.int .i64 (↑(List.length x0.2.2.2.2.1) : Int)))), (15, PV.a (Atom.val (Value.int .i64 v15)))]
def L29_3 (v15 : Int) (h1 : List TyB3) (x0 : TyA0) : Heap := [Option.some (Arr.mk YA0 [x0] true Option.none (Option.some false)), Option.some (Arr.mk YA8 h1 false Option.none Option.none)]
def E29_9 (v39 : Int) (h1 : List TyB3) (x0 : TyA0) : Env := [(1, PV.a (Atom.optr 0 0 [])), (3, PV.a (Atom.osl 1 Option.none)), (37, PV.a (Atom.sl YA3 x0.2.2.2.2.2.2.1)), (38, PV.a (Atom.val (Value.int .i64 (↑(List.length x0.2.2.2.2.2.2.1) : Int)))), (39, PV.a (Atom.val (Value.int .i64 v39)))]
def L29_9 (v39 : Int) (h1 : List TyB3) (x0 : TyA0) : Heap := [Option.some (Arr.mk YA0 [x0] true Option.none (Option.some false)), Option.some (Arr.mk YA8 h1 false Option.none Option.none)]
def E29_16 (v66 : Int) (h0 : List TyB3) (x0 : TyA0) : Env := [(3, PV.a (Atom.osl 0 Option.none)), (64, PV.a (Atom.osl 1 Option.none)), (65, PV.a (Atom.val (Value.int .i64 (↑(List.length (g72_0 x0.2.2.2.2.2.2.2.2.2.1 x0.2.2.2.2.2.2.2.2.2.2.1)) : Int)))), (66, PV.a (Atom.val (Value.int .i64 v66)))]
def L29_16 (v66 : Int) (h0 : List TyB3) (x0 : TyA0) : Heap := [Option.some (Arr.mk YA8 h0 false Option.none Option.none), Option.some (Arr.mk (Ty.int .i64) (g72_0 x0.2.2.2.2.2.2.2.2.2.1 x0.2.2.2.2.2.2.2.2.2.2.1) false Option.none Option.none)]
mutual
def R29 : Nat → TyA0 → List Dyn → Prop
  | 0, _, _ => False
  | n + 1, x0, ds => (R29_3 n (0) ([]) (x0) ds)
def R29_3 : Nat → Int → List TyB3 → TyA0 → List Dyn → Prop
  | 0, _, _, _, _ => False
  | n + 1, v15, h1, x0, ds => (if (decide (v15 < (↑(List.length x0.2.2.2.2.1) : Int))) = true then ((0 ≤ v15) ∧ (v15 < (↑(List.length x0.2.2.2.2.1) : Int)) ∧ ((P69 (List.getD x0.2.2.2.2.1 (Int.toNat v15) (ByteArray.empty, 0, 0, 0, ()))) ∧ (if (!g68_0 ((List.getD x0.2.2.2.2.1 (Int.toNat v15) (ByteArray.empty, 0, 0, 0, ())).2.1, (List.getD x0.2.2.2.2.1 (Int.toNat v15) (ByteArray.empty, 0, 0, 0, ())).2.2.1, 75 * (List.getD x0.2.2.2.2.1 (Int.toNat v15) (ByteArray.empty, 0, 0, 0, ())).2.1 + 15 * (List.getD x0.2.2.2.2.1 (Int.toNat v15) (ByteArray.empty, 0, 0, 0, ())).2.2.1 + (List.getD x0.2.2.2.2.1 (Int.toNat v15) (ByteArray.empty, 0, 0, 0, ())).2.2.2.1, ()) x0.2.2.2.2.2.1) = true then ((P69 (List.getD x0.2.2.2.2.1 (Int.toNat v15) (ByteArray.empty, 0, 0, 0, ()))) ∧ ((P70 (75 * (List.getD x0.2.2.2.2.1 (Int.toNat v15) (ByteArray.empty, 0, 0, 0, ())).2.1 + 15 * (List.getD x0.2.2.2.2.1 (Int.toNat v15) (ByteArray.empty, 0, 0, 0, ())).2.2.1 + (List.getD x0.2.2.2.2.1 (Int.toNat v15) (ByteArray.empty, 0, 0, 0, ())).2.2.2.1)) ∧ (((List.length h1 + 1) * 40 ≤ 140737488355328) ∧ ((InR .i64 (v15 + 1)) ∧ (R29_3 n (v15 + 1) (h1 ++ [(3, (List.getD x0.2.2.2.2.1 (Int.toNat v15) (ByteArray.empty, 0, 0, 0, ())).1, g70_0 (75 * (List.getD x0.2.2.2.2.1 (Int.toNat v15) (ByteArray.empty, 0, 0, 0, ())).2.1 + 15 * (List.getD x0.2.2.2.2.1 (Int.toNat v15) (ByteArray.empty, 0, 0, 0, ())).2.2.1 + (List.getD x0.2.2.2.2.1 (Int.toNat v15) (ByteArray.empty, 0, 0, 0, ())).2.2.2.1), ())]) (x0) ds))))) else ((InR .i64 (v15 + 1)) ∧ (R29_3 n (v15 + 1) (h1) (x0) ds))))) else (R29_9 n (0) (h1) (x0) ds))
def R29_9 : Nat → Int → List TyB3 → TyA0 → List Dyn → Prop
  | 0, _, _, _, _ => False
  | n + 1, v39, h1, x0, ds => (if (decide (v39 < (↑(List.length x0.2.2.2.2.2.2.1) : Int))) = true then ((0 ≤ v39) ∧ (v39 < (↑(List.length x0.2.2.2.2.2.2.1) : Int)) ∧ ((P71 (List.getD x0.2.2.2.2.2.2.1 (Int.toNat v39) (ByteArray.empty, 0, 0, 0, 0, ())) x0.2.2.2.2.2.2.2.1 x0.2.2.2.2.2.2.2.2.1) ∧ (if (g71_0 (List.getD x0.2.2.2.2.2.2.1 (Int.toNat v39) (ByteArray.empty, 0, 0, 0, 0, ())) x0.2.2.2.2.2.2.2.1 x0.2.2.2.2.2.2.2.2.1) = true then (((List.length h1 + 1) * 40 ≤ 140737488355328) ∧ ((InR .i64 (v39 + 1)) ∧ (R29_9 n (v39 + 1) (h1 ++ [(4, (List.getD x0.2.2.2.2.2.2.1 (Int.toNat v39) (ByteArray.empty, 0, 0, 0, 0, ())).1, ByteArray.mk #[111, 118, 101, 114, 100, 117, 101], ())]) (x0) ds))) else ((InR .i64 (v39 + 1)) ∧ (R29_9 n (v39 + 1) (h1) (x0) ds))))) else ((P72 x0.2.2.2.2.2.2.2.2.2.1 x0.2.2.2.2.2.2.2.2.2.2.1) ∧ (R29_16 n (0) (h1) (x0) ds)))
def R29_16 : Nat → Int → List TyB3 → TyA0 → List Dyn → Prop
  | 0, _, _, _, _ => False
  | n + 1, v66, h0, x0, ds => (if (decide (v66 < (↑(List.length (g72_0 x0.2.2.2.2.2.2.2.2.2.1 x0.2.2.2.2.2.2.2.2.2.2.1)) : Int))) = true then ((0 ≤ v66) ∧ (v66 < (↑(List.length (g72_0 x0.2.2.2.2.2.2.2.2.2.1 x0.2.2.2.2.2.2.2.2.2.2.1)) : Int)) ∧ (if (decide (List.getD (g72_0 x0.2.2.2.2.2.2.2.2.2.1 x0.2.2.2.2.2.2.2.2.2.2.1) (Int.toNat v66) 0 < 0)) = true then ((InR .i64 (v66 + 1)) ∧ ((P70 (v66 + 1)) ∧ ((P70 (List.getD (g72_0 x0.2.2.2.2.2.2.2.2.2.1 x0.2.2.2.2.2.2.2.2.2.2.1) (Int.toNat v66) 0)) ∧ (((List.length h0 + 1) * 40 ≤ 140737488355328) ∧ ((InR .i64 (v66 + 1)) ∧ (R29_16 n (v66 + 1) (h0 ++ [(5, g70_0 (v66 + 1), g70_0 (List.getD (g72_0 x0.2.2.2.2.2.2.2.2.2.1 x0.2.2.2.2.2.2.2.2.2.2.1) (Int.toNat v66) 0), ())]) (x0) ds)))))) else ((InR .i64 (v66 + 1)) ∧ (R29_16 n (v66 + 1) (h0) (x0) ds)))) else (ds = [Dyn.mk (Ty.sl YA8) h0]))
end
theorem snd29 : ∀ n, (∀ (x0 : TyA0) ds, R29 n x0 ds → ∀ K q, AtV Tryz.prog 29 (PostR kds29 oks29 ds [] [] q K) 84 K q [] [.code b29] (entE 0 0 sig29 (x0, ())) (entL sig29 (x0, ()))) ∧ (∀ (v15 : Int) (h1 : List TyB3) (x0 : TyA0) ds, R29_3 n v15 h1 x0 ds → ∀ K q, AtV Tryz.prog 29 (PostR kds29 oks29 ds [] [] q K) 84 K q [] (cutAt b29 3) (E29_3 v15 h1 x0) (L29_3 v15 h1 x0)) ∧ (∀ (v39 : Int) (h1 : List TyB3) (x0 : TyA0) ds, R29_9 n v39 h1 x0 ds → ∀ K q, AtV Tryz.prog 29 (PostR kds29 oks29 ds [] [] q K) 84 K q [] (cutAt b29 9) (E29_9 v39 h1 x0) (L29_9 v39 h1 x0)) ∧ (∀ (v66 : Int) (h0 : List TyB3) (x0 : TyA0) ds, R29_16 n v66 h0 x0 ds → ∀ K q, AtV Tryz.prog 29 (PostR kds29 oks29 ds [] [] q K) 84 K q [] (cutAt b29 16) (E29_16 v66 h0 x0) (L29_16 v66 h0 x0)) := by
  intro n
  induction n with
  | zero => exact ⟨fun _ _ h => by simp only [R29] at h, fun _ _ _ _ h => by simp only [R29_3] at h, fun _ _ _ _ h => by simp only [R29_9] at h, fun _ _ _ _ h => by simp only [R29_16] at h⟩
  | succ n ih =>
  obtain ⟨ih, ih3, ih9, ih16⟩ := ih
  refine ⟨?_, ?_, ?_, ?_⟩
  · intro x0 ds h K q
    rw [R29] at h
    exact AtV.go tabOk ext29Ok mixed false [] [(3, Ty.cons (Ty.int .i64) YA10)] [1, 3, 13, 14, 15] [0, 1] [] trivial (ih3 _ _ _ _ h K q) (by kernel_rfl)
  · intro v15 h1 x0 ds h K q
    rw [R29_3] at h
    by_cases b0 : (decide (v15 < (↑(List.length x0.2.2.2.2.1) : Int))) = true
    · rw [if_pos b0] at h
      obtain ⟨s0, s1, h⟩ := h
      obtain ⟨s2, h⟩ := h
      by_cases b1 : (!g68_0 ((List.getD x0.2.2.2.2.1 (Int.toNat v15) (ByteArray.empty, 0, 0, 0, ())).2.1, (List.getD x0.2.2.2.2.1 (Int.toNat v15) (ByteArray.empty, 0, 0, 0, ())).2.2.1, 75 * (List.getD x0.2.2.2.2.1 (Int.toNat v15) (ByteArray.empty, 0, 0, 0, ())).2.1 + 15 * (List.getD x0.2.2.2.2.1 (Int.toNat v15) (ByteArray.empty, 0, 0, 0, ())).2.2.1 + (List.getD x0.2.2.2.2.1 (Int.toNat v15) (ByteArray.empty, 0, 0, 0, ())).2.2.2.1, ()) x0.2.2.2.2.2.1) = true
      · rw [if_pos b1] at h
        obtain ⟨s3, h⟩ := h
        obtain ⟨s4, h⟩ := h
        obtain ⟨s5, h⟩ := h
        obtain ⟨s6, h⟩ := h
        exact AtV.go tabOk ext29Ok mixed false [] [(3, Ty.cons (Ty.int .i64) YA10)] [1, 3, 13, 14, 15] [0, 1] [true, true] (a1 b0 (a1 s0 (a1 s1 (a1 s2 (a1 trivial (a1 b1 (a1 s3 (a1 s4 (a1 s5 (a1 s6 trivial)))))))))) (ih3 _ _ _ _ h K q) (by kernel_rfl)
      · rw [if_neg b1] at h
        replace b1 := Bool.eq_false_iff.2 b1
        obtain ⟨s3, h⟩ := h
        exact AtV.go tabOk ext29Ok mixed false [] [(3, Ty.cons (Ty.int .i64) YA10)] [1, 3, 13, 14, 15] [0, 1] [true, false] (a1 b0 (a1 s0 (a1 s1 (a1 s2 (a1 trivial (a1 b1 (a1 s3 trivial))))))) (ih3 _ _ _ _ h K q) (by kernel_rfl)
    · rw [if_neg b0] at h
      replace b0 := Bool.eq_false_iff.2 b0
      exact AtV.go tabOk ext29Ok mixed false [] [(3, Ty.cons (Ty.int .i64) YA10)] [1, 3, 37, 38, 39] [0, 1] [false] (a1 b0 trivial) (ih9 _ _ _ _ h K q) (by kernel_rfl)
  · intro v39 h1 x0 ds h K q
    rw [R29_9] at h
    by_cases b0 : (decide (v39 < (↑(List.length x0.2.2.2.2.2.2.1) : Int))) = true
    · rw [if_pos b0] at h
      obtain ⟨s0, s1, h⟩ := h
      obtain ⟨s2, h⟩ := h
      by_cases b1 : (g71_0 (List.getD x0.2.2.2.2.2.2.1 (Int.toNat v39) (ByteArray.empty, 0, 0, 0, 0, ())) x0.2.2.2.2.2.2.2.1 x0.2.2.2.2.2.2.2.2.1) = true
      · rw [if_pos b1] at h
        obtain ⟨s3, h⟩ := h
        obtain ⟨s4, h⟩ := h
        exact AtV.go tabOk ext29Ok mixed false [] [(3, Ty.cons (Ty.int .i64) YA10)] [1, 3, 37, 38, 39] [0, 1] [true, true] (a1 b0 (a1 s0 (a1 s1 (a1 s2 (a1 b1 (a1 s3 (a1 s4 trivial))))))) (ih9 _ _ _ _ h K q) (by kernel_rfl)
      · rw [if_neg b1] at h
        replace b1 := Bool.eq_false_iff.2 b1
        obtain ⟨s3, h⟩ := h
        exact AtV.go tabOk ext29Ok mixed false [] [(3, Ty.cons (Ty.int .i64) YA10)] [1, 3, 37, 38, 39] [0, 1] [true, false] (a1 b0 (a1 s0 (a1 s1 (a1 s2 (a1 b1 (a1 s3 trivial)))))) (ih9 _ _ _ _ h K q) (by kernel_rfl)
    · rw [if_neg b0] at h
      replace b0 := Bool.eq_false_iff.2 b0
      obtain ⟨s0, h⟩ := h
      exact AtV.go tabOk ext29Ok mixed false [] [(3, Ty.cons (Ty.int .i64) YA10)] [3, 64, 65, 66] [1, 2] [false] (a1 b0 (a1 s0 trivial)) (ih16 _ _ _ _ h K q) (by kernel_rfl)
  · intro v66 h0 x0 ds h K q
    rw [R29_16] at h
    by_cases b0 : (decide (v66 < (↑(List.length (g72_0 x0.2.2.2.2.2.2.2.2.2.1 x0.2.2.2.2.2.2.2.2.2.2.1)) : Int))) = true
    · rw [if_pos b0] at h
      obtain ⟨s0, s1, h⟩ := h
      by_cases b1 : (decide (List.getD (g72_0 x0.2.2.2.2.2.2.2.2.2.1 x0.2.2.2.2.2.2.2.2.2.2.1) (Int.toNat v66) 0 < 0)) = true
      · rw [if_pos b1] at h
        obtain ⟨s2, h⟩ := h
        obtain ⟨s3, h⟩ := h
        obtain ⟨s4, h⟩ := h
        obtain ⟨s5, h⟩ := h
        obtain ⟨s6, h⟩ := h
        exact AtV.go tabOk ext29Ok mixed false [] [(3, Ty.cons (Ty.int .i64) YA10)] [3, 64, 65, 66] [0, 1] [true, true] (a1 b0 (a1 s0 (a1 s1 (a1 b1 (a1 s2 (a1 s3 (a1 s4 (a1 s5 (a1 s6 trivial))))))))) (ih16 _ _ _ _ h K q) (by kernel_rfl)
      · rw [if_neg b1] at h
        replace b1 := Bool.eq_false_iff.2 b1
        obtain ⟨s2, h⟩ := h
        exact AtV.go tabOk ext29Ok mixed false [] [(3, Ty.cons (Ty.int .i64) YA10)] [3, 64, 65, 66] [0, 1] [true, false] (a1 b0 (a1 s0 (a1 s1 (a1 b1 (a1 s2 trivial))))) (ih16 _ _ _ _ h K q) (by kernel_rfl)
    · rw [if_neg b0] at h
      replace b0 := Bool.eq_false_iff.2 b0
      subst h
      exact AtV.ret Tryz.func29 tabOk ext29Ok mixed false [] tys29 [false] (a1 b0 trivial) (by kernel_rfl)
def fG29 (r : Int × Int × Int × Unit) (_ : Nat) (x : ByteArray × Int × Int × Int × Unit) : List TyB3 :=
  if (!g68_0 (x.2.1, x.2.2.1, 75 * x.2.1 + 15 * x.2.2.1 + x.2.2.2.1, ()) r) = true then [(3, x.1, g70_0 (75 * x.2.1 + 15 * x.2.2.1 + x.2.2.2.1), ())] else []
def fC29 (d r : Int) (_ : Nat) (x : TyB0) : List TyB3 := if g71_0 x d r = true then [(4, x.1, ByteArray.mk #[111, 118, 101, 114, 100, 117, 101], ())] else []
def fS29 (i : Nat) (n : Int) : List TyB3 := if decide (n < 0) = true then [(5, g70_0 ((i : Int) + 1), g70_0 n, ())] else []
def g29_0 (x0 : (TyA0)) : List TyB3 :=
  bl (fG29 x0.2.2.2.2.2.1) 0 x0.2.2.2.2.1 ++ bl (fC29 x0.2.2.2.2.2.2.2.1 x0.2.2.2.2.2.2.2.2.1) 0 x0.2.2.2.2.2.2.1 ++ bl fS29 0 (g72_0 x0.2.2.2.2.2.2.2.2.2.1 x0.2.2.2.2.2.2.2.2.2.2.1)
def P29 (x0 : (TyA0)) : Prop := x0.2.2.2.2.1.length ≤ 1048576 ∧ x0.2.2.2.2.2.2.1.length ≤ 1048576 ∧ (g72_0 x0.2.2.2.2.2.2.2.2.2.1 x0.2.2.2.2.2.2.2.2.2.2.1).length ≤ 1048576 ∧
  (∀ x ∈ x0.2.2.2.2.1, P69 x) ∧ (∀ x ∈ x0.2.2.2.2.2.2.1, P71 x x0.2.2.2.2.2.2.2.1 x0.2.2.2.2.2.2.2.2.1) ∧ P72 x0.2.2.2.2.2.2.2.2.2.1 x0.2.2.2.2.2.2.2.2.2.2.1
theorem dec29 (n : Int) : P70 n := ⟨rfl, trivial⟩
theorem top29 (x0 : (TyA0)) (h : P29 x0) : ∃ n, R29 n x0 [⟨.sl (.cons (.int .i64) (.cons .str (.cons .str .unit))), g29_0 x0⟩] := by
  obtain ⟨h1, h2, h3, h4, h5, h6⟩ := h
  have hm : 1048576 ≤ maxLen := by decide
  have hmx : maxLen ≤ 9223372036854775807 := by decide
  have l1 : ∀ i x, (fG29 x0.2.2.2.2.2.1 i x).length ≤ 1 := fun i x => by unfold fG29; split <;> simp
  have l2 : ∀ i x, (fC29 x0.2.2.2.2.2.2.2.1 x0.2.2.2.2.2.2.2.2.1 i x).length ≤ 1 := fun i x => by unfold fC29; split <;> simp
  have l3 : ∀ i x, (fS29 i x).length ≤ 1 := fun i x => by unfold fS29; split <;> simp
  have b1 := bl_len _ l1 x0.2.2.2.2.1 0
  have b2 := bl_len _ l2 x0.2.2.2.2.2.2.1 0
  have k3 := loop_build0 (g72_0 x0.2.2.2.2.2.2.2.2.2.1 x0.2.2.2.2.2.2.2.2.2.2.1) 0 fS29 l3 2097152 (fun n i h => R29_16 n i h x0 [⟨.sl (.cons (.int .i64) (.cons .str (.cons .str .unit))), g29_0 x0⟩]) (fun n i h hi hh hr => by
    rw [R29_16, if_pos (by simp only [decide_eq_true_eq]; omega)]
    simp only [Int.toNat_natCast]
    refine ⟨by omega, by omega, ?_⟩
    unfold fS29 at hr
    by_cases hc : decide ((g72_0 x0.2.2.2.2.2.2.2.2.2.1 x0.2.2.2.2.2.2.2.2.2.2.1).getD i 0 < 0) = true
    · rw [if_pos hc] at hr ⊢
      exact ⟨by rw [i64_iff]; omega, dec29 _, dec29 _, by omega, by rw [i64_iff]; omega, hr⟩
    · rw [if_neg hc] at hr ⊢
      rw [List.append_nil] at hr
      exact ⟨by rw [i64_iff]; omega, hr⟩) 1 (bl (fG29 x0.2.2.2.2.2.1) 0 x0.2.2.2.2.1 ++ bl (fC29 x0.2.2.2.2.2.2.2.1 x0.2.2.2.2.2.2.2.2.1) 0 x0.2.2.2.2.2.2.1) (by simp only [List.length_append]; omega) (by
    rw [R29_16, if_neg (by simp)]
    rfl)
  have k2 := loop_build0 x0.2.2.2.2.2.2.1 (ByteArray.empty, (0 : Int), (0 : Int), (0 : Int), (0 : Int), ()) (fC29 x0.2.2.2.2.2.2.2.1 x0.2.2.2.2.2.2.2.2.1) l2 1048576 (fun n i h => R29_9 n i h x0 [⟨.sl (.cons (.int .i64) (.cons .str (.cons .str .unit))), g29_0 x0⟩]) (fun n i h hi hh hr => by
    rw [R29_9, if_pos (by simp only [decide_eq_true_eq]; omega)]
    simp only [Int.toNat_natCast]
    refine ⟨by omega, by omega, h5 _ (mem_getD _ i (ByteArray.empty, (0 : Int), (0 : Int), (0 : Int), (0 : Int), ()) hi), ?_⟩
    unfold fC29 at hr
    by_cases hc : g71_0 (x0.2.2.2.2.2.2.1.getD i (ByteArray.empty, (0 : Int), (0 : Int), (0 : Int), (0 : Int), ())) x0.2.2.2.2.2.2.2.1 x0.2.2.2.2.2.2.2.2.1 = true
    · rw [if_pos hc] at hr ⊢
      exact ⟨by omega, by rw [i64_iff]; omega, hr⟩
    · rw [if_neg hc] at hr ⊢
      rw [List.append_nil] at hr
      exact ⟨by rw [i64_iff]; omega, hr⟩) (1 + (g72_0 x0.2.2.2.2.2.2.2.2.2.1 x0.2.2.2.2.2.2.2.2.2.2.1).length + 1) (bl (fG29 x0.2.2.2.2.2.1) 0 x0.2.2.2.2.1) (by omega) (by
    rw [R29_9, if_neg (by simp)]
    exact ⟨h6, k3⟩)
  have k1 := loop_build0 x0.2.2.2.2.1 (ByteArray.empty, (0 : Int), (0 : Int), (0 : Int), ()) (fG29 x0.2.2.2.2.2.1) l1 0 (fun n i h => R29_3 n i h x0 [⟨.sl (.cons (.int .i64) (.cons .str (.cons .str .unit))), g29_0 x0⟩]) (fun n i h hi hh hr => by
    rw [R29_3, if_pos (by simp only [decide_eq_true_eq]; omega)]
    simp only [Int.toNat_natCast]
    have p := h4 _ (mem_getD _ i (ByteArray.empty, (0 : Int), (0 : Int), (0 : Int), ()) hi)
    refine ⟨by omega, by omega, p, ?_⟩
    unfold fG29 at hr
    generalize hy : x0.2.2.2.2.1.getD i (ByteArray.empty, (0 : Int), (0 : Int), (0 : Int), ()) = y at p hr ⊢
    by_cases hc : (!g68_0 (y.2.1, y.2.2.1, 75 * y.2.1 + 15 * y.2.2.1 + y.2.2.2.1, ()) x0.2.2.2.2.2.1) = true
    · rw [if_pos hc] at hr ⊢
      exact ⟨p, dec29 _, by omega, by rw [i64_iff]; omega, hr⟩
    · rw [if_neg hc] at hr ⊢
      rw [List.append_nil] at hr
      exact ⟨by rw [i64_iff]; omega, hr⟩) (1 + (g72_0 x0.2.2.2.2.2.2.2.2.2.1 x0.2.2.2.2.2.2.2.2.2.2.1).length + 1 + x0.2.2.2.2.2.2.1.length + 1) [] (by simp) (by
    rw [R29_3, if_neg (by simp)]
    exact k2)
  exact ⟨1 + (g72_0 x0.2.2.2.2.2.2.2.2.2.1 x0.2.2.2.2.2.2.2.2.2.2.1).length + 1 + x0.2.2.2.2.2.2.1.length + 1 + x0.2.2.2.2.1.length + 1, by rw [R29]; exact k1⟩
def S29 : Am.Spec := { sig := sig29, pre := fun ⟨x0, _⟩ => P29 x0, res := fun ⟨x0, _⟩ => [⟨.sl (.cons (.int .i64) (.cons .str (.cons .str .unit))), g29_0 x0⟩] }
theorem con29 : Contract Tryz.prog 29 S29 := contract_of Tryz.func29 hb29 (Nat.le_of_ble_eq_true (by kernel_rfl)) (fun ⟨x0, _⟩ h hwf K q =>
  let ⟨_, hn⟩ := top29 x0 h
  (snd29 _).1 x0 _ hn K q)
end
noncomputable section
def ext28c29 : Ext := [(67, S67), (29, S29)]
theorem ext28c29Ok : ExtOk Tryz.prog ext28c29 := ⟨⟨ca67, con67⟩, ⟨ca29, con29⟩, trivial⟩
noncomputable def b28c29 : Code := bodyOf Tryz.f28
theorem hb28c29 : Tryz.f28.body = some b28c29 := by kernel_rfl
def sig28c29 : List AT := [AT.v YA0, AT.fns [29]]
def tys28c29 : List Ty := [Ty.sl YA8, Ty.int .i64]
def kds28c29 : List RK := []
def oks28c29 : List AT := owns sig28c29
def P28c29 (x0 : TyA0) : Prop := (if (!g67_0 x0) = true then True else ((P29 x0) ∧ ((List.length (g29_0 x0) * 40 ≤ 140737488355328) ∧ True)))
def g28c29_0 (x0 : TyA0) : List TyB3 := (if (!g67_0 x0) = true then [] else g29_0 x0)
def g28c29_1 (x0 : TyA0) : Int := (if (!g67_0 x0) = true then 1 else 0)
theorem at28c29 (x0 : TyA0) (h : P28c29 x0) (K : Ctx) (q : Nat → Value) : AtV Tryz.prog 28 (PostR kds28c29 oks28c29 [⟨Ty.sl YA8, g28c29_0 x0⟩, ⟨Ty.int .i64, g28c29_1 x0⟩] [] [] q K) 25 K q [] [.code b28c29] (entE 0 0 sig28c29 (x0, (), ())) (entL sig28c29 (x0, (), ())) := by
  unfold P28c29 at h
  unfold g28c29_0 g28c29_1
  by_cases b0 : (!g67_0 x0) = true
  · try simp only [if_pos b0] at h ⊢
    exact AtV.ret Tryz.func28 tabOk ext28c29Ok mixed false [1000007] tys28c29 [true] (a1 trivial (a1 b0 trivial)) (by kernel_rfl)
  · try simp only [if_neg b0] at h ⊢
    replace b0 := Bool.eq_false_iff.2 b0
    obtain ⟨s0, h⟩ := h
    obtain ⟨s1, h⟩ := h
    exact AtV.ret Tryz.func28 tabOk ext28c29Ok mixed false [1000007] tys28c29 [false, true, false] (a1 trivial (a1 b0 (a1 (rfl : true = true) (a1 ((by decide) : (0 : Int) ≤ (0 : Int)) (a1 ((by decide) : (0 : Int) < (1 : Int)) (a1 s0 (a1 s1 (a1 ((by decide) : InR .i64 1) (a1 (rfl : false = false) trivial))))))))) (by kernel_rfl)
def S28c29 : Am.Spec := { sig := sig28c29, pre := fun ⟨x0, _⟩ => P28c29 x0, res := fun ⟨x0, _⟩ => [⟨Ty.sl YA8, g28c29_0 x0⟩, ⟨Ty.int .i64, g28c29_1 x0⟩], kds := kds28c29 }
theorem con28c29 : Contract Tryz.prog 28 S28c29 := contract_of Tryz.func28 hb28c29 (Nat.le_of_ble_eq_true (by kernel_rfl)) (fun ⟨x0, _⟩ h _ K q => at28c29 x0 h K q)
end
noncomputable section
def ext7 : Ext := [(28, S28c29)]
theorem ext7Ok : ExtOk Tryz.prog ext7 := ⟨⟨ca28, con28c29⟩, trivial⟩
noncomputable def b7 : Code := bodyOf Tryz.f7
theorem hb7 : Tryz.f7.body = some b7 := by kernel_rfl
def sig7 : List AT := [AT.v YA0]
def tys7 : List Ty := [Ty.sl YA8, Ty.int .i64]
def kds7 : List RK := []
def oks7 : List AT := owns sig7
def P7 (x0 : TyA0) : Prop := ((P28c29 x0) ∧ True)
def g7_0 (x0 : TyA0) : List TyB3 := g28c29_0 x0
def g7_1 (x0 : TyA0) : Int := g28c29_1 x0
theorem at7 (x0 : TyA0) (h : P7 x0) (K : Ctx) (q : Nat → Value) : AtV Tryz.prog 7 (PostR kds7 oks7 [⟨Ty.sl YA8, g7_0 x0⟩, ⟨Ty.int .i64, g7_1 x0⟩] [] [] q K) 9 K q [] [.code b7] (entE 0 0 sig7 (x0, ())) (entL sig7 (x0, ())) := by
  unfold P7 at h
  unfold g7_0 g7_1
  obtain ⟨s0, h⟩ := h
  exact AtV.ret Tryz.func7 tabOk ext7Ok mixed false [] tys7 [] (a1 s0 trivial) (by kernel_rfl)
def S7 : Am.Spec := { sig := sig7, pre := fun ⟨x0, _⟩ => P7 x0, res := fun ⟨x0, _⟩ => [⟨Ty.sl YA8, g7_0 x0⟩, ⟨Ty.int .i64, g7_1 x0⟩], kds := kds7 }
theorem con7 : Contract Tryz.prog 7 S7 := contract_of Tryz.func7 hb7 (Nat.le_of_ble_eq_true (by kernel_rfl)) (fun ⟨x0, _⟩ h _ K q => at7 x0 h K q)
end
noncomputable section
def ext79 : Ext := []
theorem ext79Ok : ExtOk Tryz.prog ext79 := trivial
noncomputable def b79 : Code := bodyOf Tryz.f79
theorem hb79 : Tryz.f79.body = some b79 := by kernel_rfl
def sig79 : List AT := [AT.v (Ty.int .i64), AT.v (Ty.int .i64), AT.v (Ty.int .i64)]
def tys79 : List Ty := [Ty.bool]
def kds79 : List RK := []
def oks79 : List AT := owns sig79
def P79 (x0 : Int) (x1 : Int) (x2 : Int) : Prop := True
def g79_0 (x0 : Int) (x1 : Int) (x2 : Int) : Bool := (if (decide (x0 ≥ x1)) = true then decide (x0 ≤ x2) else false)
theorem at79 (x0 : Int) (x1 : Int) (x2 : Int) (h : P79 x0 x1 x2) (K : Ctx) (q : Nat → Value) : AtV Tryz.prog 79 (PostR kds79 oks79 [⟨Ty.bool, g79_0 x0 x1 x2⟩] [] [] q K) 15 K q [] [.code b79] (entE 0 0 sig79 (x0, x1, x2, ())) (entL sig79 (x0, x1, x2, ())) := by
  unfold P79 at h
  unfold g79_0
  by_cases b0 : (decide (x0 ≥ x1)) = true
  · try simp only [if_pos b0] at h ⊢
    exact AtV.ret Tryz.func79 tabOk ext79Ok mixed false [] tys79 [true] (a1 b0 trivial) (by kernel_rfl)
  · try simp only [if_neg b0] at h ⊢
    replace b0 := Bool.eq_false_iff.2 b0
    exact AtV.ret Tryz.func79 tabOk ext79Ok mixed false [] tys79 [false] (a1 b0 trivial) (by kernel_rfl)
def S79 : Am.Spec := { sig := sig79, pre := fun ⟨x0, x1, x2, _⟩ => P79 x0 x1 x2, res := fun ⟨x0, x1, x2, _⟩ => [⟨Ty.bool, g79_0 x0 x1 x2⟩], kds := kds79 }
theorem con79 : Contract Tryz.prog 79 S79 := contract_of Tryz.func79 hb79 (Nat.le_of_ble_eq_true (by kernel_rfl)) (fun ⟨x0, x1, x2, _⟩ h _ K q => at79 x0 x1 x2 h K q)
end
noncomputable section
def ext80 : Ext := []
theorem ext80Ok : ExtOk Tryz.prog ext80 := trivial
noncomputable def b80 : Code := bodyOf Tryz.f80
theorem hb80 : Tryz.f80.body = some b80 := by kernel_rfl
def sig80 : List AT := [AT.p YA2]
def tys80 : List Ty := [Ty.int .i64]
def kds80 : List RK := []
def oks80 : List AT := owns sig80
def E80_3 (v3 : Int) (v4 : Int) (x0 : List TyB4 × Int × Int × Unit) : Env := [(0, PV.a (Atom.ptr YA2 x0)), (3, PV.a (Atom.val (Value.int .i64 v3))), (4, PV.a (Atom.val (Value.int .i64 v4)))]
def L80_3 (v3 : Int) (v4 : Int) (x0 : List TyB4 × Int × Int × Unit) : Heap := []
mutual
def R80 : Nat → List TyB4 × Int × Int × Unit → List Dyn → Prop
  | 0, _, _ => False
  | n + 1, x0, ds => (R80_3 n (0) (0) (x0) ds)
def R80_3 : Nat → Int → Int → List TyB4 × Int × Int × Unit → List Dyn → Prop
  | 0, _, _, _, _ => False
  | n + 1, v3, v4, x0, ds => (if (decide (v4 < (↑(List.length x0.1) : Int))) = true then ((0 ≤ v4) ∧ (v4 < (↑(List.length x0.1) : Int)) ∧ ((InR .i64 (v3 + (List.getD x0.1 (Int.toNat v4) (0, 0, ())).1)) ∧ ((InR .i64 (v4 + 1)) ∧ (R80_3 n (v3 + (List.getD x0.1 (Int.toNat v4) (0, 0, ())).1) (v4 + 1) (x0) ds)))) else (ds = [Dyn.mk (Ty.int .i64) v3]))
end
theorem snd80 : ∀ n, (∀ (x0 : List TyB4 × Int × Int × Unit) ds, R80 n x0 ds → ∀ K q, AtV Tryz.prog 80 (PostR kds80 oks80 ds [] [] q K) 25 K q [] [.code b80] (entE 0 0 sig80 (x0, ())) (entL sig80 (x0, ()))) ∧ (∀ (v3 : Int) (v4 : Int) (x0 : List TyB4 × Int × Int × Unit) ds, R80_3 n v3 v4 x0 ds → ∀ K q, AtV Tryz.prog 80 (PostR kds80 oks80 ds [] [] q K) 25 K q [] (cutAt b80 3) (E80_3 v3 v4 x0) (L80_3 v3 v4 x0)) := by
  intro n
  induction n with
  | zero => exact ⟨fun _ _ h => by simp only [R80] at h, fun _ _ _ _ h => by simp only [R80_3] at h⟩
  | succ n ih =>
  obtain ⟨ih, ih3⟩ := ih
  refine ⟨?_, ?_⟩
  · intro x0 ds h K q
    rw [R80] at h
    exact AtV.go tabOk ext80Ok mixed false [] [] [0, 3, 4] [] [] trivial (ih3 _ _ _ _ h K q) (by kernel_rfl)
  · intro v3 v4 x0 ds h K q
    rw [R80_3] at h
    by_cases b0 : (decide (v4 < (↑(List.length x0.1) : Int))) = true
    · rw [if_pos b0] at h
      obtain ⟨s0, s1, h⟩ := h
      obtain ⟨s2, h⟩ := h
      obtain ⟨s3, h⟩ := h
      exact AtV.go tabOk ext80Ok mixed false [] [] [0, 3, 4] [] [true] (a1 b0 (a1 s0 (a1 s1 (a1 s2 (a1 s3 trivial))))) (ih3 _ _ _ _ h K q) (by kernel_rfl)
    · rw [if_neg b0] at h
      replace b0 := Bool.eq_false_iff.2 b0
      subst h
      exact AtV.ret Tryz.func80 tabOk ext80Ok mixed false [] tys80 [false] (a1 b0 trivial) (by kernel_rfl)
def sum80 (xs : List TyB4) : Int := xs.foldr (fun x n => x.1 + n) 0
def g80_0 (x0 : List TyB4 × Int × Int × Unit) : Int := sum80 x0.1
def P80 (x0 : List TyB4 × Int × Int × Unit) : Prop := x0.1.length ≤ 1000000 ∧ ∀ x ∈ x0.1, 0 ≤ x.1 ∧ x.1 ≤ 1000000000
theorem run80 (x0 : List TyB4 × Int × Int × Unit) (hl : x0.1.length ≤ 1000000) (hx : ∀ x ∈ x0.1, 0 ≤ x.1 ∧ x.1 ≤ 1000000000) : ∀ (k i : Nat) (v : Int), i + k = x0.1.length → 0 ≤ v → v ≤ 1000000000 * (i : Int) →
    R80_3 (k + 1) v (i : Int) x0 [⟨.int .i64, v + sum80 (x0.1.drop i)⟩] := by
  intro k
  induction k with
  | zero =>
    intro i v hi h0 h1
    rw [R80_3, if_neg (by simp only [decide_eq_true_eq]; omega), drop_end _ _ (by omega)]
    simp [sum80]
  | succ k ih =>
    intro i v hi h0 h1
    have hlt : i < x0.1.length := by omega
    have hm := hx _ (mem_getD x0.1 i ((0 : Int), (0 : Int), ()) hlt)
    have h := ih (i + 1) (v + (x0.1.getD i ((0 : Int), (0 : Int), ())).1) (by omega) (by omega) (by omega)
    rw [R80_3, if_pos (by simp only [decide_eq_true_eq]; omega)]
    simp only [Int.toNat_natCast]
    refine ⟨by omega, by omega, by rw [i64_iff]; omega, by rw [i64_iff]; omega, ?_⟩
    rw [drop_get x0.1 i ((0 : Int), (0 : Int), ()) hlt]
    have e : ∀ (y : Int × Int × Unit) l, v + sum80 (y :: l) = v + y.1 + sum80 l := fun y l => by
      show v + (y.1 + sum80 l) = _; omega
    rw [e]
    exact h
theorem top80 (x0 : List TyB4 × Int × Int × Unit) (h : P80 x0) : R80 (x0.1.length + 1 + 1) x0 [⟨.int .i64, g80_0 x0⟩] := by
  rw [R80]
  have := run80 x0 h.1 h.2 x0.1.length 0 0 (by omega) (by omega) (by omega)
  simpa [g80_0] using this
def S80 : Am.Spec := { sig := sig80, pre := fun ⟨x0, _⟩ => P80 x0, res := fun ⟨x0, _⟩ => [⟨.int .i64, g80_0 x0⟩] }
theorem con80 : Contract Tryz.prog 80 S80 := contract_of Tryz.func80 hb80 (Nat.le_of_ble_eq_true (by kernel_rfl)) (fun ⟨x0, _⟩ h hwf K q =>
  (snd80 _).1 x0 _ (top80 x0 h) K q)
theorem sum80_le (xs : List TyB4) (h : ∀ x ∈ xs, 0 ≤ x.1 ∧ x.1 ≤ 3000000) : 0 ≤ sum80 xs ∧ sum80 xs ≤ 3000000 * (xs.length : Int) := by
  induction xs with
  | nil => exact ⟨Int.le_refl _, Int.le_refl _⟩
  | cons x r ih =>
    obtain ⟨i1, i2⟩ := ih fun y hy => h y (List.mem_cons_of_mem _ hy)
    obtain ⟨x1, x2⟩ := h x (List.mem_cons_self ..)
    show 0 ≤ x.1 + sum80 r ∧ x.1 + sum80 r ≤ _
    simp only [List.length_cons]
    omega
end
noncomputable section
def ext49 : Ext := [(79, S79), (80, S80)]
theorem ext49Ok : ExtOk Tryz.prog ext49 := ⟨⟨ca79, con79⟩, ⟨ca80, con80⟩, trivial⟩
noncomputable def b49 : Code := bodyOf Tryz.f49
theorem hb49 : Tryz.f49.body = some b49 := by kernel_rfl
def sig49 : List AT := [AT.p YA2]
def tys49 : List Ty := [Ty.bool]
def kds49 : List RK := []
def oks49 : List AT := owns sig49
def E49_2 (v3 : Int) (x0 : List TyB4 × Int × Int × Unit) : Env := [(0, PV.a (Atom.ptr YA2 x0)), (3, PV.a (Atom.val (Value.int .i64 v3)))]
def L49_2 (v3 : Int) (x0 : List TyB4 × Int × Int × Unit) : Heap := []
mutual
def R49 : Nat → List TyB4 × Int × Int × Unit → List Dyn → Prop
  | 0, _, _ => False
  | n + 1, x0, ds => (R49_2 n (0) (x0) ds)
def R49_2 : Nat → Int → List TyB4 × Int × Int × Unit → List Dyn → Prop
  | 0, _, _, _ => False
  | n + 1, v3, x0, ds => (if (decide (v3 < (↑(List.length x0.1) : Int))) = true then ((0 ≤ v3) ∧ (v3 < (↑(List.length x0.1) : Int)) ∧ (if (!g79_0 (List.getD x0.1 (Int.toNat v3) (0, 0, ())).1 1 3000000) = true then (ds = [Dyn.mk Ty.bool false]) else ((0 ≤ v3) ∧ (v3 < (↑(List.length x0.1) : Int)) ∧ (if (!g79_0 (List.getD x0.1 (Int.toNat v3) (0, 0, ())).2.1 0 900) = true then (ds = [Dyn.mk Ty.bool false]) else ((InR .i64 (v3 + 1)) ∧ (R49_2 n (v3 + 1) (x0) ds)))))) else (if ((↑(List.length x0.1) : Int) == 0) = true then (ds = [Dyn.mk Ty.bool false]) else (if (decide ((↑(List.length x0.1) : Int) > 12)) = true then (ds = [Dyn.mk Ty.bool false]) else ((P80 x0) ∧ (if (decide (g80_0 x0 ≤ 3000000)) = true then (if (g79_0 x0.2.1 0 (g80_0 x0)) = true then (ds = [Dyn.mk Ty.bool (g79_0 x0.2.2.1 x0.2.1 (g80_0 x0))]) else (ds = [Dyn.mk Ty.bool false])) else (ds = [Dyn.mk Ty.bool false]))))))
end
theorem snd49 : ∀ n, (∀ (x0 : List TyB4 × Int × Int × Unit) ds, R49 n x0 ds → ∀ K q, AtV Tryz.prog 49 (PostR kds49 oks49 ds [] [] q K) 74 K q [] [.code b49] (entE 0 0 sig49 (x0, ())) (entL sig49 (x0, ()))) ∧ (∀ (v3 : Int) (x0 : List TyB4 × Int × Int × Unit) ds, R49_2 n v3 x0 ds → ∀ K q, AtV Tryz.prog 49 (PostR kds49 oks49 ds [] [] q K) 74 K q [] (cutAt b49 2) (E49_2 v3 x0) (L49_2 v3 x0)) := by
  intro n
  induction n with
  | zero => exact ⟨fun _ _ h => by simp only [R49] at h, fun _ _ _ h => by simp only [R49_2] at h⟩
  | succ n ih =>
  obtain ⟨ih, ih2⟩ := ih
  refine ⟨?_, ?_⟩
  · intro x0 ds h K q
    rw [R49] at h
    exact AtV.go tabOk ext49Ok mixed false [] [] [0, 3] [] [] trivial (ih2 _ _ _ h K q) (by kernel_rfl)
  · intro v3 x0 ds h K q
    rw [R49_2] at h
    by_cases b0 : (decide (v3 < (↑(List.length x0.1) : Int))) = true
    · rw [if_pos b0] at h
      obtain ⟨s0, s1, h⟩ := h
      by_cases b1 : (!g79_0 (List.getD x0.1 (Int.toNat v3) (0, 0, ())).1 1 3000000) = true
      · rw [if_pos b1] at h
        subst h
        exact AtV.ret Tryz.func49 tabOk ext49Ok mixed false [] tys49 [true, true, true] (a1 b0 (a1 s0 (a1 s1 (a1 trivial (a1 b1 (a1 (rfl : true = true) trivial)))))) (by kernel_rfl)
      · rw [if_neg b1] at h
        replace b1 := Bool.eq_false_iff.2 b1
        obtain ⟨s2, s3, h⟩ := h
        by_cases b2 : (!g79_0 (List.getD x0.1 (Int.toNat v3) (0, 0, ())).2.1 0 900) = true
        · rw [if_pos b2] at h
          subst h
          exact AtV.ret Tryz.func49 tabOk ext49Ok mixed false [] tys49 [true, false, true] (a1 b0 (a1 s0 (a1 s1 (a1 trivial (a1 b1 (a1 s2 (a1 s3 (a1 trivial (a1 b2 trivial))))))))) (by kernel_rfl)
        · rw [if_neg b2] at h
          replace b2 := Bool.eq_false_iff.2 b2
          obtain ⟨s4, h⟩ := h
          exact AtV.go tabOk ext49Ok mixed false [] [] [0, 3] [] [true, false, false] (a1 b0 (a1 s0 (a1 s1 (a1 trivial (a1 b1 (a1 s2 (a1 s3 (a1 trivial (a1 b2 (a1 s4 trivial)))))))))) (ih2 _ _ _ h K q) (by kernel_rfl)
    · rw [if_neg b0] at h
      replace b0 := Bool.eq_false_iff.2 b0
      by_cases b1 : ((↑(List.length x0.1) : Int) == 0) = true
      · rw [if_pos b1] at h
        subst h
        exact AtV.ret Tryz.func49 tabOk ext49Ok mixed false [] tys49 [false, true, true] (a1 b0 (a1 b1 (a1 (rfl : true = true) trivial))) (by kernel_rfl)
      · rw [if_neg b1] at h
        replace b1 := Bool.eq_false_iff.2 b1
        by_cases b2 : (decide ((↑(List.length x0.1) : Int) > 12)) = true
        · rw [if_pos b2] at h
          subst h
          exact AtV.ret Tryz.func49 tabOk ext49Ok mixed false [] tys49 [false, false, true] (a1 b0 (a1 b1 (a1 b2 trivial))) (by kernel_rfl)
        · rw [if_neg b2] at h
          replace b2 := Bool.eq_false_iff.2 b2
          obtain ⟨s0, h⟩ := h
          by_cases b3 : (decide (g80_0 x0 ≤ 3000000)) = true
          · rw [if_pos b3] at h
            by_cases b4 : (g79_0 x0.2.1 0 (g80_0 x0)) = true
            · rw [if_pos b4] at h
              subst h
              exact AtV.ret Tryz.func49 tabOk ext49Ok mixed false [] tys49 [false, false, false, true, true] (a1 b0 (a1 b1 (a1 b2 (a1 s0 (a1 b3 (a1 trivial (a1 b4 (a1 trivial trivial)))))))) (by kernel_rfl)
            · rw [if_neg b4] at h
              replace b4 := Bool.eq_false_iff.2 b4
              subst h
              exact AtV.ret Tryz.func49 tabOk ext49Ok mixed false [] tys49 [false, false, false, true, false] (a1 b0 (a1 b1 (a1 b2 (a1 s0 (a1 b3 (a1 trivial (a1 b4 trivial))))))) (by kernel_rfl)
          · rw [if_neg b3] at h
            replace b3 := Bool.eq_false_iff.2 b3
            subst h
            exact AtV.ret Tryz.func49 tabOk ext49Ok mixed false [] tys49 [false, false, false, false, false] (a1 b0 (a1 b1 (a1 b2 (a1 s0 (a1 b3 (a1 (rfl : false = false) trivial)))))) (by kernel_rfl)
def ok49 (x : TyB4) : Bool := g79_0 x.1 1 3000000 && g79_0 x.2.1 0 900
def fine49 (x0 : (List TyB4 × Int × Int × Unit)) : Bool := if decide (g80_0 x0 ≤ 3000000) = true then (if g79_0 x0.2.1 0 (g80_0 x0) = true then g79_0 x0.2.2.1 x0.2.1 (g80_0 x0) else false) else false
def g49_0 (x0 : (List TyB4 × Int × Int × Unit)) : Bool := x0.1.all ok49 && (decide (1 ≤ x0.1.length) && decide (x0.1.length ≤ 12)) && fine49 x0
def P49 (x0 : (List TyB4 × Int × Int × Unit)) : Prop := True
theorem in49 {x a b : Int} : g79_0 x a b = true ↔ a ≤ x ∧ x ≤ b := by
  unfold g79_0
  by_cases c1 : x ≥ a
  · by_cases c2 : x ≤ b
    · simp [c1, c2]
    · simp [c1, c2]
  · have : ¬ a ≤ x := c1
    simp [c1, this]
theorem lenp49 {x0 : (List TyB4 × Int × Int × Unit)} (h : x0.1.all ok49 = true) (hl : x0.1.length ≤ 12) : P80 x0 ∧ 0 ≤ g80_0 x0 ∧ g80_0 x0 ≤ 36000000 := by
  have hx : ∀ x ∈ x0.1, 0 ≤ x.1 ∧ x.1 ≤ 3000000 := fun x hx => by
    have := List.all_eq_true.1 h x hx
    unfold ok49 at this
    rw [Bool.and_eq_true] at this
    have := in49.1 this.1
    omega
  obtain ⟨s1, s2⟩ := sum80_le x0.1 hx
  refine ⟨⟨by omega, fun x h => by have := hx x h; omega⟩, s1, ?_⟩
  show sum80 x0.1 ≤ _
  omega
theorem run49 (x0 : (List TyB4 × Int × Int × Unit)) (hm : x0.1.length ≤ maxLen) (yes : List Dyn) (hend : ∀ n, x0.1.all ok49 = true → R49_2 (n + 1) (x0.1.length : Int) x0 yes) : ∀ (k i : Nat) (B : Bool), i + k = x0.1.length → (x0.1.drop i).all ok49 = B → (∀ j, j < i → ok49 (x0.1.getD j ((0 : Int), (0 : Int), ())) = true) →
    R49_2 (k + 1) (i : Int) x0 (if B = true then yes else [⟨.bool, false⟩]) := by
  intro k
  induction k with
  | zero =>
    intro i B hi hB hp
    have : i = x0.1.length := by omega
    subst this
    rw [drop_end _ _ (by omega)] at hB
    subst hB
    refine hend 0 (List.all_eq_true.2 fun x hx => ?_)
    obtain ⟨j, hj, rfl⟩ := List.getElem_of_mem hx
    have := hp j (by omega)
    rwa [getD_lt _ _ _ hj] at this
  | succ k ih =>
    intro i B hi hB hp
    have hlt : i < x0.1.length := by omega
    have hu := inR_up hm hlt
    rw [R49_2, if_pos (by simp only [decide_eq_true_eq]; omega)]
    rw [drop_get x0.1 i ((0 : Int), (0 : Int), ()) hlt, List.all_cons] at hB
    simp only [Int.toNat_natCast]
    refine ⟨by omega, by omega, ?_⟩
    by_cases h1 : ok49 (x0.1.getD i ((0 : Int), (0 : Int), ())) = true
    case neg =>
      have h1 := Bool.eq_false_iff.2 h1
      rw [h1, Bool.false_and] at hB
      subst hB
      by_cases c1 : g79_0 (x0.1.getD i ((0 : Int), (0 : Int), ())).1 1 3000000 = true
      · rw [if_neg (by rw [c1]; simp)]
        have c2 : g79_0 (x0.1.getD i ((0 : Int), (0 : Int), ())).2.1 0 900 = false := by
          unfold ok49 at h1; rw [c1] at h1; simpa using h1
        exact ⟨by omega, by omega, by rw [if_pos (by rw [c2]; rfl)] <;> rfl⟩
      · rw [if_pos (by rw [Bool.eq_false_iff.2 c1]; rfl)] <;> rfl
    case pos =>
      have hb := h1
      rw [h1, Bool.true_and] at hB
      unfold ok49 at hb
      rw [Bool.and_eq_true] at hb
      rw [if_neg (by rw [hb.1]; simp)]
      have e1 : (((i + 1 : Nat)) : Int) = (i : Int) + 1 := by omega
      have hnext := ih (i + 1) B (by omega) hB (fun j hj => by
        rcases Nat.lt_or_ge j i with h | h
        · exact hp j h
        · have : j = i := by omega
          subst this; exact h1)
      rw [e1] at hnext
      exact ⟨by omega, by omega, by rw [if_neg (by rw [hb.2]; simp)]; exact ⟨hu, hnext⟩⟩
theorem end49 (x0 : (List TyB4 × Int × Int × Unit)) (n : Nat) (h : x0.1.all ok49 = true) : R49_2 (n + 1) (x0.1.length : Int) x0 [⟨.bool, (decide (1 ≤ x0.1.length) && decide (x0.1.length ≤ 12)) && fine49 x0⟩] := by
  rw [R49_2, if_neg (by simp)]
  by_cases c1 : ((x0.1.length : Int) == 0) = true
  · rw [if_pos c1]
    have : ¬ 1 ≤ x0.1.length := by simp only [beq_iff_eq] at c1; omega
    rw [decide_eq_false this]; rfl
  · rw [if_neg c1]
    have d1 : 1 ≤ x0.1.length := by simp only [beq_iff_eq] at c1; omega
    by_cases c2 : (x0.1.length : Int) > 12
    · rw [if_pos (decide_eq_true c2)]
      have : ¬ x0.1.length ≤ 12 := by omega
      rw [decide_eq_false this, Bool.and_false]; rfl
    · rw [if_neg (by simpa using c2)]
      have d2 : x0.1.length ≤ 12 := by omega
      rw [decide_eq_true d1, decide_eq_true d2]
      refine ⟨(lenp49 h d2).1, ?_⟩
      unfold fine49
      split
      · split
        · rfl
        · rfl
      · rfl
theorem top49 (x0 : (List TyB4 × Int × Int × Unit)) (hm : x0.1.length ≤ maxLen) : ∃ n, R49 n x0 [⟨.bool, g49_0 x0⟩] := by
  refine ⟨x0.1.length + 1 + 1, ?_⟩
  rw [R49]
  have key := run49 x0 hm _ (end49 x0) x0.1.length 0 _ (by omega) rfl (fun j hj => by omega)
  rw [List.drop_zero] at key
  unfold g49_0
  cases h : x0.1.all ok49 with
  | true => rw [if_pos h] at key; rw [Bool.true_and]; exact key
  | false => rw [if_neg (by rw [h]; simp)] at key; exact key
def S49 : Am.Spec := { sig := sig49, pre := fun ⟨x0, _⟩ => P49 x0, res := fun ⟨x0, _⟩ => [⟨Ty.bool, g49_0 x0⟩] }
theorem con49 : Contract Tryz.prog 49 S49 := contract_of Tryz.func49 hb49 (Nat.le_of_ble_eq_true (by kernel_rfl)) (fun ⟨x0, _⟩ h hwf K q =>
  let ⟨n, hn⟩ := top49 x0 hwf.1.1.1
  (snd49 n).1 x0 _ hn K q)
end
noncomputable section
def ext50 : Ext := [(79, S79)]
theorem ext50Ok : ExtOk Tryz.prog ext50 := ⟨⟨ca79, con79⟩, trivial⟩
noncomputable def b50 : Code := bodyOf Tryz.f50
theorem hb50 : Tryz.f50.body = some b50 := by kernel_rfl
def sig50 : List AT := [AT.v (Ty.int .i64)]
def tys50 : List Ty := [Ty.bool]
def kds50 : List RK := []
def oks50 : List AT := owns sig50
def P50 (x0 : Int) : Prop := True
def g50_0 (x0 : Int) : Bool := g79_0 x0 0 3000000
theorem at50 (x0 : Int) (h : P50 x0) (K : Ctx) (q : Nat → Value) : AtV Tryz.prog 50 (PostR kds50 oks50 [⟨Ty.bool, g50_0 x0⟩] [] [] q K) 5 K q [] [.code b50] (entE 0 0 sig50 (x0, ())) (entL sig50 (x0, ())) := by
  unfold P50 at h
  unfold g50_0
  exact AtV.ret Tryz.func50 tabOk ext50Ok mixed false [] tys50 [] (a1 trivial trivial) (by kernel_rfl)
def S50 : Am.Spec := { sig := sig50, pre := fun ⟨x0, _⟩ => P50 x0, res := fun ⟨x0, _⟩ => [⟨Ty.bool, g50_0 x0⟩], kds := kds50 }
theorem con50 : Contract Tryz.prog 50 S50 := contract_of Tryz.func50 hb50 (Nat.le_of_ble_eq_true (by kernel_rfl)) (fun ⟨x0, _⟩ h _ K q => at50 x0 h K q)
end
noncomputable section
def ext51 : Ext := [(79, S79)]
theorem ext51Ok : ExtOk Tryz.prog ext51 := ⟨⟨ca79, con79⟩, trivial⟩
noncomputable def b51 : Code := bodyOf Tryz.f51
theorem hb51 : Tryz.f51.body = some b51 := by kernel_rfl
def sig51 : List AT := [AT.p YA9]
def tys51 : List Ty := [Ty.bool]
def kds51 : List RK := []
def oks51 : List AT := owns sig51
def P51 (x0 : Int × Int × Unit) : Prop := True
def g51_0 (x0 : Int × Int × Unit) : Bool := (if (g79_0 x0.1 0 100) = true then g79_0 x0.2.1 1 10000 else false)
theorem at51 (x0 : Int × Int × Unit) (h : P51 x0) (K : Ctx) (q : Nat → Value) : AtV Tryz.prog 51 (PostR kds51 oks51 [⟨Ty.bool, g51_0 x0⟩] [] [] q K) 15 K q [] [.code b51] (entE 0 0 sig51 (x0, ())) (entL sig51 (x0, ())) := by
  unfold P51 at h
  unfold g51_0
  by_cases b0 : (g79_0 x0.1 0 100) = true
  · try simp only [if_pos b0] at h ⊢
    exact AtV.ret Tryz.func51 tabOk ext51Ok mixed false [] tys51 [true] (a1 trivial (a1 b0 (a1 trivial trivial))) (by kernel_rfl)
  · try simp only [if_neg b0] at h ⊢
    replace b0 := Bool.eq_false_iff.2 b0
    exact AtV.ret Tryz.func51 tabOk ext51Ok mixed false [] tys51 [false] (a1 trivial (a1 b0 trivial)) (by kernel_rfl)
def S51 : Am.Spec := { sig := sig51, pre := fun ⟨x0, _⟩ => P51 x0, res := fun ⟨x0, _⟩ => [⟨Ty.bool, g51_0 x0⟩], kds := kds51 }
theorem con51 : Contract Tryz.prog 51 S51 := contract_of Tryz.func51 hb51 (Nat.le_of_ble_eq_true (by kernel_rfl)) (fun ⟨x0, _⟩ h _ K q => at51 x0 h K q)
end
noncomputable section
def ext52 : Ext := [(79, S79)]
theorem ext52Ok : ExtOk Tryz.prog ext52 := ⟨⟨ca79, con79⟩, trivial⟩
noncomputable def b52 : Code := bodyOf Tryz.f52
theorem hb52 : Tryz.f52.body = some b52 := by kernel_rfl
def sig52 : List AT := [AT.p YA4]
def tys52 : List Ty := [Ty.bool]
def kds52 : List RK := []
def oks52 : List AT := owns sig52
def P52 (x0 : Int × Int × Int × Int × Unit) : Prop := True
def g52_0 (x0 : Int × Int × Int × Int × Unit) : Bool := (if (g79_0 x0.1 1 2000) = true then (if (g79_0 x0.2.1 100 15000) = true then (if (g79_0 x0.2.2.1 100 x0.2.1) = true then g79_0 x0.2.2.2.1 0 3000000 else false) else false) else false)
theorem at52 (x0 : Int × Int × Int × Int × Unit) (h : P52 x0) (K : Ctx) (q : Nat → Value) : AtV Tryz.prog 52 (PostR kds52 oks52 [⟨Ty.bool, g52_0 x0⟩] [] [] q K) 33 K q [] [.code b52] (entE 0 0 sig52 (x0, ())) (entL sig52 (x0, ())) := by
  unfold P52 at h
  unfold g52_0
  by_cases b0 : (g79_0 x0.1 1 2000) = true
  · try simp only [if_pos b0] at h ⊢
    by_cases b1 : (g79_0 x0.2.1 100 15000) = true
    · try simp only [if_pos b1] at h ⊢
      by_cases b2 : (g79_0 x0.2.2.1 100 x0.2.1) = true
      · try simp only [if_pos b2] at h ⊢
        exact AtV.ret Tryz.func52 tabOk ext52Ok mixed false [] tys52 [true, true, true] (a1 trivial (a1 b0 (a1 trivial (a1 b1 (a1 trivial (a1 b2 (a1 trivial trivial))))))) (by kernel_rfl)
      · try simp only [if_neg b2] at h ⊢
        replace b2 := Bool.eq_false_iff.2 b2
        exact AtV.ret Tryz.func52 tabOk ext52Ok mixed false [] tys52 [true, true, false] (a1 trivial (a1 b0 (a1 trivial (a1 b1 (a1 trivial (a1 b2 trivial)))))) (by kernel_rfl)
    · try simp only [if_neg b1] at h ⊢
      replace b1 := Bool.eq_false_iff.2 b1
      exact AtV.ret Tryz.func52 tabOk ext52Ok mixed false [] tys52 [true, false, false] (a1 trivial (a1 b0 (a1 trivial (a1 b1 (a1 (rfl : false = false) trivial))))) (by kernel_rfl)
  · try simp only [if_neg b0] at h ⊢
    replace b0 := Bool.eq_false_iff.2 b0
    exact AtV.ret Tryz.func52 tabOk ext52Ok mixed false [] tys52 [false, false, false] (a1 trivial (a1 b0 (a1 (rfl : false = false) (a1 (rfl : false = false) trivial)))) (by kernel_rfl)
def S52 : Am.Spec := { sig := sig52, pre := fun ⟨x0, _⟩ => P52 x0, res := fun ⟨x0, _⟩ => [⟨Ty.bool, g52_0 x0⟩], kds := kds52 }
theorem con52 : Contract Tryz.prog 52 S52 := contract_of Tryz.func52 hb52 (Nat.le_of_ble_eq_true (by kernel_rfl)) (fun ⟨x0, _⟩ h _ K q => at52 x0 h K q)
end
noncomputable section
def ext124 : Ext := []
theorem ext124Ok : ExtOk Tryz.prog ext124 := trivial
noncomputable def b124 : Code := bodyOf Tryz.f124
theorem hb124 : Tryz.f124.body = some b124 := by kernel_rfl
def sig124 : List AT := [AT.v (Ty.int .u8)]
def tys124 : List Ty := [Ty.bool]
def kds124 : List RK := []
def oks124 : List AT := owns sig124
def P124 (x0 : Int) : Prop := True
def g124_0 (x0 : Int) : Bool := (if (decide (x0 ≥ 97)) = true then decide (x0 ≤ 122) else false)
theorem at124 (x0 : Int) (h : P124 x0) (K : Ctx) (q : Nat → Value) : AtV Tryz.prog 124 (PostR kds124 oks124 [⟨Ty.bool, g124_0 x0⟩] [] [] q K) 9 K q [] [.code b124] (entE 0 0 sig124 (x0, ())) (entL sig124 (x0, ())) := by
  unfold P124 at h
  unfold g124_0
  by_cases b0 : (decide (x0 ≥ 97)) = true
  · try simp only [if_pos b0] at h ⊢
    exact AtV.ret Tryz.func124 tabOk ext124Ok mixed false [] tys124 [true] (a1 b0 trivial) (by kernel_rfl)
  · try simp only [if_neg b0] at h ⊢
    replace b0 := Bool.eq_false_iff.2 b0
    exact AtV.ret Tryz.func124 tabOk ext124Ok mixed false [] tys124 [false] (a1 b0 trivial) (by kernel_rfl)
def S124 : Am.Spec := { sig := sig124, pre := fun ⟨x0, _⟩ => P124 x0, res := fun ⟨x0, _⟩ => [⟨Ty.bool, g124_0 x0⟩], kds := kds124 }
theorem con124 : Contract Tryz.prog 124 S124 := contract_of Tryz.func124 hb124 (Nat.le_of_ble_eq_true (by kernel_rfl)) (fun ⟨x0, _⟩ h _ K q => at124 x0 h K q)
end
noncomputable section
def ext125 : Ext := []
theorem ext125Ok : ExtOk Tryz.prog ext125 := trivial
noncomputable def b125 : Code := bodyOf Tryz.f125
theorem hb125 : Tryz.f125.body = some b125 := by kernel_rfl
def sig125 : List AT := [AT.v (Ty.int .u8)]
def tys125 : List Ty := [Ty.bool]
def kds125 : List RK := []
def oks125 : List AT := owns sig125
def P125 (x0 : Int) : Prop := True
def g125_0 (x0 : Int) : Bool := (if (decide (x0 ≥ 48)) = true then decide (x0 ≤ 57) else false)
theorem at125 (x0 : Int) (h : P125 x0) (K : Ctx) (q : Nat → Value) : AtV Tryz.prog 125 (PostR kds125 oks125 [⟨Ty.bool, g125_0 x0⟩] [] [] q K) 9 K q [] [.code b125] (entE 0 0 sig125 (x0, ())) (entL sig125 (x0, ())) := by
  unfold P125 at h
  unfold g125_0
  by_cases b0 : (decide (x0 ≥ 48)) = true
  · try simp only [if_pos b0] at h ⊢
    exact AtV.ret Tryz.func125 tabOk ext125Ok mixed false [] tys125 [true] (a1 b0 trivial) (by kernel_rfl)
  · try simp only [if_neg b0] at h ⊢
    replace b0 := Bool.eq_false_iff.2 b0
    exact AtV.ret Tryz.func125 tabOk ext125Ok mixed false [] tys125 [false] (a1 b0 trivial) (by kernel_rfl)
def S125 : Am.Spec := { sig := sig125, pre := fun ⟨x0, _⟩ => P125 x0, res := fun ⟨x0, _⟩ => [⟨Ty.bool, g125_0 x0⟩], kds := kds125 }
theorem con125 : Contract Tryz.prog 125 S125 := contract_of Tryz.func125 hb125 (Nat.le_of_ble_eq_true (by kernel_rfl)) (fun ⟨x0, _⟩ h _ K q => at125 x0 h K q)
end
noncomputable section
def ext106 : Ext := [(124, S124), (125, S125)]
theorem ext106Ok : ExtOk Tryz.prog ext106 := ⟨⟨ca124, con124⟩, ⟨ca125, con125⟩, trivial⟩
noncomputable def b106 : Code := bodyOf Tryz.f106
theorem hb106 : Tryz.f106.body = some b106 := by kernel_rfl
def sig106 : List AT := [AT.v (Ty.str)]
def tys106 : List Ty := [Ty.bool]
def kds106 : List RK := []
def oks106 : List AT := owns sig106
def E106_4 (v3 : Int) (x0 : ByteArray) : Env := [(0, PV.a (Atom.val (Value.string x0))), (3, PV.a (Atom.val (Value.int .i64 v3)))]
def L106_4 (v3 : Int) (x0 : ByteArray) : Heap := []
mutual
def R106 : Nat → ByteArray → List Dyn → Prop
  | 0, _, _ => False
  | n + 1, x0, ds => (if (ByteArray.toList x0 == ByteArray.toList (ByteArray.mk #[])) = true then (ds = [Dyn.mk Ty.bool false]) else (if (decide ((↑(ByteArray.size x0) : Int) > 10)) = true then (ds = [Dyn.mk Ty.bool false]) else ((0 < (↑(ByteArray.size x0) : Int)) ∧ (if (!g124_0 (↑(UInt8.toNat (List.getD (Array.toList (ByteArray.data x0)) 0 0)) : Int)) = true then (ds = [Dyn.mk Ty.bool false]) else (R106_4 n (0) (x0) ds)))))
def R106_4 : Nat → Int → ByteArray → List Dyn → Prop
  | 0, _, _, _ => False
  | n + 1, v3, x0, ds => (if (decide (v3 < (↑(ByteArray.size x0) : Int))) = true then ((0 ≤ v3) ∧ (v3 < (↑(ByteArray.size x0) : Int)) ∧ (if (!g124_0 (↑(UInt8.toNat (List.getD (Array.toList (ByteArray.data x0)) (Int.toNat v3) 0)) : Int)) = true then ((0 ≤ v3) ∧ (v3 < (↑(ByteArray.size x0) : Int)) ∧ (if (!g125_0 (↑(UInt8.toNat (List.getD (Array.toList (ByteArray.data x0)) (Int.toNat v3) 0)) : Int)) = true then (ds = [Dyn.mk Ty.bool false]) else ((InR .i64 (v3 + 1)) ∧ (R106_4 n (v3 + 1) (x0) ds)))) else ((InR .i64 (v3 + 1)) ∧ (R106_4 n (v3 + 1) (x0) ds)))) else (ds = [Dyn.mk Ty.bool true]))
end
theorem snd106 : ∀ n, (∀ (x0 : ByteArray) ds, R106 n x0 ds → ∀ K q, AtV Tryz.prog 106 (PostR kds106 oks106 ds [] [] q K) 35 K q [] [.code b106] (entE 0 0 sig106 (x0, ())) (entL sig106 (x0, ()))) ∧ (∀ (v3 : Int) (x0 : ByteArray) ds, R106_4 n v3 x0 ds → ∀ K q, AtV Tryz.prog 106 (PostR kds106 oks106 ds [] [] q K) 35 K q [] (cutAt b106 4) (E106_4 v3 x0) (L106_4 v3 x0)) := by
  intro n
  induction n with
  | zero => exact ⟨fun _ _ h => by simp only [R106] at h, fun _ _ _ h => by simp only [R106_4] at h⟩
  | succ n ih =>
  obtain ⟨ih, ih4⟩ := ih
  refine ⟨?_, ?_⟩
  · intro x0 ds h K q
    rw [R106] at h
    by_cases b0 : (ByteArray.toList x0 == ByteArray.toList (ByteArray.mk #[])) = true
    · rw [if_pos b0] at h
      subst h
      exact AtV.ret Tryz.func106 tabOk ext106Ok mixed false [] tys106 [true, true, true] (a1 b0 (a1 (rfl : true = true) (a1 (rfl : true = true) trivial))) (by kernel_rfl)
    · rw [if_neg b0] at h
      replace b0 := Bool.eq_false_iff.2 b0
      by_cases b1 : (decide ((↑(ByteArray.size x0) : Int) > 10)) = true
      · rw [if_pos b1] at h
        subst h
        exact AtV.ret Tryz.func106 tabOk ext106Ok mixed false [] tys106 [false, true, true] (a1 b0 (a1 b1 (a1 (rfl : true = true) trivial))) (by kernel_rfl)
      · rw [if_neg b1] at h
        replace b1 := Bool.eq_false_iff.2 b1
        obtain ⟨s0, h⟩ := h
        by_cases b2 : (!g124_0 (↑(UInt8.toNat (List.getD (Array.toList (ByteArray.data x0)) 0 0)) : Int)) = true
        · rw [if_pos b2] at h
          subst h
          exact AtV.ret Tryz.func106 tabOk ext106Ok mixed false [] tys106 [false, false, true] (a1 b0 (a1 b1 (a1 ((by decide) : (0 : Int) ≤ (0 : Int)) (a1 s0 (a1 trivial (a1 b2 trivial)))))) (by kernel_rfl)
        · rw [if_neg b2] at h
          replace b2 := Bool.eq_false_iff.2 b2
          exact AtV.go tabOk ext106Ok mixed false [] [] [0, 3] [] [false, false, false] (a1 b0 (a1 b1 (a1 ((by decide) : (0 : Int) ≤ (0 : Int)) (a1 s0 (a1 trivial (a1 b2 trivial)))))) (ih4 _ _ _ h K q) (by kernel_rfl)
  · intro v3 x0 ds h K q
    rw [R106_4] at h
    by_cases b0 : (decide (v3 < (↑(ByteArray.size x0) : Int))) = true
    · rw [if_pos b0] at h
      obtain ⟨s0, s1, h⟩ := h
      by_cases b1 : (!g124_0 (↑(UInt8.toNat (List.getD (Array.toList (ByteArray.data x0)) (Int.toNat v3) 0)) : Int)) = true
      · rw [if_pos b1] at h
        obtain ⟨s2, s3, h⟩ := h
        by_cases b2 : (!g125_0 (↑(UInt8.toNat (List.getD (Array.toList (ByteArray.data x0)) (Int.toNat v3) 0)) : Int)) = true
        · rw [if_pos b2] at h
          subst h
          exact AtV.ret Tryz.func106 tabOk ext106Ok mixed false [] tys106 [true, true, true] (a1 b0 (a1 s0 (a1 s1 (a1 trivial (a1 b1 (a1 s2 (a1 s3 (a1 trivial (a1 b2 trivial))))))))) (by kernel_rfl)
        · rw [if_neg b2] at h
          replace b2 := Bool.eq_false_iff.2 b2
          obtain ⟨s4, h⟩ := h
          exact AtV.go tabOk ext106Ok mixed false [] [] [0, 3] [] [true, true, false] (a1 b0 (a1 s0 (a1 s1 (a1 trivial (a1 b1 (a1 s2 (a1 s3 (a1 trivial (a1 b2 (a1 s4 trivial)))))))))) (ih4 _ _ _ h K q) (by kernel_rfl)
      · rw [if_neg b1] at h
        replace b1 := Bool.eq_false_iff.2 b1
        obtain ⟨s2, h⟩ := h
        exact AtV.go tabOk ext106Ok mixed false [] [] [0, 3] [] [true, false, false] (a1 b0 (a1 s0 (a1 s1 (a1 trivial (a1 b1 (a1 (rfl : false = false) (a1 s2 trivial))))))) (ih4 _ _ _ h K q) (by kernel_rfl)
    · rw [if_neg b0] at h
      replace b0 := Bool.eq_false_iff.2 b0
      subst h
      exact AtV.ret Tryz.func106 tabOk ext106Ok mixed false [] tys106 [false] (a1 b0 trivial) (by kernel_rfl)
def g106_0 (x0 : ByteArray) : Bool := decide (1 ≤ x0.size) && decide (x0.size ≤ 10) && g124_0 ((bytesOf x0).getD 0 0) && (bytesOf x0).all fun b => g124_0 b || g125_0 b
def P106 (x0 : ByteArray) : Prop := True
theorem top106 (x0 : ByteArray) (hw : Wf .str x0) : R106 (x0.size + 1 + 1) x0 [⟨.bool, g106_0 x0⟩] := by
  have hl := bytesOf_length x0
  rw [R106]
  by_cases h0 : x0 = ByteArray.mk #[]
  · rw [if_pos ((bytes_eq _ _).2 h0)]
    subst h0
    rfl
  · rw [if_neg (fun h => h0 ((bytes_eq _ _).1 h))]
    have hs : 1 ≤ x0.size := by
      rcases Nat.lt_or_ge 0 x0.size with h | h
      · exact h
      · exact absurd (bytesOf_inj (s := x0) (t := ByteArray.mk #[]) (List.eq_nil_of_length_eq_zero (by rw [hl]; omega))) h0
    by_cases h1 : (x0.size : Int) > 10
    · rw [if_pos (by simpa using h1)]
      have : ¬ x0.size ≤ 10 := by omega
      simp [g106_0, this]
    · rw [if_neg (by simpa using h1)]
      refine ⟨by omega, ?_⟩
      rw [byte_get]
      cases h2 : g124_0 ((bytesOf x0).getD 0 0) with
      | false =>
        rw [if_pos (by simp)]
        simp [g106_0, h2, -List.getD_eq_getElem?_getD]
      | true =>
        rw [if_neg (by simp)]
        have key := loop_test (bytesOf x0) 0 (fun b => g124_0 b || g125_0 b) [(⟨.bool, false⟩ : Dyn)] [⟨.bool, true⟩] (fun n i ds => R106_4 n i x0 ds) (fun n => ?_) (fun n i hi hok ds hr => ?_) (fun n i hi hok => ?_)
        · rw [hl] at key
          have e : g106_0 x0 = (bytesOf x0).all fun b => g124_0 b || g125_0 b := by
            have : x0.size ≤ 10 := by omega
            unfold g106_0
            simp only [hs, this, decide_true, Bool.true_and, h2]
          rw [e]
          cases h : (bytesOf x0).all fun b => g124_0 b || g125_0 b with
          | true => rw [if_pos h] at key; exact key
          | false => rw [if_neg (by rw [h]; simp)] at key; exact key
        · show R106_4 (n + 1) ((bytesOf x0).length : Int) x0 _
          rw [R106_4, hl, if_neg (by simp)]
        · rw [R106_4, if_pos (by simp; omega)]
          simp only [Int.toNat_natCast, byte_get]
          generalize (bytesOf x0).getD i 0 = c at *
          refine ⟨by omega, by omega, ?_⟩
          have hu := inR_up (xs := bytesOf x0) (by rw [hl]; exact hw) hi
          cases h3 : g124_0 c with
          | true => rw [if_neg (by simp)]; exact ⟨hu, hr⟩
          | false =>
            rw [if_pos (by simp)]
            rw [h3, Bool.false_or] at hok
            refine ⟨by omega, by omega, ?_⟩
            rw [if_neg (by rw [hok]; simp)]
            exact ⟨hu, hr⟩
        · simp only [Bool.or_eq_false_iff] at hok
          rw [R106_4, if_pos (by simp; omega)]
          simp only [Int.toNat_natCast, byte_get]
          refine ⟨by omega, by omega, ?_⟩
          rw [if_pos (by rw [hok.1]; rfl)]
          refine ⟨by omega, by omega, ?_⟩
          rw [if_pos (by rw [hok.2]; rfl)] <;> trivial
def S106 : Am.Spec := { sig := sig106, pre := fun ⟨x0, _⟩ => P106 x0, res := fun ⟨x0, _⟩ => [⟨Ty.bool, g106_0 x0⟩] }
theorem con106 : Contract Tryz.prog 106 S106 := contract_of Tryz.func106 hb106 (Nat.le_of_ble_eq_true (by kernel_rfl)) (fun ⟨x0, _⟩ h hwf K q =>
  (snd106 _).1 x0 _ (top106 x0 hwf.1) K q)
end
noncomputable section
def ext81 : Ext := [(106, S106), (79, S79)]
theorem ext81Ok : ExtOk Tryz.prog ext81 := ⟨⟨ca106, con106⟩, ⟨ca79, con79⟩, trivial⟩
noncomputable def b81 : Code := bodyOf Tryz.f81
theorem hb81 : Tryz.f81.body = some b81 := by kernel_rfl
def sig81 : List AT := [AT.p YA5]
def tys81 : List Ty := [Ty.bool]
def kds81 : List RK := []
def oks81 : List AT := owns sig81
def P81 (x0 : ByteArray × Int × Int × Int × Unit) : Prop := True
def g81_0 (x0 : ByteArray × Int × Int × Int × Unit) : Bool := (if (g106_0 x0.1) = true then (if (g79_0 x0.2.1 1 200) = true then (if (g79_0 x0.2.2.1 0 40) = true then g79_0 x0.2.2.2.1 0 100000 else false) else false) else false)
theorem at81 (x0 : ByteArray × Int × Int × Int × Unit) (h : P81 x0) (K : Ctx) (q : Nat → Value) : AtV Tryz.prog 81 (PostR kds81 oks81 [⟨Ty.bool, g81_0 x0⟩] [] [] q K) 29 K q [] [.code b81] (entE 0 0 sig81 (x0, ())) (entL sig81 (x0, ())) := by
  unfold P81 at h
  unfold g81_0
  by_cases b0 : (g106_0 x0.1) = true
  · try simp only [if_pos b0] at h ⊢
    by_cases b1 : (g79_0 x0.2.1 1 200) = true
    · try simp only [if_pos b1] at h ⊢
      by_cases b2 : (g79_0 x0.2.2.1 0 40) = true
      · try simp only [if_pos b2] at h ⊢
        exact AtV.ret Tryz.func81 tabOk ext81Ok mixed false [] tys81 [true, true, true] (a1 trivial (a1 b0 (a1 trivial (a1 b1 (a1 trivial (a1 b2 (a1 trivial trivial))))))) (by kernel_rfl)
      · try simp only [if_neg b2] at h ⊢
        replace b2 := Bool.eq_false_iff.2 b2
        exact AtV.ret Tryz.func81 tabOk ext81Ok mixed false [] tys81 [true, true, false] (a1 trivial (a1 b0 (a1 trivial (a1 b1 (a1 trivial (a1 b2 trivial)))))) (by kernel_rfl)
    · try simp only [if_neg b1] at h ⊢
      replace b1 := Bool.eq_false_iff.2 b1
      exact AtV.ret Tryz.func81 tabOk ext81Ok mixed false [] tys81 [true, false, false] (a1 trivial (a1 b0 (a1 trivial (a1 b1 (a1 (rfl : false = false) trivial))))) (by kernel_rfl)
  · try simp only [if_neg b0] at h ⊢
    replace b0 := Bool.eq_false_iff.2 b0
    exact AtV.ret Tryz.func81 tabOk ext81Ok mixed false [] tys81 [false, false, false] (a1 trivial (a1 b0 (a1 (rfl : false = false) (a1 (rfl : false = false) trivial)))) (by kernel_rfl)
def S81 : Am.Spec := { sig := sig81, pre := fun ⟨x0, _⟩ => P81 x0, res := fun ⟨x0, _⟩ => [⟨Ty.bool, g81_0 x0⟩], kds := kds81 }
theorem con81 : Contract Tryz.prog 81 S81 := contract_of Tryz.func81 hb81 (Nat.le_of_ble_eq_true (by kernel_rfl)) (fun ⟨x0, _⟩ h _ K q => at81 x0 h K q)
end
noncomputable section
def ext53 : Ext := [(81, S81)]
theorem ext53Ok : ExtOk Tryz.prog ext53 := ⟨⟨ca81, con81⟩, trivial⟩
noncomputable def b53 : Code := bodyOf Tryz.f53
theorem hb53 : Tryz.f53.body = some b53 := by kernel_rfl
def sig53 : List AT := [AT.v (Ty.sl YA5)]
def tys53 : List Ty := [Ty.bool]
def kds53 : List RK := []
def oks53 : List AT := owns sig53
def E53_2 (v3 : Int) (x0 : List TyB1) : Env := [(0, PV.a (Atom.sl YA5 x0)), (3, PV.a (Atom.val (Value.int .i64 v3)))]
def L53_2 (v3 : Int) (x0 : List TyB1) : Heap := []
mutual
def R53 : Nat → List TyB1 → List Dyn → Prop
  | 0, _, _ => False
  | n + 1, x0, ds => (R53_2 n (0) (x0) ds)
def R53_2 : Nat → Int → List TyB1 → List Dyn → Prop
  | 0, _, _, _ => False
  | n + 1, v3, x0, ds => (if (decide (v3 < (↑(List.length x0) : Int))) = true then ((0 ≤ v3) ∧ (v3 < (↑(List.length x0) : Int)) ∧ (if (!g81_0 (List.getD x0 (Int.toNat v3) (ByteArray.empty, 0, 0, 0, ()))) = true then (ds = [Dyn.mk Ty.bool false]) else (if (decide (v3 > 0)) = true then ((InR .i64 (v3 - 1)) ∧ ((0 ≤ v3 - 1) ∧ (v3 - 1 < (↑(List.length x0) : Int)) ∧ ((0 ≤ v3) ∧ (v3 < (↑(List.length x0) : Int)) ∧ (if (!Op.bytesLess (ByteArray.toList (List.getD x0 (Int.toNat (v3 - 1)) (ByteArray.empty, 0, 0, 0, ())).1) (ByteArray.toList (List.getD x0 (Int.toNat v3) (ByteArray.empty, 0, 0, 0, ())).1)) = true then (ds = [Dyn.mk Ty.bool false]) else ((InR .i64 (v3 + 1)) ∧ (R53_2 n (v3 + 1) (x0) ds)))))) else ((InR .i64 (v3 + 1)) ∧ (R53_2 n (v3 + 1) (x0) ds))))) else (ds = [Dyn.mk Ty.bool (decide ((↑(List.length x0) : Int) ≤ 12))]))
end
theorem snd53 : ∀ n, (∀ (x0 : List TyB1) ds, R53 n x0 ds → ∀ K q, AtV Tryz.prog 53 (PostR kds53 oks53 ds [] [] q K) 36 K q [] [.code b53] (entE 0 0 sig53 (x0, ())) (entL sig53 (x0, ()))) ∧ (∀ (v3 : Int) (x0 : List TyB1) ds, R53_2 n v3 x0 ds → ∀ K q, AtV Tryz.prog 53 (PostR kds53 oks53 ds [] [] q K) 36 K q [] (cutAt b53 2) (E53_2 v3 x0) (L53_2 v3 x0)) := by
  intro n
  induction n with
  | zero => exact ⟨fun _ _ h => by simp only [R53] at h, fun _ _ _ h => by simp only [R53_2] at h⟩
  | succ n ih =>
  obtain ⟨ih, ih2⟩ := ih
  refine ⟨?_, ?_⟩
  · intro x0 ds h K q
    rw [R53] at h
    exact AtV.go tabOk ext53Ok mixed false [] [] [0, 3] [] [] trivial (ih2 _ _ _ h K q) (by kernel_rfl)
  · intro v3 x0 ds h K q
    rw [R53_2] at h
    by_cases b0 : (decide (v3 < (↑(List.length x0) : Int))) = true
    · rw [if_pos b0] at h
      obtain ⟨s0, s1, h⟩ := h
      by_cases b1 : (!g81_0 (List.getD x0 (Int.toNat v3) (ByteArray.empty, 0, 0, 0, ()))) = true
      · rw [if_pos b1] at h
        subst h
        exact AtV.ret Tryz.func53 tabOk ext53Ok mixed false [] tys53 [true, true, true] (a1 b0 (a1 s0 (a1 s1 (a1 trivial (a1 b1 (a1 (rfl : true = true) trivial)))))) (by kernel_rfl)
      · rw [if_neg b1] at h
        replace b1 := Bool.eq_false_iff.2 b1
        by_cases b2 : (decide (v3 > 0)) = true
        · rw [if_pos b2] at h
          obtain ⟨s2, h⟩ := h
          obtain ⟨s3, s4, h⟩ := h
          obtain ⟨s5, s6, h⟩ := h
          by_cases b3 : (!Op.bytesLess (ByteArray.toList (List.getD x0 (Int.toNat (v3 - 1)) (ByteArray.empty, 0, 0, 0, ())).1) (ByteArray.toList (List.getD x0 (Int.toNat v3) (ByteArray.empty, 0, 0, 0, ())).1)) = true
          · rw [if_pos b3] at h
            subst h
            exact AtV.ret Tryz.func53 tabOk ext53Ok mixed false [] tys53 [true, false, true, true] (a1 b0 (a1 s0 (a1 s1 (a1 trivial (a1 b1 (a1 b2 (a1 s2 (a1 s3 (a1 s4 (a1 s5 (a1 s6 (a1 b3 trivial)))))))))))) (by kernel_rfl)
          · rw [if_neg b3] at h
            replace b3 := Bool.eq_false_iff.2 b3
            obtain ⟨s7, h⟩ := h
            exact AtV.go tabOk ext53Ok mixed false [] [] [0, 3] [] [true, false, true, false] (a1 b0 (a1 s0 (a1 s1 (a1 trivial (a1 b1 (a1 b2 (a1 s2 (a1 s3 (a1 s4 (a1 s5 (a1 s6 (a1 b3 (a1 s7 trivial))))))))))))) (ih2 _ _ _ h K q) (by kernel_rfl)
        · rw [if_neg b2] at h
          replace b2 := Bool.eq_false_iff.2 b2
          obtain ⟨s2, h⟩ := h
          exact AtV.go tabOk ext53Ok mixed false [] [] [0, 3] [] [true, false, false, false] (a1 b0 (a1 s0 (a1 s1 (a1 trivial (a1 b1 (a1 b2 (a1 (rfl : false = false) (a1 s2 trivial)))))))) (ih2 _ _ _ h K q) (by kernel_rfl)
    · rw [if_neg b0] at h
      replace b0 := Bool.eq_false_iff.2 b0
      subst h
      exact AtV.ret Tryz.func53 tabOk ext53Ok mixed false [] tys53 [false] (a1 b0 trivial) (by kernel_rfl)
def ok53 (x0 : List TyB1) (i : Nat) (x : TyB1) : Bool :=
  g81_0 x && (i == 0 || Op.bytesLess (ByteArray.toList (x0.getD (i - 1) (ByteArray.empty, (0 : Int), (0 : Int), (0 : Int), ())).1) (ByteArray.toList x.1))
def g53_0 (x0 : List TyB1) : Bool := allI (ok53 x0) 0 x0 && decide (x0.length ≤ 12)
def P53 (x0 : List TyB1) : Prop := True
theorem step53 (n i : Nat) (x0 : List TyB1) (hm : x0.length ≤ maxLen) (hi : i < x0.length) (ds : List Dyn) :
    (if ok53 x0 i (x0.getD i (ByteArray.empty, (0 : Int), (0 : Int), (0 : Int), ())) = true then R53_2 n ((i : Int) + 1) x0 ds else ds = [⟨.bool, false⟩]) → R53_2 (n + 1) (i : Int) x0 ds := by
  intro h
  have hu := inR_up hm hi
  rw [R53_2, if_pos (by simp; omega)]
  refine ⟨by omega, by omega, ?_⟩
  simp only [Int.toNat_natCast]
  unfold ok53 at h
  cases h1 : g81_0 (x0.getD i (ByteArray.empty, (0 : Int), (0 : Int), (0 : Int), ())) with
  | false =>
    rw [h1] at h
    rw [if_pos (by rfl)]
    simpa using h
  | true =>
    rw [h1] at h
    rw [if_neg (by simp)]
    by_cases h0 : (i : Int) > 0
    · rw [if_pos (by simpa using h0)]
      have hi0 : (i == 0) = false := by simp; omega
      have e : ((i : Int) - 1).toNat = i - 1 := by omega
      refine ⟨by rw [i64_iff]; have : maxLen ≤ 9223372036854775807 := by decide
                 omega, by omega, by omega, by omega, by omega, ?_⟩
      rw [e]
      by_cases h2 : Op.bytesLess (ByteArray.toList (x0.getD (i - 1) (ByteArray.empty, (0 : Int), (0 : Int), (0 : Int), ())).1) (ByteArray.toList (x0.getD i (ByteArray.empty, (0 : Int), (0 : Int), (0 : Int), ())).1) = true
      · rw [h2, hi0] at h
        rw [if_neg (by rw [h2]; simp)]
        exact ⟨hu, by simpa using h⟩
      · have h2 := Bool.eq_false_iff.2 h2
        rw [h2, hi0] at h
        rw [if_pos (by rw [h2]; rfl)]
        simpa using h
    · rw [if_neg (by simpa using h0)]
      have hi0 : (i == 0) = true := by simp; omega
      rw [hi0] at h
      exact ⟨hu, by simpa using h⟩
theorem top53 (x0 : List TyB1) (hw : x0.length ≤ maxLen) : R53 (x0.length + 1 + 1) x0 [⟨.bool, g53_0 x0⟩] := by
  rw [R53]
  have key := loop_testI x0 (ByteArray.empty, (0 : Int), (0 : Int), (0 : Int), ()) (ok53 x0) [(⟨.bool, false⟩ : Dyn)] [⟨.bool, decide (x0.length ≤ 12)⟩] (fun n i ds => R53_2 n i x0 ds) (fun n => ?_) (fun n i hi hok ds hr => ?_) (fun n i hi hok => ?_)
  · unfold g53_0
    cases h : allI (ok53 x0) 0 x0 with
    | true => rw [if_pos h] at key; simpa using key
    | false => rw [if_neg (by rw [h]; simp)] at key; simpa using key
  · rw [R53_2, if_neg (by simp)]
    have hc : decide ((x0.length : Int) ≤ 12) = decide (x0.length ≤ 12) := by
      congr 1; exact propext ⟨fun h => by omega, fun h => by omega⟩
    rw [hc]
  · exact step53 n i x0 hw hi ds (by rw [if_pos hok]; exact hr)
  · exact step53 n i x0 hw hi _ (by rw [if_neg (by rw [hok]; simp)])
def S53 : Am.Spec := { sig := sig53, pre := fun ⟨x0, _⟩ => P53 x0, res := fun ⟨x0, _⟩ => [⟨Ty.bool, g53_0 x0⟩] }
theorem con53 : Contract Tryz.prog 53 S53 := contract_of Tryz.func53 hb53 (Nat.le_of_ble_eq_true (by kernel_rfl)) (fun ⟨x0, _⟩ h hwf K q =>
  (snd53 _).1 x0 _ (top53 x0 hwf.1.1) K q)
end
noncomputable section
def ext54 : Ext := [(79, S79)]
theorem ext54Ok : ExtOk Tryz.prog ext54 := ⟨⟨ca79, con79⟩, trivial⟩
noncomputable def b54 : Code := bodyOf Tryz.f54
theorem hb54 : Tryz.f54.body = some b54 := by kernel_rfl
def sig54 : List AT := [AT.p YA7]
def tys54 : List Ty := [Ty.bool]
def kds54 : List RK := []
def oks54 : List AT := owns sig54
def P54 (x0 : Int × Int × Int × Unit) : Prop := True
def g54_0 (x0 : Int × Int × Int × Unit) : Bool := (if (g79_0 x0.1 0 200) = true then (if (g79_0 x0.2.1 0 40) = true then g79_0 x0.2.2.1 0 100000 else false) else false)
theorem at54 (x0 : Int × Int × Int × Unit) (h : P54 x0) (K : Ctx) (q : Nat → Value) : AtV Tryz.prog 54 (PostR kds54 oks54 [⟨Ty.bool, g54_0 x0⟩] [] [] q K) 22 K q [] [.code b54] (entE 0 0 sig54 (x0, ())) (entL sig54 (x0, ())) := by
  unfold P54 at h
  unfold g54_0
  by_cases b0 : (g79_0 x0.1 0 200) = true
  · try simp only [if_pos b0] at h ⊢
    by_cases b1 : (g79_0 x0.2.1 0 40) = true
    · try simp only [if_pos b1] at h ⊢
      exact AtV.ret Tryz.func54 tabOk ext54Ok mixed false [] tys54 [true, true] (a1 trivial (a1 b0 (a1 trivial (a1 b1 (a1 trivial trivial))))) (by kernel_rfl)
    · try simp only [if_neg b1] at h ⊢
      replace b1 := Bool.eq_false_iff.2 b1
      exact AtV.ret Tryz.func54 tabOk ext54Ok mixed false [] tys54 [true, false] (a1 trivial (a1 b0 (a1 trivial (a1 b1 trivial)))) (by kernel_rfl)
  · try simp only [if_neg b0] at h ⊢
    replace b0 := Bool.eq_false_iff.2 b0
    exact AtV.ret Tryz.func54 tabOk ext54Ok mixed false [] tys54 [false, false] (a1 trivial (a1 b0 (a1 (rfl : false = false) trivial))) (by kernel_rfl)
def S54 : Am.Spec := { sig := sig54, pre := fun ⟨x0, _⟩ => P54 x0, res := fun ⟨x0, _⟩ => [⟨Ty.bool, g54_0 x0⟩], kds := kds54 }
theorem con54 : Contract Tryz.prog 54 S54 := contract_of Tryz.func54 hb54 (Nat.le_of_ble_eq_true (by kernel_rfl)) (fun ⟨x0, _⟩ h _ K q => at54 x0 h K q)
end
noncomputable section
def ext83 : Ext := [(79, S79)]
theorem ext83Ok : ExtOk Tryz.prog ext83 := ⟨⟨ca79, con79⟩, trivial⟩
noncomputable def b83 : Code := bodyOf Tryz.f83
theorem hb83 : Tryz.f83.body = some b83 := by kernel_rfl
def sig83 : List AT := [AT.v (Ty.int .i64)]
def tys83 : List Ty := [Ty.bool]
def kds83 : List RK := []
def oks83 : List AT := owns sig83
def P83 (x0 : Int) : Prop := True
def g83_0 (x0 : Int) : Bool := g79_0 x0 0 100000
theorem at83 (x0 : Int) (h : P83 x0) (K : Ctx) (q : Nat → Value) : AtV Tryz.prog 83 (PostR kds83 oks83 [⟨Ty.bool, g83_0 x0⟩] [] [] q K) 5 K q [] [.code b83] (entE 0 0 sig83 (x0, ())) (entL sig83 (x0, ())) := by
  unfold P83 at h
  unfold g83_0
  exact AtV.ret Tryz.func83 tabOk ext83Ok mixed false [] tys83 [] (a1 trivial trivial) (by kernel_rfl)
def S83 : Am.Spec := { sig := sig83, pre := fun ⟨x0, _⟩ => P83 x0, res := fun ⟨x0, _⟩ => [⟨Ty.bool, g83_0 x0⟩], kds := kds83 }
theorem con83 : Contract Tryz.prog 83 S83 := contract_of Tryz.func83 hb83 (Nat.le_of_ble_eq_true (by kernel_rfl)) (fun ⟨x0, _⟩ h _ K q => at83 x0 h K q)
end
noncomputable section
def ext84 : Ext := [(79, S79)]
theorem ext84Ok : ExtOk Tryz.prog ext84 := ⟨⟨ca79, con79⟩, trivial⟩
noncomputable def b84 : Code := bodyOf Tryz.f84
theorem hb84 : Tryz.f84.body = some b84 := by kernel_rfl
def sig84 : List AT := [AT.v (Ty.int .i64)]
def tys84 : List Ty := [Ty.bool]
def kds84 : List RK := []
def oks84 : List AT := owns sig84
def P84 (x0 : Int) : Prop := True
def g84_0 (x0 : Int) : Bool := g79_0 x0 0 1000000
theorem at84 (x0 : Int) (h : P84 x0) (K : Ctx) (q : Nat → Value) : AtV Tryz.prog 84 (PostR kds84 oks84 [⟨Ty.bool, g84_0 x0⟩] [] [] q K) 5 K q [] [.code b84] (entE 0 0 sig84 (x0, ())) (entL sig84 (x0, ())) := by
  unfold P84 at h
  unfold g84_0
  exact AtV.ret Tryz.func84 tabOk ext84Ok mixed false [] tys84 [] (a1 trivial trivial) (by kernel_rfl)
def S84 : Am.Spec := { sig := sig84, pre := fun ⟨x0, _⟩ => P84 x0, res := fun ⟨x0, _⟩ => [⟨Ty.bool, g84_0 x0⟩], kds := kds84 }
theorem con84 : Contract Tryz.prog 84 S84 := contract_of Tryz.func84 hb84 (Nat.le_of_ble_eq_true (by kernel_rfl)) (fun ⟨x0, _⟩ h _ K q => at84 x0 h K q)
end
noncomputable section
def ext107 : Ext := [(106, S106), (79, S79), (83, S83), (84, S84)]
theorem ext107Ok : ExtOk Tryz.prog ext107 := ⟨⟨ca106, con106⟩, ⟨ca79, con79⟩, ⟨ca83, con83⟩, ⟨ca84, con84⟩, trivial⟩
noncomputable def b107 : Code := bodyOf Tryz.f107
theorem hb107 : Tryz.f107.body = some b107 := by kernel_rfl
def sig107 : List AT := [AT.p YA3]
def tys107 : List Ty := [Ty.bool]
def kds107 : List RK := []
def oks107 : List AT := owns sig107
def P107 (x0 : ByteArray × Int × Int × Int × Int × Unit) : Prop := True
def g107_0 (x0 : ByteArray × Int × Int × Int × Int × Unit) : Bool := (if (g106_0 x0.1) = true then (if (g79_0 x0.2.1 1 100000) = true then (if (g79_0 x0.2.2.1 1 1000000) = true then (if (g83_0 x0.2.2.2.1) = true then g84_0 x0.2.2.2.2.1 else false) else false) else false) else false)
theorem at107 (x0 : ByteArray × Int × Int × Int × Int × Unit) (h : P107 x0) (K : Ctx) (q : Nat → Value) : AtV Tryz.prog 107 (PostR kds107 oks107 [⟨Ty.bool, g107_0 x0⟩] [] [] q K) 36 K q [] [.code b107] (entE 0 0 sig107 (x0, ())) (entL sig107 (x0, ())) := by
  unfold P107 at h
  unfold g107_0
  by_cases b0 : (g106_0 x0.1) = true
  · try simp only [if_pos b0] at h ⊢
    by_cases b1 : (g79_0 x0.2.1 1 100000) = true
    · try simp only [if_pos b1] at h ⊢
      by_cases b2 : (g79_0 x0.2.2.1 1 1000000) = true
      · try simp only [if_pos b2] at h ⊢
        by_cases b3 : (g83_0 x0.2.2.2.1) = true
        · try simp only [if_pos b3] at h ⊢
          exact AtV.ret Tryz.func107 tabOk ext107Ok mixed false [] tys107 [true, true, true, true] (a1 trivial (a1 b0 (a1 trivial (a1 b1 (a1 trivial (a1 b2 (a1 trivial (a1 b3 (a1 trivial trivial))))))))) (by kernel_rfl)
        · try simp only [if_neg b3] at h ⊢
          replace b3 := Bool.eq_false_iff.2 b3
          exact AtV.ret Tryz.func107 tabOk ext107Ok mixed false [] tys107 [true, true, true, false] (a1 trivial (a1 b0 (a1 trivial (a1 b1 (a1 trivial (a1 b2 (a1 trivial (a1 b3 trivial)))))))) (by kernel_rfl)
      · try simp only [if_neg b2] at h ⊢
        replace b2 := Bool.eq_false_iff.2 b2
        exact AtV.ret Tryz.func107 tabOk ext107Ok mixed false [] tys107 [true, true, false, false] (a1 trivial (a1 b0 (a1 trivial (a1 b1 (a1 trivial (a1 b2 (a1 (rfl : false = false) trivial))))))) (by kernel_rfl)
    · try simp only [if_neg b1] at h ⊢
      replace b1 := Bool.eq_false_iff.2 b1
      exact AtV.ret Tryz.func107 tabOk ext107Ok mixed false [] tys107 [true, false, false, false] (a1 trivial (a1 b0 (a1 trivial (a1 b1 (a1 (rfl : false = false) (a1 (rfl : false = false) trivial)))))) (by kernel_rfl)
  · try simp only [if_neg b0] at h ⊢
    replace b0 := Bool.eq_false_iff.2 b0
    exact AtV.ret Tryz.func107 tabOk ext107Ok mixed false [] tys107 [false, false, false, false] (a1 trivial (a1 b0 (a1 (rfl : false = false) (a1 (rfl : false = false) (a1 (rfl : false = false) trivial))))) (by kernel_rfl)
def S107 : Am.Spec := { sig := sig107, pre := fun ⟨x0, _⟩ => P107 x0, res := fun ⟨x0, _⟩ => [⟨Ty.bool, g107_0 x0⟩], kds := kds107 }
theorem con107 : Contract Tryz.prog 107 S107 := contract_of Tryz.func107 hb107 (Nat.le_of_ble_eq_true (by kernel_rfl)) (fun ⟨x0, _⟩ h _ K q => at107 x0 h K q)
end
noncomputable section
def ext82 : Ext := [(107, S107)]
theorem ext82Ok : ExtOk Tryz.prog ext82 := ⟨⟨ca107, con107⟩, trivial⟩
noncomputable def b82 : Code := bodyOf Tryz.f82
theorem hb82 : Tryz.f82.body = some b82 := by kernel_rfl
def sig82 : List AT := [AT.v (Ty.sl YA3)]
def tys82 : List Ty := [Ty.bool]
def kds82 : List RK := []
def oks82 : List AT := owns sig82
def E82_2 (v3 : Int) (x0 : List TyB0) : Env := [(0, PV.a (Atom.sl YA3 x0)), (3, PV.a (Atom.val (Value.int .i64 v3)))]
def L82_2 (v3 : Int) (x0 : List TyB0) : Heap := []
mutual
def R82 : Nat → List TyB0 → List Dyn → Prop
  | 0, _, _ => False
  | n + 1, x0, ds => (R82_2 n (0) (x0) ds)
def R82_2 : Nat → Int → List TyB0 → List Dyn → Prop
  | 0, _, _, _ => False
  | n + 1, v3, x0, ds => (if (decide (v3 < (↑(List.length x0) : Int))) = true then ((0 ≤ v3) ∧ (v3 < (↑(List.length x0) : Int)) ∧ (if (!g107_0 (List.getD x0 (Int.toNat v3) (ByteArray.empty, 0, 0, 0, 0, ()))) = true then (ds = [Dyn.mk Ty.bool false]) else (if (decide (v3 > 0)) = true then ((InR .i64 (v3 - 1)) ∧ ((0 ≤ v3 - 1) ∧ (v3 - 1 < (↑(List.length x0) : Int)) ∧ ((0 ≤ v3) ∧ (v3 < (↑(List.length x0) : Int)) ∧ (if (!Op.bytesLess (ByteArray.toList (List.getD x0 (Int.toNat (v3 - 1)) (ByteArray.empty, 0, 0, 0, 0, ())).1) (ByteArray.toList (List.getD x0 (Int.toNat v3) (ByteArray.empty, 0, 0, 0, 0, ())).1)) = true then (ds = [Dyn.mk Ty.bool false]) else ((InR .i64 (v3 + 1)) ∧ (R82_2 n (v3 + 1) (x0) ds)))))) else ((InR .i64 (v3 + 1)) ∧ (R82_2 n (v3 + 1) (x0) ds))))) else (ds = [Dyn.mk Ty.bool (decide ((↑(List.length x0) : Int) ≤ 16))]))
end
theorem snd82 : ∀ n, (∀ (x0 : List TyB0) ds, R82 n x0 ds → ∀ K q, AtV Tryz.prog 82 (PostR kds82 oks82 ds [] [] q K) 36 K q [] [.code b82] (entE 0 0 sig82 (x0, ())) (entL sig82 (x0, ()))) ∧ (∀ (v3 : Int) (x0 : List TyB0) ds, R82_2 n v3 x0 ds → ∀ K q, AtV Tryz.prog 82 (PostR kds82 oks82 ds [] [] q K) 36 K q [] (cutAt b82 2) (E82_2 v3 x0) (L82_2 v3 x0)) := by
  intro n
  induction n with
  | zero => exact ⟨fun _ _ h => by simp only [R82] at h, fun _ _ _ h => by simp only [R82_2] at h⟩
  | succ n ih =>
  obtain ⟨ih, ih2⟩ := ih
  refine ⟨?_, ?_⟩
  · intro x0 ds h K q
    rw [R82] at h
    exact AtV.go tabOk ext82Ok mixed false [] [] [0, 3] [] [] trivial (ih2 _ _ _ h K q) (by kernel_rfl)
  · intro v3 x0 ds h K q
    rw [R82_2] at h
    by_cases b0 : (decide (v3 < (↑(List.length x0) : Int))) = true
    · rw [if_pos b0] at h
      obtain ⟨s0, s1, h⟩ := h
      by_cases b1 : (!g107_0 (List.getD x0 (Int.toNat v3) (ByteArray.empty, 0, 0, 0, 0, ()))) = true
      · rw [if_pos b1] at h
        subst h
        exact AtV.ret Tryz.func82 tabOk ext82Ok mixed false [] tys82 [true, true, true] (a1 b0 (a1 s0 (a1 s1 (a1 trivial (a1 b1 (a1 (rfl : true = true) trivial)))))) (by kernel_rfl)
      · rw [if_neg b1] at h
        replace b1 := Bool.eq_false_iff.2 b1
        by_cases b2 : (decide (v3 > 0)) = true
        · rw [if_pos b2] at h
          obtain ⟨s2, h⟩ := h
          obtain ⟨s3, s4, h⟩ := h
          obtain ⟨s5, s6, h⟩ := h
          by_cases b3 : (!Op.bytesLess (ByteArray.toList (List.getD x0 (Int.toNat (v3 - 1)) (ByteArray.empty, 0, 0, 0, 0, ())).1) (ByteArray.toList (List.getD x0 (Int.toNat v3) (ByteArray.empty, 0, 0, 0, 0, ())).1)) = true
          · rw [if_pos b3] at h
            subst h
            exact AtV.ret Tryz.func82 tabOk ext82Ok mixed false [] tys82 [true, false, true, true] (a1 b0 (a1 s0 (a1 s1 (a1 trivial (a1 b1 (a1 b2 (a1 s2 (a1 s3 (a1 s4 (a1 s5 (a1 s6 (a1 b3 trivial)))))))))))) (by kernel_rfl)
          · rw [if_neg b3] at h
            replace b3 := Bool.eq_false_iff.2 b3
            obtain ⟨s7, h⟩ := h
            exact AtV.go tabOk ext82Ok mixed false [] [] [0, 3] [] [true, false, true, false] (a1 b0 (a1 s0 (a1 s1 (a1 trivial (a1 b1 (a1 b2 (a1 s2 (a1 s3 (a1 s4 (a1 s5 (a1 s6 (a1 b3 (a1 s7 trivial))))))))))))) (ih2 _ _ _ h K q) (by kernel_rfl)
        · rw [if_neg b2] at h
          replace b2 := Bool.eq_false_iff.2 b2
          obtain ⟨s2, h⟩ := h
          exact AtV.go tabOk ext82Ok mixed false [] [] [0, 3] [] [true, false, false, false] (a1 b0 (a1 s0 (a1 s1 (a1 trivial (a1 b1 (a1 b2 (a1 (rfl : false = false) (a1 s2 trivial)))))))) (ih2 _ _ _ h K q) (by kernel_rfl)
    · rw [if_neg b0] at h
      replace b0 := Bool.eq_false_iff.2 b0
      subst h
      exact AtV.ret Tryz.func82 tabOk ext82Ok mixed false [] tys82 [false] (a1 b0 trivial) (by kernel_rfl)
def ok82 (x0 : List TyB0) (i : Nat) (x : TyB0) : Bool :=
  g107_0 x && (i == 0 || Op.bytesLess (ByteArray.toList (x0.getD (i - 1) (ByteArray.empty, (0 : Int), (0 : Int), (0 : Int), (0 : Int), ())).1) (ByteArray.toList x.1))
def g82_0 (x0 : List TyB0) : Bool := allI (ok82 x0) 0 x0 && decide (x0.length ≤ 16)
def P82 (x0 : List TyB0) : Prop := True
theorem step82 (n i : Nat) (x0 : List TyB0) (hm : x0.length ≤ maxLen) (hi : i < x0.length) (ds : List Dyn) :
    (if ok82 x0 i (x0.getD i (ByteArray.empty, (0 : Int), (0 : Int), (0 : Int), (0 : Int), ())) = true then R82_2 n ((i : Int) + 1) x0 ds else ds = [⟨.bool, false⟩]) → R82_2 (n + 1) (i : Int) x0 ds := by
  intro h
  have hu := inR_up hm hi
  rw [R82_2, if_pos (by simp; omega)]
  refine ⟨by omega, by omega, ?_⟩
  simp only [Int.toNat_natCast]
  unfold ok82 at h
  cases h1 : g107_0 (x0.getD i (ByteArray.empty, (0 : Int), (0 : Int), (0 : Int), (0 : Int), ())) with
  | false =>
    rw [h1] at h
    rw [if_pos (by rfl)]
    simpa using h
  | true =>
    rw [h1] at h
    rw [if_neg (by simp)]
    by_cases h0 : (i : Int) > 0
    · rw [if_pos (by simpa using h0)]
      have hi0 : (i == 0) = false := by simp; omega
      have e : ((i : Int) - 1).toNat = i - 1 := by omega
      refine ⟨by rw [i64_iff]; have : maxLen ≤ 9223372036854775807 := by decide
                 omega, by omega, by omega, by omega, by omega, ?_⟩
      rw [e]
      by_cases h2 : Op.bytesLess (ByteArray.toList (x0.getD (i - 1) (ByteArray.empty, (0 : Int), (0 : Int), (0 : Int), (0 : Int), ())).1) (ByteArray.toList (x0.getD i (ByteArray.empty, (0 : Int), (0 : Int), (0 : Int), (0 : Int), ())).1) = true
      · rw [h2, hi0] at h
        rw [if_neg (by rw [h2]; simp)]
        exact ⟨hu, by simpa using h⟩
      · have h2 := Bool.eq_false_iff.2 h2
        rw [h2, hi0] at h
        rw [if_pos (by rw [h2]; rfl)]
        simpa using h
    · rw [if_neg (by simpa using h0)]
      have hi0 : (i == 0) = true := by simp; omega
      rw [hi0] at h
      exact ⟨hu, by simpa using h⟩
theorem top82 (x0 : List TyB0) (hw : x0.length ≤ maxLen) : R82 (x0.length + 1 + 1) x0 [⟨.bool, g82_0 x0⟩] := by
  rw [R82]
  have key := loop_testI x0 (ByteArray.empty, (0 : Int), (0 : Int), (0 : Int), (0 : Int), ()) (ok82 x0) [(⟨.bool, false⟩ : Dyn)] [⟨.bool, decide (x0.length ≤ 16)⟩] (fun n i ds => R82_2 n i x0 ds) (fun n => ?_) (fun n i hi hok ds hr => ?_) (fun n i hi hok => ?_)
  · unfold g82_0
    cases h : allI (ok82 x0) 0 x0 with
    | true => rw [if_pos h] at key; simpa using key
    | false => rw [if_neg (by rw [h]; simp)] at key; simpa using key
  · rw [R82_2, if_neg (by simp)]
    have hc : decide ((x0.length : Int) ≤ 16) = decide (x0.length ≤ 16) := by
      congr 1; exact propext ⟨fun h => by omega, fun h => by omega⟩
    rw [hc]
  · exact step82 n i x0 hw hi ds (by rw [if_pos hok]; exact hr)
  · exact step82 n i x0 hw hi _ (by rw [if_neg (by rw [hok]; simp)])
def S82 : Am.Spec := { sig := sig82, pre := fun ⟨x0, _⟩ => P82 x0, res := fun ⟨x0, _⟩ => [⟨Ty.bool, g82_0 x0⟩] }
theorem con82 : Contract Tryz.prog 82 S82 := contract_of Tryz.func82 hb82 (Nat.le_of_ble_eq_true (by kernel_rfl)) (fun ⟨x0, _⟩ h hwf K q =>
  (snd82 _).1 x0 _ (top82 x0 hwf.1.1) K q)
end
noncomputable section
def ext85 : Ext := []
theorem ext85Ok : ExtOk Tryz.prog ext85 := trivial
noncomputable def b85 : Code := bodyOf Tryz.f85
theorem hb85 : Tryz.f85.body = some b85 := by kernel_rfl
def sig85 : List AT := [AT.p YA3, AT.v (Ty.int .i64), AT.v (Ty.int .i64)]
def tys85 : List Ty := [Ty.bool]
def kds85 : List RK := []
def oks85 : List AT := owns sig85
def P85 (x0 : ByteArray × Int × Int × Int × Int × Unit) (x1 : Int) (x2 : Int) : Prop := True
def g85_0 (x0 : ByteArray × Int × Int × Int × Int × Unit) (x1 : Int) (x2 : Int) : Bool := (if (decide (x0.2.2.2.1 ≤ x1)) = true then decide (x0.2.2.2.2.1 ≤ x2) else false)
theorem at85 (x0 : ByteArray × Int × Int × Int × Int × Unit) (x1 : Int) (x2 : Int) (h : P85 x0 x1 x2) (K : Ctx) (q : Nat → Value) : AtV Tryz.prog 85 (PostR kds85 oks85 [⟨Ty.bool, g85_0 x0 x1 x2⟩] [] [] q K) 21 K q [] [.code b85] (entE 0 0 sig85 (x0, x1, x2, ())) (entL sig85 (x0, x1, x2, ())) := by
  unfold P85 at h
  unfold g85_0
  by_cases b0 : (decide (x0.2.2.2.1 ≤ x1)) = true
  · try simp only [if_pos b0] at h ⊢
    exact AtV.ret Tryz.func85 tabOk ext85Ok mixed false [] tys85 [true] (a1 b0 trivial) (by kernel_rfl)
  · try simp only [if_neg b0] at h ⊢
    replace b0 := Bool.eq_false_iff.2 b0
    exact AtV.ret Tryz.func85 tabOk ext85Ok mixed false [] tys85 [false] (a1 b0 trivial) (by kernel_rfl)
def S85 : Am.Spec := { sig := sig85, pre := fun ⟨x0, x1, x2, _⟩ => P85 x0 x1 x2, res := fun ⟨x0, x1, x2, _⟩ => [⟨Ty.bool, g85_0 x0 x1 x2⟩], kds := kds85 }
theorem con85 : Contract Tryz.prog 85 S85 := contract_of Tryz.func85 hb85 (Nat.le_of_ble_eq_true (by kernel_rfl)) (fun ⟨x0, x1, x2, _⟩ h _ K q => at85 x0 x1 x2 h K q)
end
noncomputable section
def ext55 : Ext := [(82, S82), (83, S83), (84, S84), (85, S85)]
theorem ext55Ok : ExtOk Tryz.prog ext55 := ⟨⟨ca82, con82⟩, ⟨ca83, con83⟩, ⟨ca84, con84⟩, ⟨ca85, con85⟩, trivial⟩
noncomputable def b55 : Code := bodyOf Tryz.f55
theorem hb55 : Tryz.f55.body = some b55 := by kernel_rfl
def sig55 : List AT := [AT.v (Ty.sl YA3), AT.v (Ty.int .i64), AT.v (Ty.int .i64)]
def tys55 : List Ty := [Ty.int .i64]
def kds55 : List RK := []
def oks55 : List AT := owns sig55
def E55_6 (v7 : Int) (x0 : List TyB0) (x1 : Int) (x2 : Int) : Env := [(0, PV.a (Atom.sl YA3 x0)), (1, PV.a (Atom.val (Value.int .i64 x1))), (2, PV.a (Atom.val (Value.int .i64 x2))), (7, PV.a (Atom.val (Value.int .i64 v7)))]
def L55_6 (v7 : Int) (x0 : List TyB0) (x1 : Int) (x2 : Int) : Heap := []
mutual
def R55 : Nat → List TyB0 → Int → Int → List Dyn → Prop
  | 0, _, _, _, _ => False
  | n + 1, x0, x1, x2, ds => (if (!g82_0 x0) = true then (ds = [Dyn.mk (Ty.int .i64) 1]) else (if (!g83_0 x1) = true then (ds = [Dyn.mk (Ty.int .i64) 2]) else (if (!g84_0 x2) = true then (ds = [Dyn.mk (Ty.int .i64) 2]) else (R55_6 n (0) (x0) (x1) (x2) ds))))
def R55_6 : Nat → Int → List TyB0 → Int → Int → List Dyn → Prop
  | 0, _, _, _, _, _ => False
  | n + 1, v7, x0, x1, x2, ds => (if (decide (v7 < (↑(List.length x0) : Int))) = true then ((0 ≤ v7) ∧ (v7 < (↑(List.length x0) : Int)) ∧ (if (!g85_0 (List.getD x0 (Int.toNat v7) (ByteArray.empty, 0, 0, 0, 0, ())) x1 x2) = true then (ds = [Dyn.mk (Ty.int .i64) 6]) else ((InR .i64 (v7 + 1)) ∧ (R55_6 n (v7 + 1) (x0) (x1) (x2) ds)))) else (ds = [Dyn.mk (Ty.int .i64) 0]))
end
theorem snd55 : ∀ n, (∀ (x0 : List TyB0) (x1 : Int) (x2 : Int) ds, R55 n x0 x1 x2 ds → ∀ K q, AtV Tryz.prog 55 (PostR kds55 oks55 ds [] [] q K) 32 K q [] [.code b55] (entE 0 0 sig55 (x0, x1, x2, ())) (entL sig55 (x0, x1, x2, ()))) ∧ (∀ (v7 : Int) (x0 : List TyB0) (x1 : Int) (x2 : Int) ds, R55_6 n v7 x0 x1 x2 ds → ∀ K q, AtV Tryz.prog 55 (PostR kds55 oks55 ds [] [] q K) 32 K q [] (cutAt b55 6) (E55_6 v7 x0 x1 x2) (L55_6 v7 x0 x1 x2)) := by
  intro n
  induction n with
  | zero => exact ⟨fun _ _ _ _ h => by simp only [R55] at h, fun _ _ _ _ _ h => by simp only [R55_6] at h⟩
  | succ n ih =>
  obtain ⟨ih, ih6⟩ := ih
  refine ⟨?_, ?_⟩
  · intro x0 x1 x2 ds h K q
    rw [R55] at h
    by_cases b0 : (!g82_0 x0) = true
    · rw [if_pos b0] at h
      subst h
      exact AtV.ret Tryz.func55 tabOk ext55Ok mixed false [] tys55 [true] (a1 trivial (a1 b0 trivial)) (by kernel_rfl)
    · rw [if_neg b0] at h
      replace b0 := Bool.eq_false_iff.2 b0
      by_cases b1 : (!g83_0 x1) = true
      · rw [if_pos b1] at h
        subst h
        exact AtV.ret Tryz.func55 tabOk ext55Ok mixed false [] tys55 [false, true, true] (a1 trivial (a1 b0 (a1 trivial (a1 b1 (a1 (rfl : true = true) trivial))))) (by kernel_rfl)
      · rw [if_neg b1] at h
        replace b1 := Bool.eq_false_iff.2 b1
        by_cases b2 : (!g84_0 x2) = true
        · rw [if_pos b2] at h
          subst h
          exact AtV.ret Tryz.func55 tabOk ext55Ok mixed false [] tys55 [false, false, true] (a1 trivial (a1 b0 (a1 trivial (a1 b1 (a1 trivial (a1 b2 trivial)))))) (by kernel_rfl)
        · rw [if_neg b2] at h
          replace b2 := Bool.eq_false_iff.2 b2
          exact AtV.go tabOk ext55Ok mixed false [] [] [0, 1, 2, 7] [] [false, false, false] (a1 trivial (a1 b0 (a1 trivial (a1 b1 (a1 trivial (a1 b2 trivial)))))) (ih6 _ _ _ _ _ h K q) (by kernel_rfl)
  · intro v7 x0 x1 x2 ds h K q
    rw [R55_6] at h
    by_cases b0 : (decide (v7 < (↑(List.length x0) : Int))) = true
    · rw [if_pos b0] at h
      obtain ⟨s0, s1, h⟩ := h
      by_cases b1 : (!g85_0 (List.getD x0 (Int.toNat v7) (ByteArray.empty, 0, 0, 0, 0, ())) x1 x2) = true
      · rw [if_pos b1] at h
        subst h
        exact AtV.ret Tryz.func55 tabOk ext55Ok mixed false [] tys55 [true, true] (a1 b0 (a1 s0 (a1 s1 (a1 trivial (a1 b1 trivial))))) (by kernel_rfl)
      · rw [if_neg b1] at h
        replace b1 := Bool.eq_false_iff.2 b1
        obtain ⟨s2, h⟩ := h
        exact AtV.go tabOk ext55Ok mixed false [] [] [0, 1, 2, 7] [] [true, false] (a1 b0 (a1 s0 (a1 s1 (a1 trivial (a1 b1 (a1 s2 trivial)))))) (ih6 _ _ _ _ _ h K q) (by kernel_rfl)
    · rw [if_neg b0] at h
      replace b0 := Bool.eq_false_iff.2 b0
      subst h
      exact AtV.ret Tryz.func55 tabOk ext55Ok mixed false [] tys55 [false] (a1 b0 trivial) (by kernel_rfl)
def q55 (x1 x2 : Int) (x : TyB0) : Bool := g85_0 x x1 x2
def g55_0 (x0 : List TyB0) (x1 x2 : Int) : Int := if g82_0 x0 = true then (if g83_0 x1 = true then (if g84_0 x2 = true then (if x0.all (q55 x1 x2) = true then 0 else 6) else 2) else 2) else 1
def P55 (x0 : List TyB0) (x1 x2 : Int) : Prop := True
theorem top55 (x0 : List TyB0) (x1 x2 : Int) (hm : x0.length ≤ maxLen) : R55 (x0.length + 1 + 1) x0 x1 x2 [⟨.int .i64, g55_0 x0 x1 x2⟩] := by
  rw [R55]
  unfold g55_0
  cases h0 : g82_0 x0 with
  | false => rw [if_pos (show (!false) = true from rfl), if_neg (by simp)]
  | true =>
  cases h1 : g83_0 x1 with
  | false => rw [if_neg (show ¬ (!true) = true by decide), if_pos (show (!false) = true from rfl), if_pos rfl, if_neg (by simp)]
  | true =>
  cases h2 : g84_0 x2 with
  | false => rw [if_neg (show ¬ (!true) = true by decide), if_neg (show ¬ (!true) = true by decide), if_pos (show (!false) = true from rfl), if_pos rfl, if_pos rfl, if_neg (by simp)]
  | true =>
  rw [if_neg (show ¬ (!true) = true by decide), if_neg (show ¬ (!true) = true by decide), if_neg (show ¬ (!true) = true by decide), if_pos rfl, if_pos rfl, if_pos rfl]
  have key := loop_test x0 (ByteArray.empty, (0 : Int), (0 : Int), (0 : Int), (0 : Int), ()) (q55 x1 x2) [(⟨.int .i64, 6⟩ : Dyn)] [⟨.int .i64, 0⟩] (fun n i ds => R55_6 n i x0 x1 x2 ds) (fun n => ?_) (fun n i hi hok ds hr => ?_) (fun n i hi hok => ?_)
  · cases h : x0.all (q55 x1 x2) <;> rw [h] at key <;> simpa using key
  · rw [R55_6, if_neg (by simp)]
  · rw [R55_6, if_pos (by simp; omega)]
    simp only [Int.toNat_natCast]
    unfold q55 at hok
    refine ⟨by omega, by omega, ?_⟩
    rw [if_neg (by rw [hok]; simp)]
    exact ⟨inR_up hm hi, hr⟩
  · rw [R55_6, if_pos (by simp; omega)]
    simp only [Int.toNat_natCast]
    unfold q55 at hok
    refine ⟨by omega, by omega, ?_⟩
    rw [if_pos (by rw [hok]; rfl)] <;> trivial
def S55 : Am.Spec := { sig := sig55, pre := fun ⟨x0, x1, x2, _⟩ => P55 x0 x1 x2, res := fun ⟨x0, x1, x2, _⟩ => [⟨.int .i64, g55_0 x0 x1 x2⟩] }
theorem con55 : Contract Tryz.prog 55 S55 := contract_of Tryz.func55 hb55 (Nat.le_of_ble_eq_true (by kernel_rfl)) (fun ⟨x0, x1, x2, _⟩ h hwf K q =>
  (snd55 _).1 x0 x1 x2 _ (top55 x0 x1 x2 hwf.1.1) K q)
end
noncomputable section
def ext87 : Ext := [(79, S79)]
theorem ext87Ok : ExtOk Tryz.prog ext87 := ⟨⟨ca79, con79⟩, trivial⟩
noncomputable def b87 : Code := bodyOf Tryz.f87
theorem hb87 : Tryz.f87.body = some b87 := by kernel_rfl
def sig87 : List AT := [AT.v (Ty.int .i64)]
def tys87 : List Ty := [Ty.bool]
def kds87 : List RK := []
def oks87 : List AT := owns sig87
def P87 (x0 : Int) : Prop := True
def g87_0 (x0 : Int) : Bool := g79_0 x0 0 1440
theorem at87 (x0 : Int) (h : P87 x0) (K : Ctx) (q : Nat → Value) : AtV Tryz.prog 87 (PostR kds87 oks87 [⟨Ty.bool, g87_0 x0⟩] [] [] q K) 5 K q [] [.code b87] (entE 0 0 sig87 (x0, ())) (entL sig87 (x0, ())) := by
  unfold P87 at h
  unfold g87_0
  exact AtV.ret Tryz.func87 tabOk ext87Ok mixed false [] tys87 [] (a1 trivial trivial) (by kernel_rfl)
def S87 : Am.Spec := { sig := sig87, pre := fun ⟨x0, _⟩ => P87 x0, res := fun ⟨x0, _⟩ => [⟨Ty.bool, g87_0 x0⟩], kds := kds87 }
theorem con87 : Contract Tryz.prog 87 S87 := contract_of Tryz.func87 hb87 (Nat.le_of_ble_eq_true (by kernel_rfl)) (fun ⟨x0, _⟩ h _ K q => at87 x0 h K q)
end
noncomputable section
def ext108 : Ext := [(87, S87), (79, S79)]
theorem ext108Ok : ExtOk Tryz.prog ext108 := ⟨⟨ca87, con87⟩, ⟨ca79, con79⟩, trivial⟩
noncomputable def b108 : Code := bodyOf Tryz.f108
theorem hb108 : Tryz.f108.body = some b108 := by kernel_rfl
def sig108 : List AT := [AT.p YA9]
def tys108 : List Ty := [Ty.bool]
def kds108 : List RK := []
def oks108 : List AT := owns sig108
def P108 (x0 : Int × Int × Unit) : Prop := (if (g87_0 x0.1) = true then (if (g79_0 x0.2.1 1 1440) = true then ((InR .i64 (x0.1 + x0.2.1)) ∧ True) else True) else True)
def g108_0 (x0 : Int × Int × Unit) : Bool := (if (g87_0 x0.1) = true then (if (g79_0 x0.2.1 1 1440) = true then decide (x0.1 + x0.2.1 ≤ 1440) else false) else false)
theorem at108 (x0 : Int × Int × Unit) (h : P108 x0) (K : Ctx) (q : Nat → Value) : AtV Tryz.prog 108 (PostR kds108 oks108 [⟨Ty.bool, g108_0 x0⟩] [] [] q K) 27 K q [] [.code b108] (entE 0 0 sig108 (x0, ())) (entL sig108 (x0, ())) := by
  unfold P108 at h
  unfold g108_0
  by_cases b0 : (g87_0 x0.1) = true
  · try simp only [if_pos b0] at h ⊢
    by_cases b1 : (g79_0 x0.2.1 1 1440) = true
    · try simp only [if_pos b1] at h ⊢
      obtain ⟨s0, h⟩ := h
      exact AtV.ret Tryz.func108 tabOk ext108Ok mixed false [] tys108 [true, true] (a1 trivial (a1 b0 (a1 trivial (a1 b1 (a1 s0 trivial))))) (by kernel_rfl)
    · try simp only [if_neg b1] at h ⊢
      replace b1 := Bool.eq_false_iff.2 b1
      exact AtV.ret Tryz.func108 tabOk ext108Ok mixed false [] tys108 [true, false] (a1 trivial (a1 b0 (a1 trivial (a1 b1 trivial)))) (by kernel_rfl)
  · try simp only [if_neg b0] at h ⊢
    replace b0 := Bool.eq_false_iff.2 b0
    exact AtV.ret Tryz.func108 tabOk ext108Ok mixed false [] tys108 [false, false] (a1 trivial (a1 b0 (a1 (rfl : false = false) trivial))) (by kernel_rfl)
def S108 : Am.Spec := { sig := sig108, pre := fun ⟨x0, _⟩ => P108 x0, res := fun ⟨x0, _⟩ => [⟨Ty.bool, g108_0 x0⟩], kds := kds108 }
theorem con108 : Contract Tryz.prog 108 S108 := contract_of Tryz.func108 hb108 (Nat.le_of_ble_eq_true (by kernel_rfl)) (fun ⟨x0, _⟩ h _ K q => at108 x0 h K q)
end
noncomputable section
def ext86 : Ext := [(108, S108)]
theorem ext86Ok : ExtOk Tryz.prog ext86 := ⟨⟨ca108, con108⟩, trivial⟩
noncomputable def b86 : Code := bodyOf Tryz.f86
theorem hb86 : Tryz.f86.body = some b86 := by kernel_rfl
def sig86 : List AT := [AT.v (Ty.sl YA9)]
def tys86 : List Ty := [Ty.bool]
def kds86 : List RK := []
def oks86 : List AT := owns sig86
def E86_2 (v3 : Int) (x0 : List TyB4) : Env := [(0, PV.a (Atom.sl YA9 x0)), (3, PV.a (Atom.val (Value.int .i64 v3)))]
def L86_2 (v3 : Int) (x0 : List TyB4) : Heap := []
mutual
def R86 : Nat → List TyB4 → List Dyn → Prop
  | 0, _, _ => False
  | n + 1, x0, ds => (R86_2 n (0) (x0) ds)
def R86_2 : Nat → Int → List TyB4 → List Dyn → Prop
  | 0, _, _, _ => False
  | n + 1, v3, x0, ds => (if (decide (v3 < (↑(List.length x0) : Int))) = true then ((0 ≤ v3) ∧ (v3 < (↑(List.length x0) : Int)) ∧ ((P108 (List.getD x0 (Int.toNat v3) (0, 0, ()))) ∧ (if (!g108_0 (List.getD x0 (Int.toNat v3) (0, 0, ()))) = true then (ds = [Dyn.mk Ty.bool false]) else (if (decide (v3 > 0)) = true then ((InR .i64 (v3 - 1)) ∧ ((0 ≤ v3 - 1) ∧ (v3 - 1 < (↑(List.length x0) : Int)) ∧ ((InR .i64 (v3 - 1)) ∧ ((0 ≤ v3 - 1) ∧ (v3 - 1 < (↑(List.length x0) : Int)) ∧ ((InR .i64 ((List.getD x0 (Int.toNat (v3 - 1)) (0, 0, ())).1 + (List.getD x0 (Int.toNat (v3 - 1)) (0, 0, ())).2.1)) ∧ ((0 ≤ v3) ∧ (v3 < (↑(List.length x0) : Int)) ∧ (if (decide ((List.getD x0 (Int.toNat (v3 - 1)) (0, 0, ())).1 + (List.getD x0 (Int.toNat (v3 - 1)) (0, 0, ())).2.1 > (List.getD x0 (Int.toNat v3) (0, 0, ())).1)) = true then (ds = [Dyn.mk Ty.bool false]) else ((InR .i64 (v3 + 1)) ∧ (R86_2 n (v3 + 1) (x0) ds))))))))) else ((InR .i64 (v3 + 1)) ∧ (R86_2 n (v3 + 1) (x0) ds)))))) else (ds = [Dyn.mk Ty.bool (decide ((↑(List.length x0) : Int) ≤ 24))]))
end
theorem snd86 : ∀ n, (∀ (x0 : List TyB4) ds, R86 n x0 ds → ∀ K q, AtV Tryz.prog 86 (PostR kds86 oks86 ds [] [] q K) 43 K q [] [.code b86] (entE 0 0 sig86 (x0, ())) (entL sig86 (x0, ()))) ∧ (∀ (v3 : Int) (x0 : List TyB4) ds, R86_2 n v3 x0 ds → ∀ K q, AtV Tryz.prog 86 (PostR kds86 oks86 ds [] [] q K) 43 K q [] (cutAt b86 2) (E86_2 v3 x0) (L86_2 v3 x0)) := by
  intro n
  induction n with
  | zero => exact ⟨fun _ _ h => by simp only [R86] at h, fun _ _ _ h => by simp only [R86_2] at h⟩
  | succ n ih =>
  obtain ⟨ih, ih2⟩ := ih
  refine ⟨?_, ?_⟩
  · intro x0 ds h K q
    rw [R86] at h
    exact AtV.go tabOk ext86Ok mixed false [] [] [0, 3] [] [] trivial (ih2 _ _ _ h K q) (by kernel_rfl)
  · intro v3 x0 ds h K q
    rw [R86_2] at h
    by_cases b0 : (decide (v3 < (↑(List.length x0) : Int))) = true
    · rw [if_pos b0] at h
      obtain ⟨s0, s1, h⟩ := h
      obtain ⟨s2, h⟩ := h
      by_cases b1 : (!g108_0 (List.getD x0 (Int.toNat v3) (0, 0, ()))) = true
      · rw [if_pos b1] at h
        subst h
        exact AtV.ret Tryz.func86 tabOk ext86Ok mixed false [] tys86 [true, true, true] (a1 b0 (a1 s0 (a1 s1 (a1 s2 (a1 b1 (a1 (rfl : true = true) trivial)))))) (by kernel_rfl)
      · rw [if_neg b1] at h
        replace b1 := Bool.eq_false_iff.2 b1
        by_cases b2 : (decide (v3 > 0)) = true
        · rw [if_pos b2] at h
          obtain ⟨s3, h⟩ := h
          obtain ⟨s4, s5, h⟩ := h
          obtain ⟨s6, h⟩ := h
          obtain ⟨s7, s8, h⟩ := h
          obtain ⟨s9, h⟩ := h
          obtain ⟨s10, s11, h⟩ := h
          by_cases b3 : (decide ((List.getD x0 (Int.toNat (v3 - 1)) (0, 0, ())).1 + (List.getD x0 (Int.toNat (v3 - 1)) (0, 0, ())).2.1 > (List.getD x0 (Int.toNat v3) (0, 0, ())).1)) = true
          · rw [if_pos b3] at h
            subst h
            exact AtV.ret Tryz.func86 tabOk ext86Ok mixed false [] tys86 [true, false, true, true] (a1 b0 (a1 s0 (a1 s1 (a1 s2 (a1 b1 (a1 b2 (a1 s3 (a1 s4 (a1 s5 (a1 s6 (a1 s7 (a1 s8 (a1 s9 (a1 s10 (a1 s11 (a1 b3 trivial)))))))))))))))) (by kernel_rfl)
          · rw [if_neg b3] at h
            replace b3 := Bool.eq_false_iff.2 b3
            obtain ⟨s12, h⟩ := h
            exact AtV.go tabOk ext86Ok mixed false [] [] [0, 3] [] [true, false, true, false] (a1 b0 (a1 s0 (a1 s1 (a1 s2 (a1 b1 (a1 b2 (a1 s3 (a1 s4 (a1 s5 (a1 s6 (a1 s7 (a1 s8 (a1 s9 (a1 s10 (a1 s11 (a1 b3 (a1 s12 trivial))))))))))))))))) (ih2 _ _ _ h K q) (by kernel_rfl)
        · rw [if_neg b2] at h
          replace b2 := Bool.eq_false_iff.2 b2
          obtain ⟨s3, h⟩ := h
          exact AtV.go tabOk ext86Ok mixed false [] [] [0, 3] [] [true, false, false, false] (a1 b0 (a1 s0 (a1 s1 (a1 s2 (a1 b1 (a1 b2 (a1 (rfl : false = false) (a1 s3 trivial)))))))) (ih2 _ _ _ h K q) (by kernel_rfl)
    · rw [if_neg b0] at h
      replace b0 := Bool.eq_false_iff.2 b0
      subst h
      exact AtV.ret Tryz.func86 tabOk ext86Ok mixed false [] tys86 [false] (a1 b0 trivial) (by kernel_rfl)
def one86 (x : TyB4) : Bool := g108_0 x
def ok86 (x0 : List TyB4) (i : Nat) (x : TyB4) : Bool := one86 x && (i == 0 || decide ((x0.getD (i - 1) ((0 : Int), (0 : Int), ())).1 + (x0.getD (i - 1) ((0 : Int), (0 : Int), ())).2.1 ≤ x.1))
def g86_0 (x0 : List TyB4) : Bool := allI (ok86 x0) 0 x0 && decide ((x0.length : Int) ≤ 24)
def P86 (x0 : List TyB4) : Prop := True
theorem in86 {x a b : Int} : g79_0 x a b = true ↔ a ≤ x ∧ x ≤ b := by
  unfold g79_0
  by_cases c1 : x ≥ a
  · by_cases c2 : x ≤ b
    · simp [c1, c2]
    · simp [c1, c2]
  · have : ¬ a ≤ x := c1
    simp [c1, this]
theorem one86_pre (x : TyB4) : P108 x := by
  unfold P108
  split
  · rename_i h1
    split
    · rename_i h2
      have h1 := in86.1 (show g79_0 x.1 0 1440 = true from h1)
      have h2 := in86.1 (show g79_0 x.2.1 1 1440 = true from h2)
      exact ⟨by rw [i64_iff]; omega, trivial⟩
    · trivial
  · trivial
theorem one86_b {x : TyB4} (h : one86 x = true) : (0 ≤ x.1 ∧ x.1 ≤ 1440) ∧ (1 ≤ x.2.1 ∧ x.2.1 ≤ 1440) := by
  unfold one86 g108_0 at h
  split at h
  · rename_i h0
    split at h
    · rename_i h1
      exact ⟨in86.1 h0, in86.1 h1⟩
    · cases h
  · cases h
theorem run86 (x0 : List TyB4) (hm : x0.length ≤ maxLen) : ∀ (k i : Nat), i + k = x0.length → (∀ j, j < i → one86 (x0.getD j ((0 : Int), (0 : Int), ())) = true) →
    R86_2 (k + 1) (i : Int) x0 [⟨.bool, allI (ok86 x0) i (x0.drop i) && decide ((x0.length : Int) ≤ 24)⟩] := by
  intro k
  induction k with
  | zero =>
    intro i hi _
    rw [R86_2, if_neg (by simp only [decide_eq_true_eq]; omega), drop_end _ _ (by omega)]
    rfl
  | succ k ih =>
    intro i hi hp
    have hlt : i < x0.length := by omega
    have hu := inR_up hm hlt
    have hmx : maxLen ≤ 9223372036854775807 := by decide
    rw [R86_2, if_pos (by simp only [decide_eq_true_eq]; omega), drop_get x0 i ((0 : Int), (0 : Int), ()) hlt]
    simp only [Int.toNat_natCast, allI]
    refine ⟨by omega, by omega, one86_pre _, ?_⟩
    cases h1 : one86 (x0.getD i ((0 : Int), (0 : Int), ())) with
    | false =>
      unfold one86 at h1
      rw [if_pos (by rw [h1]; rfl)]
      have : ok86 x0 i (x0.getD i ((0 : Int), (0 : Int), ())) = false := by unfold ok86 one86; rw [h1]; rfl
      rw [this]; rfl
    | true =>
      have h1' := h1
      unfold one86 at h1
      rw [if_neg (by rw [h1]; simp)]
      have hnext := ih (i + 1) (by omega) (fun j hj => by
        rcases Nat.lt_or_ge j i with h | h
        · exact hp j h
        · have : j = i := by omega
          subst this; exact h1')
      have e1 : (((i + 1 : Nat)) : Int) = (i : Int) + 1 := by omega
      rw [e1] at hnext
      by_cases h0 : (i : Int) > 0
      · rw [if_pos (by simpa using h0)]
        have hi0 : (i == 0) = false := by simp; omega
        have e : ((i : Int) - 1).toNat = i - 1 := by omega
        obtain ⟨b1, b2⟩ := one86_b (hp (i - 1) (by omega))
        have hd : InR .i64 ((i : Int) - 1) := by rw [i64_iff]; omega
        simp only [e]
        refine ⟨hd, by omega, by omega, hd, by omega, by omega, by rw [i64_iff]; omega, by omega, by omega, ?_⟩
        by_cases hc : (x0.getD (i - 1) ((0 : Int), (0 : Int), ())).1 + (x0.getD (i - 1) ((0 : Int), (0 : Int), ())).2.1 ≤ (x0.getD i ((0 : Int), (0 : Int), ())).1
        · rw [if_neg (by show ¬ decide ((x0.getD (i - 1) ((0 : Int), (0 : Int), ())).1 + (x0.getD (i - 1) ((0 : Int), (0 : Int), ())).2.1 > (x0.getD i ((0 : Int), (0 : Int), ())).1) = true; rw [decide_eq_true_eq]; omega)]
          have : ok86 x0 i (x0.getD i ((0 : Int), (0 : Int), ())) = true := by unfold ok86; rw [h1', hi0, decide_eq_true hc]; rfl
          rw [this, Bool.true_and]
          exact ⟨hu, hnext⟩
        · rw [if_pos (by show decide ((x0.getD (i - 1) ((0 : Int), (0 : Int), ())).1 + (x0.getD (i - 1) ((0 : Int), (0 : Int), ())).2.1 > (x0.getD i ((0 : Int), (0 : Int), ())).1) = true; rw [decide_eq_true_eq]; omega)]
          have : ok86 x0 i (x0.getD i ((0 : Int), (0 : Int), ())) = false := by unfold ok86; rw [hi0, decide_eq_false hc, Bool.or_false, Bool.and_false]
          rw [this, Bool.false_and, Bool.false_and]
      · rw [if_neg (by simpa using h0)]
        have hi0 : (i == 0) = true := by simp; omega
        have : ok86 x0 i (x0.getD i ((0 : Int), (0 : Int), ())) = true := by unfold ok86; rw [h1', hi0]; rfl
        rw [this, Bool.true_and]
        exact ⟨hu, hnext⟩
theorem top86 (x0 : List TyB4) (hw : x0.length ≤ maxLen) : R86 (x0.length + 1 + 1) x0 [⟨.bool, g86_0 x0⟩] := by
  rw [R86]
  exact run86 x0 hw x0.length 0 (by omega) (fun j hj => by omega)
def S86 : Am.Spec := { sig := sig86, pre := fun ⟨x0, _⟩ => P86 x0, res := fun ⟨x0, _⟩ => [⟨Ty.bool, g86_0 x0⟩] }
theorem con86 : Contract Tryz.prog 86 S86 := contract_of Tryz.func86 hb86 (Nat.le_of_ble_eq_true (by kernel_rfl)) (fun ⟨x0, _⟩ h hwf K q =>
  (snd86 _).1 x0 _ (top86 x0 hwf.1.1) K q)
end
noncomputable section
def ext56 : Ext := [(86, S86), (87, S87)]
theorem ext56Ok : ExtOk Tryz.prog ext56 := ⟨⟨ca86, con86⟩, ⟨ca87, con87⟩, trivial⟩
noncomputable def b56 : Code := bodyOf Tryz.f56
theorem hb56 : Tryz.f56.body = some b56 := by kernel_rfl
def sig56 : List AT := [AT.v (Ty.sl YA9), AT.v (Ty.int .i64)]
def tys56 : List Ty := [Ty.int .i64]
def kds56 : List RK := []
def oks56 : List AT := owns sig56
def P56 (x0 : List TyB4) (x1 : Int) : Prop := True
def g56_0 (x0 : List TyB4) (x1 : Int) : Int := (if (!g86_0 x0) = true then 1 else (if (!g87_0 x1) = true then 2 else 0))
theorem at56 (x0 : List TyB4) (x1 : Int) (h : P56 x0 x1) (K : Ctx) (q : Nat → Value) : AtV Tryz.prog 56 (PostR kds56 oks56 [⟨Ty.int .i64, g56_0 x0 x1⟩] [] [] q K) 11 K q [] [.code b56] (entE 0 0 sig56 (x0, x1, ())) (entL sig56 (x0, x1, ())) := by
  unfold P56 at h
  unfold g56_0
  by_cases b0 : (!g86_0 x0) = true
  · try simp only [if_pos b0] at h ⊢
    exact AtV.ret Tryz.func56 tabOk ext56Ok mixed false [] tys56 [true] (a1 trivial (a1 b0 trivial)) (by kernel_rfl)
  · try simp only [if_neg b0] at h ⊢
    replace b0 := Bool.eq_false_iff.2 b0
    by_cases b1 : (!g87_0 x1) = true
    · try simp only [if_pos b1] at h ⊢
      exact AtV.ret Tryz.func56 tabOk ext56Ok mixed false [] tys56 [false, true] (a1 trivial (a1 b0 (a1 trivial (a1 b1 trivial)))) (by kernel_rfl)
    · try simp only [if_neg b1] at h ⊢
      replace b1 := Bool.eq_false_iff.2 b1
      exact AtV.ret Tryz.func56 tabOk ext56Ok mixed false [] tys56 [false, false] (a1 trivial (a1 b0 (a1 trivial (a1 b1 trivial)))) (by kernel_rfl)
def S56 : Am.Spec := { sig := sig56, pre := fun ⟨x0, x1, _⟩ => P56 x0 x1, res := fun ⟨x0, x1, _⟩ => [⟨Ty.int .i64, g56_0 x0 x1⟩], kds := kds56 }
theorem con56 : Contract Tryz.prog 56 S56 := contract_of Tryz.func56 hb56 (Nat.le_of_ble_eq_true (by kernel_rfl)) (fun ⟨x0, x1, _⟩ h _ K q => at56 x0 x1 h K q)
end
noncomputable section
def ext126 : Ext := []
theorem ext126Ok : ExtOk Tryz.prog ext126 := trivial
noncomputable def b126 : Code := bodyOf Tryz.f126
theorem hb126 : Tryz.f126.body = some b126 := by kernel_rfl
def sig126 : List AT := [AT.v (Ty.str), AT.v (Ty.int .u8)]
def tys126 : List Ty := [Ty.sl Ty.str]
def kds126 : List RK := []
def oks126 : List AT := owns sig126
def E126_4 (v6 : Int) (v7 : Int) (h0 : List ByteArray) (x0 : ByteArray) (x1 : Int) : Env := [(0, PV.a (Atom.val (Value.string x0))), (1, PV.a (Atom.val (Value.int .u8 x1))), (5, PV.a (Atom.osl 0 Option.none)), (6, PV.a (Atom.val (Value.int .i64 v6))), (7, PV.a (Atom.val (Value.int .i64 v7)))]
def L126_4 (v6 : Int) (v7 : Int) (h0 : List ByteArray) (x0 : ByteArray) (x1 : Int) : Heap := [Option.some (Arr.mk Ty.str h0 false Option.none Option.none)]
mutual
def R126 : Nat → ByteArray → Int → List Dyn → Prop
  | 0, _, _, _ => False
  | n + 1, x0, x1, ds => (R126_4 n (0) (0) ([]) (x0) (x1) ds)
def R126_4 : Nat → Int → Int → List ByteArray → ByteArray → Int → List Dyn → Prop
  | 0, _, _, _, _, _, _ => False
  | n + 1, v6, v7, h0, x0, x1, ds => (if (decide (v7 < (↑(ByteArray.size x0) : Int))) = true then ((0 ≤ v7) ∧ (v7 < (↑(ByteArray.size x0) : Int)) ∧ (if ((↑(UInt8.toNat (List.getD (Array.toList (ByteArray.data x0)) (Int.toNat v7) 0)) : Int) == x1) = true then ((0 ≤ v6) ∧ (v6 ≤ v7) ∧ (v7 ≤ (↑(ByteArray.size x0) : Int)) ∧ (((List.length h0 + 1) * 16 ≤ 140737488355328) ∧ ((InR .i64 (v7 + 1)) ∧ ((InR .i64 (v7 + 1)) ∧ (R126_4 n (v7 + 1) (v7 + 1) (h0 ++ [ByteArray.extract x0 (Int.toNat v6) (Int.toNat v7)]) (x0) (x1) ds))))) else ((InR .i64 (v7 + 1)) ∧ (R126_4 n (v6) (v7 + 1) (h0) (x0) (x1) ds)))) else ((0 ≤ v6) ∧ (v6 ≤ (↑(ByteArray.size x0) : Int)) ∧ (((List.length h0 + 1) * 16 ≤ 140737488355328) ∧ (ds = [Dyn.mk (Ty.sl Ty.str) (h0 ++ [ByteArray.extract x0 (Int.toNat v6) (Int.toNat (↑(ByteArray.size x0) : Int))])]))))
end
theorem snd126 : ∀ n, (∀ (x0 : ByteArray) (x1 : Int) ds, R126 n x0 x1 ds → ∀ K q, AtV Tryz.prog 126 (PostR kds126 oks126 ds [] [] q K) 35 K q [] [.code b126] (entE 0 0 sig126 (x0, x1, ())) (entL sig126 (x0, x1, ()))) ∧ (∀ (v6 : Int) (v7 : Int) (h0 : List ByteArray) (x0 : ByteArray) (x1 : Int) ds, R126_4 n v6 v7 h0 x0 x1 ds → ∀ K q, AtV Tryz.prog 126 (PostR kds126 oks126 ds [] [] q K) 35 K q [] (cutAt b126 4) (E126_4 v6 v7 h0 x0 x1) (L126_4 v6 v7 h0 x0 x1)) := by
  intro n
  induction n with
  | zero => exact ⟨fun _ _ _ h => by simp only [R126] at h, fun _ _ _ _ _ _ h => by simp only [R126_4] at h⟩
  | succ n ih =>
  obtain ⟨ih, ih4⟩ := ih
  refine ⟨?_, ?_⟩
  · intro x0 x1 ds h K q
    rw [R126] at h
    exact AtV.go tabOk ext126Ok mixed false [] [] [0, 1, 5, 6, 7] [0] [] trivial (ih4 _ _ _ _ _ _ h K q) (by kernel_rfl)
  · intro v6 v7 h0 x0 x1 ds h K q
    rw [R126_4] at h
    by_cases b0 : (decide (v7 < (↑(ByteArray.size x0) : Int))) = true
    · rw [if_pos b0] at h
      obtain ⟨s0, s1, h⟩ := h
      by_cases b1 : ((↑(UInt8.toNat (List.getD (Array.toList (ByteArray.data x0)) (Int.toNat v7) 0)) : Int) == x1) = true
      · rw [if_pos b1] at h
        obtain ⟨s2, s3, s4, h⟩ := h
        obtain ⟨s5, h⟩ := h
        obtain ⟨s6, h⟩ := h
        obtain ⟨s7, h⟩ := h
        exact AtV.go tabOk ext126Ok mixed false [] [] [0, 1, 5, 6, 7] [0] [true, true] (a1 b0 (a1 s0 (a1 s1 (a1 b1 (a1 s2 (a1 s3 (a1 s4 (a1 s5 (a1 s6 (a1 s7 trivial)))))))))) (ih4 _ _ _ _ _ _ h K q) (by kernel_rfl)
      · rw [if_neg b1] at h
        replace b1 := Bool.eq_false_iff.2 b1
        obtain ⟨s2, h⟩ := h
        exact AtV.go tabOk ext126Ok mixed false [] [] [0, 1, 5, 6, 7] [0] [true, false] (a1 b0 (a1 s0 (a1 s1 (a1 b1 (a1 s2 trivial))))) (ih4 _ _ _ _ _ _ h K q) (by kernel_rfl)
    · rw [if_neg b0] at h
      replace b0 := Bool.eq_false_iff.2 b0
      obtain ⟨s0, s1, h⟩ := h
      obtain ⟨s2, h⟩ := h
      subst h
      exact AtV.ret Tryz.func126 tabOk ext126Ok mixed false [] tys126 [false] (a1 b0 (a1 s0 (a1 s1 (a1 s2 trivial)))) (by kernel_rfl)
def c126 (x1 : Int) : UInt8 := UInt8.ofNat x1.toNat
def g126_0 (x0 : ByteArray) (x1 : Int) : List ByteArray := bss (splitC (c126 x1) x0.data.toList)
def P126 (x0 : ByteArray) (x1 : Int) : Prop := x0.size < 4294967281 ∧ 0 ≤ x1 ∧ x1 ≤ 255
theorem run126 (x0 : ByteArray) (x1 : Int) (hs : x0.size < 4294967281) (h0 : 0 ≤ x1) (h1 : x1 ≤ 255) : ∀ (k i frm : Nat) (h : List ByteArray), i + k = x0.size → frm ≤ i → c126 x1 ∉ (x0.data.toList.drop frm).take (i - frm) → h.length ≤ i →
    R126_4 (k + 1) (frm : Int) (i : Int) h x0 x1 [⟨.sl .str, h ++ bss (splitC (c126 x1) (x0.data.toList.drop frm))⟩] := by
  intro k
  have hll : x0.data.toList.length = x0.size := rfl
  induction k with
  | zero =>
    intro i frm h hi hf hc hl
    rw [R126_4, if_neg (by simp; omega)]
    refine ⟨by omega, by omega, by omega, ?_⟩
    have e : (x0.data.toList.drop frm).take (i - frm) = x0.data.toList.drop frm := List.take_of_length_le (by rw [List.length_drop]; omega)
    rw [e] at hc
    rw [splitC_free _ hc, Int.toNat_natCast, Int.toNat_natCast, Lib.extract_from]
    rfl
  | succ k ih =>
    intro i frm h hi hf hc hl
    have hup : InR .i64 ((i : Int) + 1) := by rw [i64_iff]; omega
    have hlt : i < x0.data.toList.length := by rw [hll]; omega
    have hcons : x0.data.toList.drop i = x0.data.toList.getD i 0 :: x0.data.toList.drop (i + 1) := drop_get _ i 0 hlt
    have hsplit : x0.data.toList.drop frm = (x0.data.toList.drop frm).take (i - frm) ++ x0.data.toList.drop i := by
      conv => lhs; rw [← List.take_append_drop (i - frm) (x0.data.toList.drop frm)]
      rw [List.drop_drop, show frm + (i - frm) = i by omega]
    rw [R126_4, if_pos (by simp; omega)]
    simp only [Int.toNat_natCast]
    refine ⟨by omega, by omega, ?_⟩
    have hb : (((x0.data.toList.getD i 0).toNat : Int) == x1) = true ↔ x0.data.toList.getD i 0 = c126 x1 := by
      have hlt' := (x0.data.toList.getD i 0).toNat_lt
      rw [beq_iff_eq, ← UInt8.toNat_inj]
      unfold c126
      have : (UInt8.ofNat x1.toNat).toNat = x1.toNat := by rw [UInt8.toNat_ofNat']; omega
      rw [this]
      omega
    by_cases he : x0.data.toList.getD i 0 = c126 x1
    · rw [if_pos (hb.2 he)]
      refine ⟨by omega, by omega, by omega, by omega, hup, hup, ?_⟩
      have := ih (i + 1) (i + 1) (h ++ [x0.extract frm i]) (by omega) (Nat.le_refl _) (by simp) (by simp; omega)
      have e2 : x0.extract frm i = ⟨((x0.data.toList.drop frm).take (i - frm)).toArray⟩ := Lib.extract_mk x0.data.toList frm i
      have e3 : splitC (c126 x1) (x0.data.toList.drop frm) = (x0.data.toList.drop frm).take (i - frm) :: splitC (c126 x1) (x0.data.toList.drop (i + 1)) := by
        conv => lhs; rw [hsplit, hcons, he]
        exact splitC_hit _ _ hc
      rw [e3, e2]
      rw [List.append_assoc, e2] at this
      exact this
    · rw [if_neg (fun hh => he (hb.1 hh))]
      refine ⟨hup, ?_⟩
      refine ih (i + 1) frm h (by omega) (by omega) (fun hm => ?_) (by omega)
      have e4 : (x0.data.toList.drop frm).take (i + 1 - frm) = (x0.data.toList.drop frm).take (i - frm) ++ [x0.data.toList.getD i 0] := by
        conv => lhs; rw [hsplit, hcons]
        rw [List.take_append, List.take_of_length_le (by rw [List.length_take, List.length_drop]; omega)]
        have : i + 1 - frm - ((x0.data.toList.drop frm).take (i - frm)).length = 1 := by rw [List.length_take, List.length_drop]; omega
        rw [this]
        rfl
      rw [e4] at hm
      rcases List.mem_append.1 hm with hm | hm
      · exact hc hm
      · exact he (List.mem_singleton.1 hm).symm
theorem top126 (x0 : ByteArray) (x1 : Int) (h : P126 x0 x1) : R126 (x0.size + 1 + 1) x0 x1 [⟨.sl .str, g126_0 x0 x1⟩] := by
  rw [R126]
  have := run126 x0 x1 h.1 h.2.1 h.2.2 x0.size 0 0 [] (by omega) (Nat.le_refl _) (by simp) (by simp)
  simpa [g126_0] using this
def S126 : Am.Spec := { sig := sig126, pre := fun ⟨x0, x1, _⟩ => P126 x0 x1, res := fun ⟨x0, x1, _⟩ => [⟨.sl .str, g126_0 x0 x1⟩] }
theorem con126 : Contract Tryz.prog 126 S126 := contract_of Tryz.func126 hb126 (Nat.le_of_ble_eq_true (by kernel_rfl)) (fun ⟨x0, x1, _⟩ h hwf K q =>
  (snd126 _).1 x0 x1 _ (top126 x0 x1 h) K q)
end
end Go.Proofs.YtkemillpgmdlgaaGreatDoor
