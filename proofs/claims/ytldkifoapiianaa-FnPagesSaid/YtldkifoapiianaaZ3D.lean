/- Several texts in one: the functions that this law reaches, and their laws. -/
import Derived.Test.YtldkifoapiianaaZ3A
import Derived.Test.YtldkifoapiianaaZ3B
import Derived.Test.YtldkifoapiianaaZ3C
import Derived.Lib.AppendZeros
import Derived.Lib.SliceRun
import Derived.Laws.AppendOwn
import Derived.WalkKit
import Derived.Deep.LoopGhost
import Derived.Lib.Walk
import Derived.Shelf.RegionOpenPlain
import Derived.Shelf.Strings.Builder1
import Derived.Shelf.Strings.Builder2
import Derived.Shelf.Strings.BuilderF
import Derived.Shelf.Strings.BuilderK
import Derived.Shelf.Strings.Builder2Cap
import Derived.Shelf.Strings.Search1
import Derived.Shelf.Strings.Search2
import Derived.Shelf.Strings.Search3
import Derived.Shelf.LaysM
import Derived.Shelf.Strings.Shaped
import Derived.Shelf.Strings.Prefix
import Derived.Shelf.Bits.Mul64
import Derived.Shelf.Strings.Repeat
import Derived.Shelf.Strings.BuilderCap
import Derived.Ground.SlgfProg
import Derived.Shelf.SlicesE.IndexFunc
import Derived.Lib.IndexMore

/- Function 44 (slices.IndexFunc[[]byte,byte]): its runs between cut points. Written by a program of this repo (gen). -/
set_option linter.unusedVariables false
set_option linter.unusedSimpArgs false
set_option maxRecDepth 100000
namespace Go.Proofs.Ytldkifoapiianaa
open Go Go.Am Go.Proofs
noncomputable section
def ext44c32 : Ext := [(32, S32)]
theorem call44c32_32 : Callable Try.prog 32 := ⟨Try.f32, Try.func32, by kernel_rfl, by kernel_rfl⟩
theorem ext44c32Ok : ExtOk Try.prog ext44c32 := ⟨⟨call44c32_32, con32⟩, trivial⟩

noncomputable def b44c32 : Code := bodyOf Try.f44
theorem hb44c32 : Try.f44.body = some b44c32 := by kernel_rfl
def sig44c32 : List AT := [AT.v (Ty.sl (Ty.int IntKind.u8)), AT.fn 32 []]
def tys44c32 : List Ty := [Ty.int IntKind.i64]
def kds44c32 : List RK := []
def oks44c32 : List AT := owns sig44c32
def E44c32_2 (v8 : Int) (x0 : List Int) : Env := [(0, PV.a (Atom.sl (Ty.int IntKind.u8) x0)), (1, PV.fn 32 []), (7, PV.a (Atom.val (Value.int IntKind.i64 (↑(List.length x0) : Int)))), (8, PV.a (Atom.val (Value.int IntKind.i64 v8)))]
def L44c32_2 (v8 : Int) (x0 : List Int) : Heap := []
mutual
def R44c32 : Nat → List Int → List Dyn → Prop
  | 0, _, _ => False
  | n + 1, x0, ds => (R44c32_2 n (0) (x0) ds)
def R44c32_2 : Nat → Int → List Int → List Dyn → Prop
  | 0, _, _, _ => False
  | n + 1, v8, x0, ds => (if (Decidable.decide (v8 < (↑(List.length x0) : Int))) = true then ((0 ≤ v8) ∧ (v8 < (↑(List.length x0) : Int)) ∧ (if (g32_0 (List.getD x0 (Int.toNat v8) 0)) = true then (ds = [Dyn.mk (Ty.int IntKind.i64) v8]) else ((InR IntKind.i64 (v8 + 1)) ∧ (R44c32_2 n (v8 + 1) (x0) ds)))) else (ds = [Dyn.mk (Ty.int IntKind.i64) (-1)]))
end
theorem snd44c32 : ∀ n, (∀ (x0 : List Int) ds, R44c32 n x0 ds → ∀ K q, AtV Try.prog 44 (PostR kds44c32 oks44c32 ds [] [] q K) 19 K q [] [.code b44c32] (entE 0 0 sig44c32 (x0, (), ())) (entL sig44c32 (x0, (), ()))) ∧ (∀ (v8 : Int) (x0 : List Int) ds, R44c32_2 n v8 x0 ds → ∀ K q, AtV Try.prog 44 (PostR kds44c32 oks44c32 ds [] [] q K) 19 K q [] (cutAt b44c32 2) (E44c32_2 v8 x0) (L44c32_2 v8 x0)) := by
  intro n
  induction n with
  | zero => exact ⟨fun _ _ h => by simp only [R44c32] at h, fun _ _ _ h => by simp only [R44c32_2] at h⟩
  | succ n ih =>
  obtain ⟨ih, ih2⟩ := ih
  refine ⟨?_, ?_⟩
  · intro x0 ds h K q
    rw [R44c32] at h
    exact AtV.go tabOk ext44c32Ok mixed false [] [] [0, 1, 7, 8] [] [] trivial (ih2 _ _ _ h K q) (by kernel_rfl)

  · intro v8 x0 ds h K q
    rw [R44c32_2] at h
    by_cases b0 : (Decidable.decide (v8 < (↑(List.length x0) : Int))) = true
    · rw [if_pos b0] at h
      obtain ⟨s0, s1, h⟩ := h
      by_cases b1 : (g32_0 (List.getD x0 (Int.toNat v8) 0)) = true
      · rw [if_pos b1] at h
        subst h
        exact AtV.ret Try.func44 tabOk ext44c32Ok mixed false [] tys44c32 [true, true] (a1 b0 (a1 s0 (a1 s1 (a1 trivial (a1 b1 trivial))))) (by kernel_rfl)
      · rw [if_neg b1] at h
        replace b1 := Bool.eq_false_iff.2 b1
        obtain ⟨s2, h⟩ := h
        exact AtV.go tabOk ext44c32Ok mixed false [] [] [0, 1, 7, 8] [] [true, false] (a1 b0 (a1 s0 (a1 s1 (a1 trivial (a1 b1 (a1 s2 trivial)))))) (ih2 _ _ _ h K q) (by kernel_rfl)
    · rw [if_neg b0] at h
      replace b0 := Bool.eq_false_iff.2 b0
      subst h
      exact AtV.ret Try.func44 tabOk ext44c32Ok mixed false [] tys44c32 [false] (a1 b0 trivial) (by kernel_rfl)



def g44c32_0 (x0 : List (Int)) : Int := idx (x0.findIdx? g32_0)
def P44c32 (x0 : List (Int)) : Prop := True

theorem top44c32 (x0 : List (Int)) (hm : x0.length ≤ maxLen) : R44c32 (x0.length + 1 + 1) x0 [⟨.int .i64, g44c32_0 x0⟩] := by
  rw [R44c32]
  have key := loop_find x0 (0 : Int) g32_0 [(⟨.int .i64, -1⟩ : Dyn)] (fun k => [⟨.int .i64, k⟩]) (fun n i ds => R44c32_2 n i x0 ds) (fun n => ?_) (fun n i hi hok ds hr => ?_) (fun n i hi hok => ?_)
  · unfold g44c32_0
    cases h : x0.findIdx? g32_0 <;> rw [h] at key <;> exact key
  · rw [R44c32_2, if_neg (by simp)]
  · rw [R44c32_2, if_pos (by simp; omega)]
    simp only [Int.toNat_natCast]
    refine ⟨by omega, by omega, ?_⟩
    rw [if_neg (by rw [hok]; simp)]
    exact ⟨inR_up hm hi, hr⟩
  · rw [R44c32_2, if_pos (by simp; omega)]
    simp only [Int.toNat_natCast]
    refine ⟨by omega, by omega, ?_⟩
    rw [if_pos hok] <;> trivial

def S44c32 : Am.Spec := { sig := sig44c32, pre := fun ⟨x0, _⟩ => P44c32 x0, res := fun ⟨x0, _⟩ => [⟨Ty.int .i64, g44c32_0 x0⟩] }
theorem con44c32 : Contract Try.prog 44 S44c32 := contract_of Try.func44 hb44c32 (Nat.le_of_ble_eq_true (by kernel_rfl)) (fun ⟨x0, _⟩ h hwf K q =>
  (snd44c32 _).1 x0 _ (top44c32 x0 hwf.1.1) K q)

end
end Go.Proofs.Ytldkifoapiianaa

/- Function 31 (slices.ContainsFunc[[]byte,byte]): its runs between cut points. Written by a program of this repo (gen). -/
set_option linter.unusedVariables false
set_option linter.unusedSimpArgs false
set_option maxRecDepth 100000
namespace Go.Proofs.Ytldkifoapiianaa
open Go Go.Am Go.Proofs
noncomputable section
def ext31c32 : Ext := [(44, S44c32), (32, S32)]
theorem call31c32_44 : Callable Try.prog 44 := ⟨Try.f44, Try.func44, by kernel_rfl, by kernel_rfl⟩
theorem call31c32_32 : Callable Try.prog 32 := ⟨Try.f32, Try.func32, by kernel_rfl, by kernel_rfl⟩
theorem ext31c32Ok : ExtOk Try.prog ext31c32 := ⟨⟨call31c32_44, con44c32⟩, ⟨call31c32_32, con32⟩, trivial⟩

noncomputable def b31c32 : Code := bodyOf Try.f31
theorem hb31c32 : Try.f31.body = some b31c32 := by kernel_rfl
def sig31c32 : List AT := [AT.v (Ty.sl (Ty.int IntKind.u8)), AT.fn 32 []]
def tys31c32 : List Ty := [Ty.bool]
def kds31c32 : List RK := []
def oks31c32 : List AT := owns sig31c32
def P31c32 (x0 : List Int) : Prop := True
def g31c32_0 (x0 : List Int) : Bool := Decidable.decide (g44c32_0 x0 ≥ 0)
theorem at31c32 (x0 : List Int) (h : P31c32 x0) (K : Ctx) (q : Nat → Value) : AtV Try.prog 31 (PostR kds31c32 oks31c32 [⟨Ty.bool, g31c32_0 x0⟩] [] [] q K) 9 K q [] [.code b31c32] (entE 0 0 sig31c32 (x0, (), ())) (entL sig31c32 (x0, (), ())) := by
  unfold P31c32 at h
  unfold g31c32_0
  exact AtV.ret Try.func31 tabOk ext31c32Ok mixed false [] tys31c32 [] (a1 trivial trivial) (by kernel_rfl)

def S31c32 : Am.Spec := { sig := sig31c32, pre := fun ⟨x0, _⟩ => P31c32 x0, res := fun ⟨x0, _⟩ => [⟨Ty.bool, g31c32_0 x0⟩], kds := kds31c32 }
theorem con31c32 : Contract Try.prog 31 S31c32 := contract_of Try.func31 hb31c32 (Nat.le_of_ble_eq_true (by kernel_rfl)) (fun ⟨x0, _⟩ h _ K q => at31c32 x0 h K q)


end
end Go.Proofs.Ytldkifoapiianaa

/- Function 19 (impl.isReportLine): its runs between cut points. Written by a program of this repo (gen). -/
set_option linter.unusedVariables false
set_option linter.unusedSimpArgs false
set_option maxRecDepth 100000
namespace Go.Proofs.Ytldkifoapiianaa
open Go Go.Am Go.Proofs
noncomputable section
def ext19 : Ext := [(31, S31c32)]
theorem call19_31 : Callable Try.prog 31 := ⟨Try.f31, Try.func31, by kernel_rfl, by kernel_rfl⟩
theorem ext19Ok : ExtOk Try.prog ext19 := ⟨⟨call19_31, con31c32⟩, trivial⟩

noncomputable def b19 : Code := bodyOf Try.f19
theorem hb19 : Try.f19.body = some b19 := by kernel_rfl
def sig19 : List AT := [AT.v (Ty.str)]
def tys19 : List Ty := [Ty.bool]
def kds19 : List RK := []
def oks19 : List AT := owns sig19
def P19 (x0 : ByteArray) : Prop := True
def g19_0 (x0 : ByteArray) : Bool := (if (Decidable.decide ((↑(ByteArray.size x0) : Int) ≤ 100)) = true then !g31c32_0 (bytesOf x0) else Bool.false)
theorem at19 (x0 : ByteArray) (h : P19 x0) (K : Ctx) (q : Nat → Value) : AtV Try.prog 19 (PostR kds19 oks19 [⟨Ty.bool, g19_0 x0⟩] [] [] q K) 12 K q [] [.code b19] (entE 0 0 sig19 (x0, ())) (entL sig19 (x0, ())) := by
  unfold P19 at h
  unfold g19_0
  by_cases b0 : (Decidable.decide ((↑(ByteArray.size x0) : Int) ≤ 100)) = true
  · try simp only [if_pos b0] at h ⊢
    exact AtV.ret Try.func19 tabOk ext19Ok mixed false [] tys19 [true] (a1 b0 (a1 trivial trivial)) (by kernel_rfl)
  · try simp only [if_neg b0] at h ⊢
    replace b0 := Bool.eq_false_iff.2 b0
    exact AtV.ret Try.func19 tabOk ext19Ok mixed false [] tys19 [false] (a1 b0 trivial) (by kernel_rfl)

def S19 : Am.Spec := { sig := sig19, pre := fun ⟨x0, _⟩ => P19 x0, res := fun ⟨x0, _⟩ => [⟨Ty.bool, g19_0 x0⟩], kds := kds19 }
theorem con19 : Contract Try.prog 19 S19 := contract_of Try.func19 hb19 (Nat.le_of_ble_eq_true (by kernel_rfl)) (fun ⟨x0, _⟩ h _ K q => at19 x0 h K q)


end
end Go.Proofs.Ytldkifoapiianaa

/- Function 30 (impl.ValidReport$1): its runs between cut points. Written by a program of this repo (gen). -/
set_option linter.unusedVariables false
set_option linter.unusedSimpArgs false
set_option maxRecDepth 100000
namespace Go.Proofs.Ytldkifoapiianaa
open Go Go.Am Go.Proofs
noncomputable section
def ext30 : Ext := [(19, S19)]
theorem call30_19 : Callable Try.prog 19 := ⟨Try.f19, Try.func19, by kernel_rfl, by kernel_rfl⟩
theorem ext30Ok : ExtOk Try.prog ext30 := ⟨⟨call30_19, con19⟩, trivial⟩

noncomputable def b30 : Code := bodyOf Try.f30
theorem hb30 : Try.f30.body = some b30 := by kernel_rfl
def sig30 : List AT := [AT.v (Ty.str)]
def tys30 : List Ty := [Ty.bool]
def kds30 : List RK := []
def oks30 : List AT := owns sig30
def P30 (x0 : ByteArray) : Prop := True
def g30_0 (x0 : ByteArray) : Bool := !g19_0 x0
theorem at30 (x0 : ByteArray) (h : P30 x0) (K : Ctx) (q : Nat → Value) : AtV Try.prog 30 (PostR kds30 oks30 [⟨Ty.bool, g30_0 x0⟩] [] [] q K) 6 K q [] [.code b30] (entE 0 0 sig30 (x0, ())) (entL sig30 (x0, ())) := by
  unfold P30 at h
  unfold g30_0
  exact AtV.ret Try.func30 tabOk ext30Ok mixed false [] tys30 [] (a1 trivial trivial) (by kernel_rfl)

def S30 : Am.Spec := { sig := sig30, pre := fun ⟨x0, _⟩ => P30 x0, res := fun ⟨x0, _⟩ => [⟨Ty.bool, g30_0 x0⟩], kds := kds30 }
theorem con30 : Contract Try.prog 30 S30 := contract_of Try.func30 hb30 (Nat.le_of_ble_eq_true (by kernel_rfl)) (fun ⟨x0, _⟩ h _ K q => at30 x0 h K q)


end
end Go.Proofs.Ytldkifoapiianaa

/- Function 43 (slices.IndexFunc[[]string,string]): its runs between cut points. Written by a program of this repo (gen). -/
set_option linter.unusedVariables false
set_option linter.unusedSimpArgs false
set_option maxRecDepth 100000
namespace Go.Proofs.Ytldkifoapiianaa
open Go Go.Am Go.Proofs
noncomputable section
def ext43c30 : Ext := [(30, S30)]
theorem call43c30_30 : Callable Try.prog 30 := ⟨Try.f30, Try.func30, by kernel_rfl, by kernel_rfl⟩
theorem ext43c30Ok : ExtOk Try.prog ext43c30 := ⟨⟨call43c30_30, con30⟩, trivial⟩

noncomputable def b43c30 : Code := bodyOf Try.f43
theorem hb43c30 : Try.f43.body = some b43c30 := by kernel_rfl
def sig43c30 : List AT := [AT.v (Ty.sl Ty.str), AT.fn 30 []]
def tys43c30 : List Ty := [Ty.int IntKind.i64]
def kds43c30 : List RK := []
def oks43c30 : List AT := owns sig43c30
def E43c30_2 (v8 : Int) (x0 : List ByteArray) : Env := [(0, PV.a (Atom.sl Ty.str x0)), (1, PV.fn 30 []), (7, PV.a (Atom.val (Value.int IntKind.i64 (↑(List.length x0) : Int)))), (8, PV.a (Atom.val (Value.int IntKind.i64 v8)))]
def L43c30_2 (v8 : Int) (x0 : List ByteArray) : Heap := []
mutual
def R43c30 : Nat → List ByteArray → List Dyn → Prop
  | 0, _, _ => False
  | n + 1, x0, ds => (R43c30_2 n (0) (x0) ds)
def R43c30_2 : Nat → Int → List ByteArray → List Dyn → Prop
  | 0, _, _, _ => False
  | n + 1, v8, x0, ds => (if (Decidable.decide (v8 < (↑(List.length x0) : Int))) = true then ((0 ≤ v8) ∧ (v8 < (↑(List.length x0) : Int)) ∧ (if (g30_0 (List.getD x0 (Int.toNat v8) ByteArray.empty)) = true then (ds = [Dyn.mk (Ty.int IntKind.i64) v8]) else ((InR IntKind.i64 (v8 + 1)) ∧ (R43c30_2 n (v8 + 1) (x0) ds)))) else (ds = [Dyn.mk (Ty.int IntKind.i64) (-1)]))
end
theorem snd43c30 : ∀ n, (∀ (x0 : List ByteArray) ds, R43c30 n x0 ds → ∀ K q, AtV Try.prog 43 (PostR kds43c30 oks43c30 ds [] [] q K) 19 K q [] [.code b43c30] (entE 0 0 sig43c30 (x0, (), ())) (entL sig43c30 (x0, (), ()))) ∧ (∀ (v8 : Int) (x0 : List ByteArray) ds, R43c30_2 n v8 x0 ds → ∀ K q, AtV Try.prog 43 (PostR kds43c30 oks43c30 ds [] [] q K) 19 K q [] (cutAt b43c30 2) (E43c30_2 v8 x0) (L43c30_2 v8 x0)) := by
  intro n
  induction n with
  | zero => exact ⟨fun _ _ h => by simp only [R43c30] at h, fun _ _ _ h => by simp only [R43c30_2] at h⟩
  | succ n ih =>
  obtain ⟨ih, ih2⟩ := ih
  refine ⟨?_, ?_⟩
  · intro x0 ds h K q
    rw [R43c30] at h
    exact AtV.go tabOk ext43c30Ok mixed false [] [] [0, 1, 7, 8] [] [] trivial (ih2 _ _ _ h K q) (by kernel_rfl)

  · intro v8 x0 ds h K q
    rw [R43c30_2] at h
    by_cases b0 : (Decidable.decide (v8 < (↑(List.length x0) : Int))) = true
    · rw [if_pos b0] at h
      obtain ⟨s0, s1, h⟩ := h
      by_cases b1 : (g30_0 (List.getD x0 (Int.toNat v8) ByteArray.empty)) = true
      · rw [if_pos b1] at h
        subst h
        exact AtV.ret Try.func43 tabOk ext43c30Ok mixed false [] tys43c30 [true, true] (a1 b0 (a1 s0 (a1 s1 (a1 trivial (a1 b1 trivial))))) (by kernel_rfl)
      · rw [if_neg b1] at h
        replace b1 := Bool.eq_false_iff.2 b1
        obtain ⟨s2, h⟩ := h
        exact AtV.go tabOk ext43c30Ok mixed false [] [] [0, 1, 7, 8] [] [true, false] (a1 b0 (a1 s0 (a1 s1 (a1 trivial (a1 b1 (a1 s2 trivial)))))) (ih2 _ _ _ h K q) (by kernel_rfl)
    · rw [if_neg b0] at h
      replace b0 := Bool.eq_false_iff.2 b0
      subst h
      exact AtV.ret Try.func43 tabOk ext43c30Ok mixed false [] tys43c30 [false] (a1 b0 trivial) (by kernel_rfl)



def g43c30_0 (x0 : List (ByteArray)) : Int := idx (x0.findIdx? g30_0)
def P43c30 (x0 : List (ByteArray)) : Prop := True

theorem top43c30 (x0 : List (ByteArray)) (hm : x0.length ≤ maxLen) : R43c30 (x0.length + 1 + 1) x0 [⟨.int .i64, g43c30_0 x0⟩] := by
  rw [R43c30]
  have key := loop_find x0 ByteArray.empty g30_0 [(⟨.int .i64, -1⟩ : Dyn)] (fun k => [⟨.int .i64, k⟩]) (fun n i ds => R43c30_2 n i x0 ds) (fun n => ?_) (fun n i hi hok ds hr => ?_) (fun n i hi hok => ?_)
  · unfold g43c30_0
    cases h : x0.findIdx? g30_0 <;> rw [h] at key <;> exact key
  · rw [R43c30_2, if_neg (by simp)]
  · rw [R43c30_2, if_pos (by simp; omega)]
    simp only [Int.toNat_natCast]
    refine ⟨by omega, by omega, ?_⟩
    rw [if_neg (by rw [hok]; simp)]
    exact ⟨inR_up hm hi, hr⟩
  · rw [R43c30_2, if_pos (by simp; omega)]
    simp only [Int.toNat_natCast]
    refine ⟨by omega, by omega, ?_⟩
    rw [if_pos hok] <;> trivial

def S43c30 : Am.Spec := { sig := sig43c30, pre := fun ⟨x0, _⟩ => P43c30 x0, res := fun ⟨x0, _⟩ => [⟨Ty.int .i64, g43c30_0 x0⟩] }
theorem con43c30 : Contract Try.prog 43 S43c30 := contract_of Try.func43 hb43c30 (Nat.le_of_ble_eq_true (by kernel_rfl)) (fun ⟨x0, _⟩ h hwf K q =>
  (snd43c30 _).1 x0 _ (top43c30 x0 hwf.1.1) K q)

end
end Go.Proofs.Ytldkifoapiianaa

/- Function 29 (slices.ContainsFunc[[]string,string]): its runs between cut points. Written by a program of this repo (gen). -/
set_option linter.unusedVariables false
set_option linter.unusedSimpArgs false
set_option maxRecDepth 100000
namespace Go.Proofs.Ytldkifoapiianaa
open Go Go.Am Go.Proofs
noncomputable section
def ext29c30 : Ext := [(43, S43c30), (30, S30)]
theorem call29c30_43 : Callable Try.prog 43 := ⟨Try.f43, Try.func43, by kernel_rfl, by kernel_rfl⟩
theorem call29c30_30 : Callable Try.prog 30 := ⟨Try.f30, Try.func30, by kernel_rfl, by kernel_rfl⟩
theorem ext29c30Ok : ExtOk Try.prog ext29c30 := ⟨⟨call29c30_43, con43c30⟩, ⟨call29c30_30, con30⟩, trivial⟩

noncomputable def b29c30 : Code := bodyOf Try.f29
theorem hb29c30 : Try.f29.body = some b29c30 := by kernel_rfl
def sig29c30 : List AT := [AT.v (Ty.sl Ty.str), AT.fn 30 []]
def tys29c30 : List Ty := [Ty.bool]
def kds29c30 : List RK := []
def oks29c30 : List AT := owns sig29c30
def P29c30 (x0 : List ByteArray) : Prop := True
def g29c30_0 (x0 : List ByteArray) : Bool := Decidable.decide (g43c30_0 x0 ≥ 0)
theorem at29c30 (x0 : List ByteArray) (h : P29c30 x0) (K : Ctx) (q : Nat → Value) : AtV Try.prog 29 (PostR kds29c30 oks29c30 [⟨Ty.bool, g29c30_0 x0⟩] [] [] q K) 9 K q [] [.code b29c30] (entE 0 0 sig29c30 (x0, (), ())) (entL sig29c30 (x0, (), ())) := by
  unfold P29c30 at h
  unfold g29c30_0
  exact AtV.ret Try.func29 tabOk ext29c30Ok mixed false [] tys29c30 [] (a1 trivial trivial) (by kernel_rfl)

def S29c30 : Am.Spec := { sig := sig29c30, pre := fun ⟨x0, _⟩ => P29c30 x0, res := fun ⟨x0, _⟩ => [⟨Ty.bool, g29c30_0 x0⟩], kds := kds29c30 }
theorem con29c30 : Contract Try.prog 29 S29c30 := contract_of Try.func29 hb29c30 (Nat.le_of_ble_eq_true (by kernel_rfl)) (fun ⟨x0, _⟩ h _ K q => at29c30 x0 h K q)


end
end Go.Proofs.Ytldkifoapiianaa

/- Function 17 (impl.ValidReport): its runs between cut points. Written by a program of this repo (gen). -/
set_option linter.unusedVariables false
set_option linter.unusedSimpArgs false
set_option maxRecDepth 100000
namespace Go.Proofs.Ytldkifoapiianaa
open Go Go.Am Go.Proofs
noncomputable section
def ext17 : Ext := [(29, S29c30)]
theorem call17_29 : Callable Try.prog 29 := ⟨Try.f29, Try.func29, by kernel_rfl, by kernel_rfl⟩
theorem ext17Ok : ExtOk Try.prog ext17 := ⟨⟨call17_29, con29c30⟩, trivial⟩

noncomputable def b17 : Code := bodyOf Try.f17
theorem hb17 : Try.f17.body = some b17 := by kernel_rfl
def sig17 : List AT := [AT.v (Ty.sl Ty.str)]
def tys17 : List Ty := [Ty.bool]
def kds17 : List RK := []
def oks17 : List AT := owns sig17
def P17 (x0 : List ByteArray) : Prop := True
def g17_0 (x0 : List ByteArray) : Bool := (if (Decidable.decide ((↑(List.length x0) : Int) ≤ 200)) = true then !g29c30_0 x0 else Bool.false)
theorem at17 (x0 : List ByteArray) (h : P17 x0) (K : Ctx) (q : Nat → Value) : AtV Try.prog 17 (PostR kds17 oks17 [⟨Ty.bool, g17_0 x0⟩] [] [] q K) 11 K q [] [.code b17] (entE 0 0 sig17 (x0, ())) (entL sig17 (x0, ())) := by
  unfold P17 at h
  unfold g17_0
  by_cases b0 : (Decidable.decide ((↑(List.length x0) : Int) ≤ 200)) = true
  · try simp only [if_pos b0] at h ⊢
    exact AtV.ret Try.func17 tabOk ext17Ok mixed false [] tys17 [true] (a1 b0 (a1 trivial trivial)) (by kernel_rfl)
  · try simp only [if_neg b0] at h ⊢
    replace b0 := Bool.eq_false_iff.2 b0
    exact AtV.ret Try.func17 tabOk ext17Ok mixed false [] tys17 [false] (a1 b0 trivial) (by kernel_rfl)

def S17 : Am.Spec := { sig := sig17, pre := fun ⟨x0, _⟩ => P17 x0, res := fun ⟨x0, _⟩ => [⟨Ty.bool, g17_0 x0⟩], kds := kds17 }
theorem con17 : Contract Try.prog 17 S17 := contract_of Try.func17 hb17 (Nat.le_of_ble_eq_true (by kernel_rfl)) (fun ⟨x0, _⟩ h _ K q => at17 x0 h K q)


end
end Go.Proofs.Ytldkifoapiianaa

/- Function 18 (impl.within): its runs between cut points. Written by a program of this repo (gen). -/
set_option linter.unusedVariables false
set_option linter.unusedSimpArgs false
set_option maxRecDepth 100000
namespace Go.Proofs.Ytldkifoapiianaa
open Go Go.Am Go.Proofs
noncomputable section
def ext18 : Ext := []
theorem ext18Ok : ExtOk Try.prog ext18 := trivial

noncomputable def b18 : Code := bodyOf Try.f18
theorem hb18 : Try.f18.body = some b18 := by kernel_rfl
def sig18 : List AT := [AT.v (Ty.int IntKind.i64), AT.v (Ty.int IntKind.i64), AT.v (Ty.int IntKind.i64)]
def tys18 : List Ty := [Ty.bool]
def kds18 : List RK := []
def oks18 : List AT := owns sig18
def P18 (x0 : Int) (x1 : Int) (x2 : Int) : Prop := True
def g18_0 (x0 : Int) (x1 : Int) (x2 : Int) : Bool := (if (Decidable.decide (x0 ≥ x1)) = true then Decidable.decide (x0 ≤ x2) else Bool.false)
theorem at18 (x0 : Int) (x1 : Int) (x2 : Int) (h : P18 x0 x1 x2) (K : Ctx) (q : Nat → Value) : AtV Try.prog 18 (PostR kds18 oks18 [⟨Ty.bool, g18_0 x0 x1 x2⟩] [] [] q K) 15 K q [] [.code b18] (entE 0 0 sig18 (x0, x1, x2, ())) (entL sig18 (x0, x1, x2, ())) := by
  unfold P18 at h
  unfold g18_0
  by_cases b0 : (Decidable.decide (x0 ≥ x1)) = true
  · try simp only [if_pos b0] at h ⊢
    exact AtV.ret Try.func18 tabOk ext18Ok mixed false [] tys18 [true] (a1 b0 trivial) (by kernel_rfl)
  · try simp only [if_neg b0] at h ⊢
    replace b0 := Bool.eq_false_iff.2 b0
    exact AtV.ret Try.func18 tabOk ext18Ok mixed false [] tys18 [false] (a1 b0 trivial) (by kernel_rfl)

def S18 : Am.Spec := { sig := sig18, pre := fun ⟨x0, x1, x2, _⟩ => P18 x0 x1 x2, res := fun ⟨x0, x1, x2, _⟩ => [⟨Ty.bool, g18_0 x0 x1 x2⟩], kds := kds18 }
theorem con18 : Contract Try.prog 18 S18 := contract_of Try.func18 hb18 (Nat.le_of_ble_eq_true (by kernel_rfl)) (fun ⟨x0, x1, x2, _⟩ h _ K q => at18 x0 x1 x2 h K q)


end
end Go.Proofs.Ytldkifoapiianaa

/- Function 20 (impl.size[string]): its runs between cut points. Written by a program of this repo (gen). -/
set_option linter.unusedVariables false
set_option linter.unusedSimpArgs false
set_option maxRecDepth 100000
namespace Go.Proofs.Ytldkifoapiianaa
open Go Go.Am Go.Proofs
noncomputable section
def ext20 : Ext := []
theorem ext20Ok : ExtOk Try.prog ext20 := trivial

noncomputable def b20 : Code := bodyOf Try.f20
theorem hb20 : Try.f20.body = some b20 := by kernel_rfl
def sig20 : List AT := [AT.v (Ty.sl Ty.str)]
def tys20 : List Ty := [Ty.int IntKind.i64]
def kds20 : List RK := []
def oks20 : List AT := owns sig20
def P20 (x0 : List ByteArray) : Prop := True
def g20_0 (x0 : List ByteArray) : Int := (↑(List.length x0) : Int)
theorem at20 (x0 : List ByteArray) (h : P20 x0) (K : Ctx) (q : Nat → Value) : AtV Try.prog 20 (PostR kds20 oks20 [⟨Ty.int IntKind.i64, g20_0 x0⟩] [] [] q K) 5 K q [] [.code b20] (entE 0 0 sig20 (x0, ())) (entL sig20 (x0, ())) := by
  unfold P20 at h
  unfold g20_0
  exact AtV.ret Try.func20 tabOk ext20Ok mixed false [] tys20 [] trivial (by kernel_rfl)

def S20 : Am.Spec := { sig := sig20, pre := fun ⟨x0, _⟩ => P20 x0, res := fun ⟨x0, _⟩ => [⟨Ty.int IntKind.i64, g20_0 x0⟩], kds := kds20 }
theorem con20 : Contract Try.prog 20 S20 := contract_of Try.func20 hb20 (Nat.le_of_ble_eq_true (by kernel_rfl)) (fun ⟨x0, _⟩ h _ K q => at20 x0 h K q)


end
end Go.Proofs.Ytldkifoapiianaa

/- Function 21 (slices.Concat[[]string,string]): its contract, off what is known of the library. -/
set_option linter.unusedVariables false
set_option linter.unusedSimpArgs false
set_option maxRecDepth 100000
namespace Go.Proofs.Ytldkifoapiianaa
open Go Go.Am Go.Proofs

open Go.RowKit in
set_option maxHeartbeats 4000000 in
theorem grow21 (w : World) (n : Nat) (h0 : 1 ≤ n) (hn : n ≤ 1048576) :
    Calls Try.prog 33 #[.slice none 0 0, .int .i64 n] w fun r w' => ∃ v', r = .returned v' ∧ w'.ownsRow w.heap.size 9 1 v' 0 [] ∧ Below w.heap.size w w' := by
  have mixed := mixed
  have hinfo : TIOk Try.prog 24 (tabGet tab 24) := tabOk 24
  obtain ⟨_, _, ⟨_, ⟨i0, hi0, hz1, z, hz0, hzs, _⟩⟩, hby⟩ := hinfo
  rw [hi0] at hby
  simp only [Option.map_some, Option.some.injEq] at hby
  have hzs' : z.cells.size = 1 := by rw [← Array.length_toList, hzs]; rfl
  have hs1 : i0.size = 1 := hz1
  have hb16 : i0.bytes = 16 := hby
  have hG := grownCap_ge w n 0 9
  have hGm : grownCap w n 0 9 ≤ maxLen := grownCap_le_maxLen w n 0 9 (by unfold maxLen; omega)
  have hrz : ∀ ty, (Builtin.append_ #[24, 3] ty #[.slice none 0 0, .int .i64 n]).run Try.prog w = .ok (.slice (some ⟨w.heap.size, 0, none⟩) n (grownCap w n 0 9)) (w.drew.alloc (.cells (Builtin.zeroCells z.cells n ++ Builtin.zeroCells z.cells (grownCap w n 0 9 - n)) 9)) := fun ty =>
    Lib.run_append_nil_zeros w 24 3 ty 9 i0 z .i64 .i64 Try.underlying24 Try.underlying3 hi0 hz0 n (by omega) (by omega) (by omega) (by rw [hb16]; omega)
  have hsz : (Builtin.zeroCells z.cells n ++ Builtin.zeroCells z.cells (grownCap w n 0 9 - n)).size = grownCap w n 0 9 * 1 := by
    rw [Array.size_append, size_zeroCells, size_zeroCells, hzs']; omega
  obtain ⟨cur, hcur⟩ : ∃ cur, Builtin.zeroCells z.cells n ++ Builtin.zeroCells z.cells (grownCap w n 0 9 - n) = cur := ⟨_, rfl⟩
  rw [hcur] at hrz hsz
  obtain ⟨G, eG⟩ : ∃ G, grownCap w n 0 9 = G := ⟨_, rfl⟩
  rw [eG] at hrz hG hGm hsz
  have hG63 : G ≤ 9223372036854775807 := by unfold maxLen at hGm; omega
  clear eG hcur hzs' hzs hz0 hi0 hz1 hs1 hb16 hby
  have n1 : ¬ ((n : Int) < 0) := by omega
  have n2 : (n : Int) > 0 := by omega
  go_enter Try.func33, Try.ntmps33
  go_wp2_with (at_builtin; refine Lib.wpList_append_run _ rfl _ _ _ _ rfl _ _ rfl rfl _ _ (hrz _) ?_)
  all_goals go_ret
  all_goals exact ⟨_, rfl, World.ownsRow_made w.drew cur G (Nat.le_refl _) hGm hsz, ((Below.refl _ w).drew).alloc (Nat.le_refl _) _⟩

theorem sum21 (xss : List (List ByteArray)) (k : Nat) (h : k < xss.length) : (xss.take (k + 1)).flatten.length = (xss.take k).flatten.length + (xss.getD k []).length := by
  rw [List.take_add_one, List.getD_eq_getElem?_getD, List.getElem?_eq_getElem h, List.flatten_append, List.length_append]
  simp

theorem sumle21 (xss : List (List ByteArray)) (k : Nat) : (xss.take k).flatten.length ≤ xss.flatten.length := by
  conv => rhs; rw [← List.take_append_drop k xss, List.flatten_append, List.length_append]
  omega

theorem fcslen21 : ∀ (x : List ByteArray), (fcs .str x).length = x.length * 1
  | [] => rfl
  | a :: r => by
    have := fcslen21 r
    have e : fcs .str (a :: r) = .string a :: fcs .str r := rfl
    rw [e, List.length_cons, List.length_cons, this]
    omega

theorem fcsuc21 (xss : List (List ByteArray)) (k : Nat) (h : k < xss.length) : fcs .str (xss.take (k + 1)).flatten = fcs .str (xss.take k).flatten ++ fcs .str (xss.getD k []) := by
  rw [List.take_add_one, List.getD_eq_getElem?_getD, List.getElem?_eq_getElem h, List.flatten_append]
  unfold fcs
  simp

open Go.RowKit in
theorem app21 (hinfo : TIOk Try.prog 24 (tabGet tab 24)) {wr : World} (base : Nat) {v : Value} {n : Nat} {xs : List Value} (ho : wr.ownsRow base 9 1 v n xs) (b' off' cap' : Nat) {m : Nat} (news : List Value) (hl : news.length = m * 1) (hc : ∀ j u, news[j]? = some u → wr.cell? ⟨b', off' + j, none⟩ = some u) (h1 : ∀ u ∈ news, u.oneCell' = true) (hnm : n + m ≤ 1048576) (hbase : base ≤ wr.heap.size)
    {ops : Array Oper} {rest : List Oper} {o : Oper} {a : Act} {Q : Exit → Act → World → Prop} {s x : Operand} (hgd : o.guard = none) (hop : o.op = .call { callee := .builtin .append, args := #[s, x], argTypes := #[24, 24] }) (hs : a.eval s = v) (hx : a.eval x = .slice (some ⟨b', off', none⟩) m cap')
    (h : ∀ v' w', w'.ownsRow base 9 1 v' (n + m) (xs ++ news) → wr.grownBy w' v.ownBlock → wpList Try.prog ops Q rest (a.put o.dst v') w') : wpList Try.prog ops Q (o :: rest) a wr := by
  obtain ⟨_, _, ⟨_, ⟨i0, hi0, hz1, z, hz0, hzs, _⟩⟩, hby⟩ := hinfo
  rw [hi0] at hby
  simp only [Option.map_some, Option.some.injEq] at hby
  have hzs' : z.cells.size = 1 := by rw [← Array.length_toList, hzs]; rfl
  have hb16 : i0.bytes = 16 := hby
  refine wpList_append_own _ hgd s x 24 hop base 9 i0 z 1 i0.bytes Try.underlying24 hi0 hz0 hz1 rfl hzs' (by decide) v n xs hs ho ⟨b', off', none⟩ m cap' news hx hl (fun j u hj => by rw [Addr.add_lit]; exact hc j u hj) h1 (by unfold maxLen; omega) (by rw [hb16]; omega) hbase (fun v' w' h1 h2 _ => h v' w' h1 h2)

open Go.RowKit in
set_option maxHeartbeats 4000000 in
theorem walk21 (w : World) (b off cap : Nat) (xss : List (List ByteArray)) (hb : b < w.heap.size) (hcap : xss.length ≤ cap) (hcm : cap ≤ maxLen)
    (hv : ∀ k, k < xss.length → ∃ b' off' cap', w.cell? ⟨b, off + k, none⟩ = some (.slice (some ⟨b', off', none⟩) (xss.getD k []).length cap') ∧ b' < w.heap.size ∧ (xss.getD k []).length ≤ cap' ∧ ∀ j u, (fcs .str (xss.getD k []))[j]? = some u → w.cell? ⟨b', off' + j, none⟩ = some u)
    (htot : xss.flatten.length ≤ 1048576) (h1 : 1 ≤ xss.flatten.length) (hn : xss.length ≤ 1000) :
    Calls Try.prog 21 #[.slice (some ⟨b, off, none⟩) xss.length cap] w fun r w' => ∃ v', r = .returned v' ∧ w'.ownsRow w.heap.size 9 1 v' xss.flatten.length (fcs .str xss.flatten) ∧ Below w.heap.size w w' := by
  have mixed := mixed
  have HV : Aside (∀ k, k < xss.length → ∃ b' off' cap', w.cell? ⟨b, off + k, none⟩ = some (.slice (some ⟨b', off', none⟩) (xss.getD k []).length cap') ∧ b' < w.heap.size ∧ (xss.getD k []).length ≤ cap' ∧ ∀ j u, (fcs .str (xss.getD k []))[j]? = some u → w.cell? ⟨b', off' + j, none⟩ = some u) := hv
  clear hv
  go_enter Try.func21, Try.ntmps21
  go_wp2
  go_loopw [11, 3] (fun i s wr => ∃ k : Nat, k ≤ xss.length ∧ i = .int .i64 k ∧ s = .int .i64 ((xss.take k).flatten.length : Nat) ∧ w = wr) (fun i _ _ => xss.length - (intOf i).toNat)
  case atStart => exact ⟨0, Nat.zero_le _, rfl, rfl, rfl⟩
  case round =>
    obtain ⟨k, hk, rfl, rfl, rfl⟩ := hrel
    by_cases hlt : k < xss.length
    · obtain ⟨b', off', cap', q1, q2, q3, q4⟩ := HV.out k hlt
      have hsuc := sum21 xss k hlt
      have hle := sumle21 xss (k + 1)
      clear q4
      have HS : Aside ((xss.take (k + 1)).flatten.length = (xss.take k).flatten.length + (xss.getD k []).length) := hsuc
      have hAB : (((xss.take k).flatten.length : Nat) : Int) + (((xss.getD k []).length : Nat) : Int) ≤ 1048576 := by omega
      have e2 : ¬ (((xss.take k).flatten.length : Nat) : Int) + (((xss.getD k []).length : Nat) : Int) < 0 := by omega
      clear hsuc hle
      generalize (xss.take k).flatten.length = A at *
      generalize (xss.getD k []).length = B at *
      go_wp2
      refine ⟨⟨k + 1, by omega, by simp, ?_, trivial⟩, by simp [intOf]; omega⟩
      rw [HS.out]
      simp
    · have hkn : k = xss.length := by omega
      subst hkn
      have ht : (xss.take xss.length).flatten.length = xss.flatten.length := by rw [List.take_length]
      rw [ht]
      obtain ⟨N, hN⟩ : ∃ N, xss.flatten.length = N := ⟨_, rfl⟩
      rw [hN] at htot h1 ht ⊢
      have HN : Aside (xss.flatten.length = N) := hN
      clear hN ht hlt
      go_wp2_with (go_at_call 33; refine (grow21 _ N h1 htot).mono ?_; rintro e w3 ⟨v3, rfl, o3, b3⟩)
      have HO3 : Aside (w3.ownsRow w.heap.size 9 1 v3 (xss.take 0).flatten.length (fcs .str (xss.take 0).flatten)) := o3
      clear o3
      go_loopw [27, 6] (fun i v wq => ∃ k : Nat, k ≤ xss.length ∧ i = .int .i64 k ∧ wq.ownsRow w.heap.size 9 1 v (xss.take k).flatten.length (fcs .str (xss.take k).flatten) ∧ Below w.heap.size w wq) (fun i _ _ => xss.length - (intOf i).toNat)
      case atStart => exact ⟨0, Nat.zero_le _, rfl, HO3.out, b3⟩
      case round =>
        obtain ⟨k, hk2, rfl, ho, hbw⟩ := hrel
        by_cases hlt : k < xss.length
        · obtain ⟨b', off', cap', q1, q2, q3, q4⟩ := HV.out k hlt
          have hsuc := sum21 xss k hlt
          have hle := sumle21 xss (k + 1)
          have ecs := fcsuc21 xss k hlt
          have p1 : wr.cell? ⟨b, off + k, none⟩ = some (.slice (some ⟨b', off', none⟩) (xss.getD k []).length cap') := (World.cell?_of_block (hbw.block b hb)).trans q1
          have Q4 : Aside (∀ j u, (fcs .str (xss.getD k []))[j]? = some u → wr.cell? ⟨b', off' + j, none⟩ = some u) := fun j u hj => (World.cell?_of_block (hbw.block b' q2)).trans (q4 j u hj)
          have Q1 : Aside (∀ u ∈ fcs .str (xss.getD k []), u.oneCell' = true) := fun u hu => by
            obtain ⟨l, hl, hu⟩ := List.mem_flatten.1 hu
            obtain ⟨x, _, rfl⟩ := List.mem_map.1 hl
            exact fcells_one (t := .str) rfl u hu
          have QL : Aside ((fcs .str (xss.getD k [])).length = (xss.getD k []).length * 1) := fcslen21 _
          have HS : Aside ((xss.take (k + 1)).flatten.length = (xss.take k).flatten.length + (xss.getD k []).length) := hsuc
          have HC : Aside (fcs .str (xss.take (k + 1)).flatten = fcs .str (xss.take k).flatten ++ fcs .str (xss.getD k [])) := ecs
          have hAB : (xss.take k).flatten.length + (xss.getD k []).length ≤ 1048576 := by have := HN.out; omega
          have HO : Aside (wr.ownsRow w.heap.size 9 1 u6 (xss.take k).flatten.length (fcs .str (xss.take k).flatten)) := ho
          have HI : Aside (TIOk Try.prog 24 (tabGet tab 24)) := tabOk 24
          clear hsuc hle ecs q1 q4 ho
          generalize xss.getD k [] = X at *
          obtain ⟨L, hL⟩ : ∃ L, X.length = L := ⟨_, rfl⟩
          rw [hL] at p1 q3 hAB
          have QL : Aside ((fcs .str X).length = L * 1) := by rw [← hL]; exact QL.out
          have HS : Aside ((xss.take (k + 1)).flatten.length = (xss.take k).flatten.length + L) := by rw [← hL]; exact HS.out
          clear hL
          go_wp2_with (at_builtin; refine app21 HI.out w.heap.size HO.out b' off' cap' _ QL.out Q4.out Q1.out hAB hbw.size rfl rfl rfl rfl ?_; intro v' w' hown hgrow)
          go_wp2
          refine ⟨⟨k + 1, by omega, by simp, ?_, hbw.grown hgrow hbw.size (fun g hg => (HO.out.lt g hg).1)⟩, by simp [intOf]; omega⟩
          rw [HS.out, HC.out]
          exact hown
        · have hkn : k = xss.length := by omega
          subst hkn
          rw [List.take_length] at ho
          have HO : Aside (wr.ownsRow w.heap.size 9 1 u6 xss.flatten.length (fcs .str xss.flatten)) := ho
          clear ho
          go_wp2
          go_ret
          exact ⟨_, rfl, HO.out, hbw⟩

def sig21 : List AT := [AT.v (Ty.sl (Ty.sl Ty.str))]
def g21_0 (x0 : List (List ByteArray)) : List ByteArray := x0.flatten
def P21 (x0 : List (List ByteArray)) : Prop := x0.flatten.length ≤ 1048576 ∧ 1 ≤ x0.length ∧ x0.length ≤ 1000 ∧ ∀ r ∈ x0, r ≠ []
def S21 : Am.Spec := { sig := sig21, pre := fun ⟨x0, _⟩ => P21 x0, res := fun ⟨x0, _⟩ => [⟨Ty.sl Ty.str, g21_0 x0⟩] }

open Go.RowKit in
theorem con21 : Contract Try.prog 21 S21 := by
  refine Contract0.up rfl rfl ?_
  rintro w ⟨x0, u⟩ vs bss hgo hp ⟨v, s, b, bs, rfl, rfl, ⟨rfl, ho⟩, rfl, rfl⟩ hnd
  obtain ⟨p1, p2, p3, p4⟩ : x0.flatten.length ≤ 1048576 ∧ 1 ≤ x0.length ∧ x0.length ≤ 1000 ∧ ∀ r ∈ x0, r ≠ [] := hp
  have hm : x0.flatten.length ≤ maxLen := by unfold maxLen; omega
  have ho : SlAt w (Am.Good w ([[]] : List (List Nat)).flatten) (RepC w (Am.Good w ([[]] : List (List Nat)).flatten) (.sl .str)) 1 x0 v := ho
  rcases ho.2 with ⟨ad, rfl, e⟩ | ⟨b0, off, cap, rfl, h1, h2, hG, hrow⟩
  · rw [e] at p2; simp at p2
  have inner : ∀ k, k < x0.length → (∀ x ∈ x0.getD k [], Wf .str x) ∧ ∃ b' off' cap', w.cell? ⟨b0, off + k, none⟩ = some (.slice (some ⟨b', off', none⟩) (x0.getD k []).length cap') ∧ b' < w.heap.size ∧ (x0.getD k []).length ≤ cap' ∧ ∀ j u, (fcs .str (x0.getD k []))[j]? = some u → w.cell? ⟨b', off' + j, none⟩ = some u := fun k hk => by
    have hg : x0[k]? = some (x0.getD k []) := by rw [List.getD_eq_getElem?_getD, List.getElem?_eq_getElem hk]; rfl
    obtain ⟨cs, c1, c2, v', rfl, hs⟩ := hrow k _ hg
    have c0 := c2 0 v' rfl
    rw [Nat.mul_one, Nat.add_zero] at c0
    obtain ⟨hw, _, hcase⟩ := slAt_flat (t := .str) rfl hs
    refine ⟨hw, ?_⟩
    rcases hcase with ⟨ad, rfl, e⟩ | ⟨b', off', cap', rfl, i2, i3, iG, ic⟩
    · exact absurd e (p4 _ (mem_getD x0 k [] hk))
    · exact ⟨b', off', cap', c0, iG.1, i2, ic⟩
  have hw : ∀ y ∈ x0.flatten, Wf .str y := fun y hy => by
    obtain ⟨r, hr, hy⟩ := List.mem_flatten.1 hy
    obtain ⟨k, hk, rfl⟩ := List.mem_iff_getElem.1 hr
    refine (inner k hk).1 y ?_
    rw [List.getD_eq_getElem?_getD, List.getElem?_eq_getElem hk]
    exact hy
  have h1f : 1 ≤ x0.flatten.length := by
    cases x0 with
    | nil => simp at p2
    | cons r l =>
      have := p4 r (by simp)
      rw [List.flatten_cons, List.length_append]
      have : 0 < r.length := List.length_pos_iff.2 this
      omega
  refine (walk21 w b0 off cap x0 hG.1 h1 h2 (fun k hk => (inner k hk).2) p1 h1f p3).mono ?_
  rintro r w' ⟨v', rfl, g1, g2⟩
  obtain ⟨bs, k1, k2, k3⟩ := own_of_row (t := .str) rfl hw hm g1
  refine ⟨[v'], [], [bs], rfl, Kept.of_below g2, ⟨_, _, _, _, _, rfl, rfl, k1, rfl, rfl, rfl⟩, ⟨rfl, rfl⟩, by simpa using k2, fun b hb hg => ?_⟩
  simp at hb
  have := k3 b hb
  have := hg.1
  omega

end Go.Proofs.Ytldkifoapiianaa

/- Function 6 (impl.PagesOf): its runs between cut points. Written by a program of this repo (gen). -/
set_option linter.unusedVariables false
set_option linter.unusedSimpArgs false
set_option maxRecDepth 100000
namespace Go.Proofs.Ytldkifoapiianaa
open Go Go.Am Go.Proofs
noncomputable section
def ext6 : Ext := [(17, S17), (18, S18), (19, S19), (20, S20), (21, S21)]
theorem call6_17 : Callable Try.prog 17 := ⟨Try.f17, Try.func17, by kernel_rfl, by kernel_rfl⟩
theorem call6_18 : Callable Try.prog 18 := ⟨Try.f18, Try.func18, by kernel_rfl, by kernel_rfl⟩
theorem call6_19 : Callable Try.prog 19 := ⟨Try.f19, Try.func19, by kernel_rfl, by kernel_rfl⟩
theorem call6_20 : Callable Try.prog 20 := ⟨Try.f20, Try.func20, by kernel_rfl, by kernel_rfl⟩
theorem call6_21 : Callable Try.prog 21 := ⟨Try.f21, Try.func21, by kernel_rfl, by kernel_rfl⟩
theorem ext6Ok : ExtOk Try.prog ext6 := ⟨⟨call6_17, con17⟩, ⟨call6_18, con18⟩, ⟨call6_19, con19⟩, ⟨call6_20, con20⟩, ⟨call6_21, con21⟩, trivial⟩

noncomputable def b6 : Code := bodyOf Try.f6
theorem hb6 : Try.f6.body = some b6 := by kernel_rfl
def sig6 : List AT := [AT.v (Ty.sl Ty.str), AT.v (Ty.int IntKind.i64), AT.v (Ty.str)]
def tys6 : List Ty := [Ty.sl (Ty.sl Ty.str), Ty.int IntKind.i64]
def kds6 : List RK := [.frz, .own]
def oks6 : List AT := owns sig6
def E6_7 (v9 : Int) (h0 : List (List ByteArray)) (x0 : List ByteArray) (x1 : Int) (x2 : ByteArray) : Env := [(0, PV.a (Atom.sl Ty.str x0)), (1, PV.a (Atom.val (Value.int IntKind.i64 x1))), (2, PV.a (Atom.val (Value.string x2))), (8, PV.a (Atom.osl 0 Option.none)), (9, PV.a (Atom.val (Value.int IntKind.i64 v9)))]
def L6_7 (v9 : Int) (h0 : List (List ByteArray)) (x0 : List ByteArray) (x1 : Int) (x2 : ByteArray) : Heap := [Option.some (Arr.mk (Ty.sl Ty.str) h0 Bool.true Option.none Option.none)]
mutual
def R6 : Nat → List ByteArray → Int → ByteArray → List Dyn → Prop
  | 0, _, _, _, _ => False
  | n + 1, x0, x1, x2, ds => (if (!g17_0 x0) = true then (ds = [Dyn.mk (Ty.sl (Ty.sl Ty.str)) [], Dyn.mk (Ty.int IntKind.i64) 1]) else (if (!g18_0 x1 2 200) = true then (ds = [Dyn.mk (Ty.sl (Ty.sl Ty.str)) [], Dyn.mk (Ty.int IntKind.i64) 2]) else (if (!g19_0 x2) = true then (ds = [Dyn.mk (Ty.sl (Ty.sl Ty.str)) [], Dyn.mk (Ty.int IntKind.i64) 2]) else (R6_7 n (0) ([]) (x0) (x1) (x2) ds))))
def R6_7 : Nat → Int → List (List ByteArray) → List ByteArray → Int → ByteArray → List Dyn → Prop
  | 0, _, _, _, _, _, _ => False
  | n + 1, v9, h0, x0, x1, x2, ds => (if (Decidable.decide (v9 < g20_0 x0)) = true then ((InR IntKind.i64 (v9 + x1)) ∧ ((InR IntKind.i64 (v9 + x1 - 1)) ∧ ((0 ≤ v9) ∧ (v9 ≤ if g20_0 x0 < v9 + x1 - 1 then g20_0 x0 else v9 + x1 - 1) ∧ ((if g20_0 x0 < v9 + x1 - 1 then g20_0 x0 else v9 + x1 - 1) ≤ (↑(List.length x0) : Int)) ∧ ((P21 [[x2], List.drop (Int.toNat v9) (List.take (Int.toNat (if g20_0 x0 < v9 + x1 - 1 then g20_0 x0 else v9 + x1 - 1)) x0)]) ∧ (((List.length h0 + 1) * 24 ≤ 140737488355328) ∧ ((InR IntKind.i64 (x1 - 1)) ∧ ((InR IntKind.i64 (v9 + (x1 - 1))) ∧ (R6_7 n (v9 + (x1 - 1)) (h0 ++ [g21_0 [[x2], List.drop (Int.toNat v9) (List.take (Int.toNat (if g20_0 x0 < v9 + x1 - 1 then g20_0 x0 else v9 + x1 - 1)) x0)]]) (x0) (x1) (x2) ds)))))))) else (ds = [Dyn.mk (Ty.sl (Ty.sl Ty.str)) h0, Dyn.mk (Ty.int IntKind.i64) 0]))
end
theorem snd6 : ∀ n, (∀ (x0 : List ByteArray) (x1 : Int) (x2 : ByteArray) ds, R6 n x0 x1 x2 ds → ∀ K q, AtV Try.prog 6 (PostR kds6 oks6 ds [] [] q K) 49 K q [] [.code b6] (entE 0 0 sig6 (x0, x1, x2, ())) (entL sig6 (x0, x1, x2, ()))) ∧ (∀ (v9 : Int) (h0 : List (List ByteArray)) (x0 : List ByteArray) (x1 : Int) (x2 : ByteArray) ds, R6_7 n v9 h0 x0 x1 x2 ds → ∀ K q, AtV Try.prog 6 (PostR kds6 oks6 ds [] [] q K) 49 K q [] (cutAt b6 7) (E6_7 v9 h0 x0 x1 x2) (L6_7 v9 h0 x0 x1 x2)) := by
  intro n
  induction n with
  | zero => exact ⟨fun _ _ _ _ h => by simp only [R6] at h, fun _ _ _ _ _ _ h => by simp only [R6_7] at h⟩
  | succ n ih =>
  obtain ⟨ih, ih7⟩ := ih
  refine ⟨?_, ?_⟩
  · intro x0 x1 x2 ds h K q
    rw [R6] at h
    by_cases b0 : (!g17_0 x0) = true
    · rw [if_pos b0] at h
      subst h
      exact AtV.ret Try.func6 tabOk ext6Ok mixed false [] tys6 [true] (a1 trivial (a1 b0 trivial)) (by kernel_rfl)
    · rw [if_neg b0] at h
      replace b0 := Bool.eq_false_iff.2 b0
      by_cases b1 : (!g18_0 x1 2 200) = true
      · rw [if_pos b1] at h
        subst h
        exact AtV.ret Try.func6 tabOk ext6Ok mixed false [] tys6 [false, true, true] (a1 trivial (a1 b0 (a1 trivial (a1 b1 (a1 (rfl : Bool.true = Bool.true) trivial))))) (by kernel_rfl)
      · rw [if_neg b1] at h
        replace b1 := Bool.eq_false_iff.2 b1
        by_cases b2 : (!g19_0 x2) = true
        · rw [if_pos b2] at h
          subst h
          exact AtV.ret Try.func6 tabOk ext6Ok mixed false [] tys6 [false, false, true] (a1 trivial (a1 b0 (a1 trivial (a1 b1 (a1 trivial (a1 b2 trivial)))))) (by kernel_rfl)
        · rw [if_neg b2] at h
          replace b2 := Bool.eq_false_iff.2 b2
          exact AtV.go tabOk ext6Ok mixed false [] [(8, Ty.sl Ty.str)] [0, 1, 2, 8, 9] [0] [false, false, false] (a1 trivial (a1 b0 (a1 trivial (a1 b1 (a1 trivial (a1 b2 trivial)))))) (ih7 _ _ _ _ _ _ h K q) (by kernel_rfl)

  · intro v9 h0 x0 x1 x2 ds h K q
    rw [R6_7] at h
    by_cases b0 : (Decidable.decide (v9 < g20_0 x0)) = true
    · rw [if_pos b0] at h
      obtain ⟨s0, h⟩ := h
      obtain ⟨s1, h⟩ := h
      obtain ⟨s2, s3, s4, h⟩ := h
      obtain ⟨s5, h⟩ := h
      obtain ⟨s6, h⟩ := h
      obtain ⟨s7, h⟩ := h
      obtain ⟨s8, h⟩ := h
      exact AtV.go tabOk ext6Ok mixed false [] [(8, Ty.sl Ty.str)] [0, 1, 2, 8, 9] [0] [true] (a1 trivial (a1 b0 (a1 s0 (a1 s1 (a1 trivial (a1 s2 (a1 s3 (a1 s4 (a1 s5 (a1 s6 (a1 s7 (a1 s8 trivial)))))))))))) (ih7 _ _ _ _ _ _ h K q) (by kernel_rfl)
    · rw [if_neg b0] at h
      replace b0 := Bool.eq_false_iff.2 b0
      subst h
      exact AtV.ret Try.func6 tabOk ext6Ok mixed false [] tys6 [false] (a1 trivial (a1 b0 trivial)) (by kernel_rfl)



def pgs6 (x0 : List ByteArray) (s : Nat) (x2 : ByteArray) : Nat → Nat → List (List ByteArray)
  | 0, _ => []
  | k + 1, f => if f < x0.length then (x2 :: (x0.drop f).take s) :: pgs6 x0 s x2 k (f + s) else []
def g6_0 (x0 : List ByteArray) (x1 : Int) (x2 : ByteArray) : List (List ByteArray) := if g17_0 x0 = true then (if g18_0 x1 2 200 = true then (if g19_0 x2 = true then pgs6 x0 (x1 - 1).toNat x2 (x0.length + 1) 0 else []) else []) else []
def g6_1 (x0 : List ByteArray) (x1 : Int) (x2 : ByteArray) : Int := if g17_0 x0 = true then (if g18_0 x1 2 200 = true then (if g19_0 x2 = true then 0 else 2) else 2) else 1
def P6 (x0 : List ByteArray) (x1 : Int) (x2 : ByteArray) : Prop := x0.length ≤ 1000

theorem run6 (x0 : List ByteArray) (x1 : Int) (x2 : ByteArray) (s : Nat) (hs : x1 = (s : Int) + 1) (h1 : 1 ≤ s) (h2 : s ≤ 199) (hl : x0.length ≤ 1000) : ∀ (k f : Nat) (h : List (List ByteArray)), x0.length ≤ f + k → f ≤ 2000 → h.length ≤ f →
    R6_7 (k + 1) (f : Int) h x0 x1 x2 [⟨.sl (.sl .str), h ++ pgs6 x0 s x2 (k + 1) f⟩, ⟨.int .i64, (0 : Int)⟩] := by
  have ez : g20_0 x0 = (x0.length : Int) := rfl
  intro k
  induction k with
  | zero =>
    intro f h hf hf2 hh
    rw [R6_7, ez, if_neg (by simp only [decide_eq_true_eq]; omega)]
    unfold pgs6
    rw [if_neg (by omega), List.append_nil]
  | succ k ih =>
    intro f h hf hf2 hh
    by_cases hlt : f < x0.length
    · obtain ⟨u, hu⟩ : ∃ u : Int, (if g20_0 x0 < (f : Int) + x1 - 1 then g20_0 x0 else (f : Int) + x1 - 1) = u := ⟨_, rfl⟩
      have hub : (f : Int) < u ∧ u ≤ (x0.length : Int) ∧ (u = (x0.length : Int) ∧ x0.length ≤ f + s ∨ u = (f : Int) + s) := by
        rw [ez] at hu
        split at hu <;> omega
      obtain ⟨U, rfl⟩ := Int.eq_ofNat_of_zero_le (show 0 ≤ u by omega)
      have hY : List.drop f (List.take U x0) = (x0.drop f).take s := by
        rw [List.drop_take]
        rcases hub.2.2 with ⟨e1, e2⟩ | e1
        · have : U = x0.length := by omega
          subst this
          rw [List.take_of_length_le (by rw [List.length_drop]; omega), List.take_of_length_le (by rw [List.length_drop]; omega)]
        · have : U - f = s := by omega
          rw [this]
      have hYn : (x0.drop f).take s ≠ [] := fun e => by
        have := congrArg List.length e
        rw [List.length_take, List.length_drop] at this
        simp only [List.length_nil] at this
        omega
      have hYl : ((x0.drop f).take s).length ≤ 1000 := by rw [List.length_take, List.length_drop]; omega
      have eg : g21_0 [[x2], (x0.drop f).take s] = x2 :: (x0.drop f).take s := by
        show List.flatten _ = _
        simp
      have ep : P21 [[x2], (x0.drop f).take s] := by
        refine ⟨?_, by simp, by simp, fun r hr => ?_⟩
        · simp only [List.flatten_cons, List.flatten_nil, List.append_nil, List.length_append, List.length_singleton]; omega
        · simp only [List.mem_cons, List.mem_nil_iff, or_false] at hr
          rcases hr with rfl | rfl
          · simp
          · exact hYn
      have nx := ih (f + s) (h ++ [x2 :: (x0.drop f).take s]) (by omega) (by omega) (by rw [List.length_append, List.length_singleton]; omega)
      have e3 : (f : Int) + (x1 - 1) = ((f + s : Nat) : Int) := by omega
      have eu : pgs6 x0 s x2 (k + 1 + 1) f = (x2 :: (x0.drop f).take s) :: pgs6 x0 s x2 (k + 1) (f + s) := by
        conv => lhs; unfold pgs6
        rw [if_pos hlt]
      rw [R6_7, hu, if_pos (by rw [ez]; simp only [decide_eq_true_eq]; omega), eu]
      simp only [Int.toNat_natCast]
      rw [hY, eg, e3]
      refine ⟨by rw [i64_iff]; omega, by rw [i64_iff]; omega, by omega, by omega, by omega, ep, by omega, by rw [i64_iff]; omega, by rw [i64_iff]; omega, ?_⟩
      rw [List.append_assoc, List.singleton_append] at nx
      exact nx
    · rw [R6_7, ez, if_neg (by simp only [decide_eq_true_eq]; omega)]
      unfold pgs6
      rw [if_neg hlt, List.append_nil]

theorem top6 (x0 : List ByteArray) (x1 : Int) (x2 : ByteArray) (hp : P6 x0 x1 x2) : ∃ n, R6 n x0 x1 x2 [⟨.sl (.sl .str), g6_0 x0 x1 x2⟩, ⟨.int .i64, g6_1 x0 x1 x2⟩] := by
  have hl : x0.length ≤ 1000 := hp
  unfold g6_0 g6_1
  cases hv : g17_0 x0 with
  | false =>
    refine ⟨0 + 1, ?_⟩
    rw [R6, hv, if_pos (by rfl)]
    rfl
  | true =>
    cases hw : g18_0 x1 2 200 with
    | false =>
      refine ⟨0 + 1, ?_⟩
      rw [R6, hv, if_neg (by decide), hw, if_pos (by rfl)]
      rfl
    | true =>
      cases hr : g19_0 x2 with
      | false =>
        refine ⟨0 + 1, ?_⟩
        rw [R6, hv, if_neg (by decide), hw, if_neg (by decide), hr, if_pos (by rfl)]
        rfl
      | true =>
        have hb : 2 ≤ x1 ∧ x1 ≤ 200 := by
          unfold g18_0 at hw
          split at hw
          · rename_i h1; exact ⟨of_decide_eq_true h1, of_decide_eq_true hw⟩
          · cases hw
        obtain ⟨s, hs⟩ := Int.eq_ofNat_of_zero_le (show 0 ≤ x1 - 1 by omega)
        have key := run6 x0 x1 x2 s (by omega) (by omega) (by omega) hl x0.length 0 [] (by omega) (by omega) (by simp)
        refine ⟨x0.length + 1 + 1, ?_⟩
        rw [R6, hv, if_neg (by decide), hw, if_neg (by decide), hr, if_neg (by decide), hs, Int.toNat_natCast]
        exact key

def S6 : Am.Spec := { sig := sig6, pre := fun ⟨x0, x1, x2, _⟩ => P6 x0 x1 x2, res := fun ⟨x0, x1, x2, _⟩ => [⟨.sl (.sl .str), g6_0 x0 x1 x2⟩, ⟨.int .i64, g6_1 x0 x1 x2⟩], kds := kds6 }
theorem con6 : Contract Try.prog 6 S6 := contract_of Try.func6 hb6 (Nat.le_of_ble_eq_true (by kernel_rfl)) (fun ⟨x0, x1, x2, _⟩ h hwf K q =>
  let ⟨n, hn⟩ := top6 x0 x1 x2 h
  (snd6 n).1 x0 x1 x2 _ hn K q)

end
end Go.Proofs.Ytldkifoapiianaa

/- Function 7 (spec.DrawFindLines): its runs between cut points. Written by a program of this repo (gen). -/
set_option linter.unusedVariables false
set_option linter.unusedSimpArgs false
set_option maxRecDepth 100000
namespace Go.Proofs.Ytldkifoapiianaa
open Go Go.Am Go.Proofs
noncomputable section
def ext7 : Ext := [(13, S13), (14, S14), (16, S16)]
theorem call7_13 : Callable Try.prog 13 := ⟨Try.f13, Try.func13, by kernel_rfl, by kernel_rfl⟩
theorem call7_14 : Callable Try.prog 14 := ⟨Try.f14, Try.func14, by kernel_rfl, by kernel_rfl⟩
theorem call7_16 : Callable Try.prog 16 := ⟨Try.f16, Try.func16, by kernel_rfl, by kernel_rfl⟩
theorem ext7Ok : ExtOk Try.prog ext7 := ⟨⟨call7_13, con13⟩, ⟨call7_14, con14⟩, ⟨call7_16, con16⟩, trivial⟩

noncomputable def b7 : Code := bodyOf Try.f7
theorem hb7 : Try.f7.body = some b7 := by kernel_rfl
def sig7 : List AT := [AT.v (Ty.sl (Ty.int IntKind.u8))]
def tys7 : List Ty := [Ty.sl Ty.str, Ty.str]
def kds7 : List RK := []
def oks7 : List AT := owns sig7
def P7 (x0 : List Int) : Prop := ((P14 (g13_0 x0)) ∧ ((P16 (u14_0 (g13_0 x0)) [ByteArray.mk #[97], ByteArray.mk #[99], ByteArray.mk #[49, 50], ByteArray.mk #[99, 99], ByteArray.mk #[], ByteArray.mk #[32], ByteArray.mk #[114, 111, 112, 101], ByteArray.mk #[113]]) ∧ True))
def g7_0 (x0 : List Int) : List ByteArray := g14_0 (g13_0 x0)
def g7_1 (x0 : List Int) : ByteArray := g16_0 (u14_0 (g13_0 x0)) [ByteArray.mk #[97], ByteArray.mk #[99], ByteArray.mk #[49, 50], ByteArray.mk #[99, 99], ByteArray.mk #[], ByteArray.mk #[32], ByteArray.mk #[114, 111, 112, 101], ByteArray.mk #[113]]
theorem at7 (x0 : List Int) (h : P7 x0) (K : Ctx) (q : Nat → Value) : AtV Try.prog 7 (PostR kds7 oks7 [⟨Ty.sl Ty.str, g7_0 x0⟩, ⟨Ty.str, g7_1 x0⟩] [] [] q K) 14 K q [] [.code b7] (entE 0 0 sig7 (x0, ())) (entL sig7 (x0, ())) := by
  unfold P7 at h
  unfold g7_0 g7_1
  obtain ⟨s0, h⟩ := h
  obtain ⟨s1, h⟩ := h
  exact AtV.ret Try.func7 tabOk ext7Ok mixed false [] tys7 [] (a1 trivial (a1 s0 (a1 s1 trivial))) (by kernel_rfl)

def S7 : Am.Spec := { sig := sig7, pre := fun ⟨x0, _⟩ => P7 x0, res := fun ⟨x0, _⟩ => [⟨Ty.sl Ty.str, g7_0 x0⟩, ⟨Ty.str, g7_1 x0⟩], kds := kds7 }
theorem con7 : Contract Try.prog 7 S7 := contract_of Try.func7 hb7 (Nat.le_of_ble_eq_true (by kernel_rfl)) (fun ⟨x0, _⟩ h _ K q => at7 x0 h K q)


end
end Go.Proofs.Ytldkifoapiianaa

/- The contracts of the library that this program uses, laid at this program. Written by a tool of the kit. -/
set_option linter.unusedVariables false
set_option maxRecDepth 100000
namespace Go.Proofs
open Go.Shelf
def Try.lays169_ren : Go.Shelf.Ren := ⟨fun | 169 => 42 | n => n, fun | 70 => 71 | 9 => 9 | 0 => 0 | 72 => 73 | 37 => 22 | 127 => 88 | 3 => 3 | 5 => 5 | n => n, fun | n => n⟩
theorem Try.lays169 : Go.Proofs.Lays.n169 Try.prog Try.lays169_ren := {
  mixed := by kernel_rfl
  f169 := Try.func42.trans (congrArg some (by kernel_rfl))
  t0 := Try.underlying0
  a0 := Try.isAgg0
  z0 := Try.sizeOf0
  v0 := Try.zeroValue0
  t3 := Try.underlying3
  a3 := Try.isAgg3
  z3 := Try.sizeOf3
  v3 := Try.zeroValue3
  t9 := Try.underlying9
  a9 := Try.isAgg9
  z9 := Try.sizeOf9
  v9 := Try.zeroValue9
  t37 := Try.underlying22
  a37 := Try.isAgg22
  z37 := Try.sizeOf22
  v37 := Try.zeroValue22
  t70 := Try.underlying71
  a70 := Try.isAgg71
  z70 := Try.sizeOf71
  v70 := Try.zeroValue71
  t72 := Try.underlying73
  a72 := Try.isAgg73
  z72 := Try.sizeOf73
  v72 := Try.zeroValue73
  t127 := Try.underlying88
  a127 := Try.isAgg88
  z127 := Try.sizeOf88
  v127 := Try.zeroValue88 }
theorem Try.Builder_Extra_169 : Builder.Extra Try.prog Try.lays169_ren := {
  sizeBuilder := by kernel_rfl
  liesBuilder := by kernel_rfl
  t5 := Try.underlying5
  a5 := Try.isAgg5
  z5 := Try.sizeOf5
  v5 := Try.zeroValue5
  infoByte := by kernel_rfl
  cellsByte := by kernel_rfl
  sizeByte := by kernel_rfl
  neB5 := by decide }
open Go.RowKit in theorem Try.Builder_String_any_k (B b : Nat) (l : List UInt8) (w : World) (h : Lib.IsBuilderF 73 5 B b (Lib.byteCells l) w) (hBw : B ≤ w.heap.size) :
    Calls Try.prog 42 #[.pointer (some ⟨b, 0, none⟩)] w fun e w' => e = .returned (.string ⟨l.toArray⟩) ∧ (Lib.IsBuilderF 73 5 B b (Lib.byteCells l) w' ∧ Below B w w' ∧ Lib.OthersKept 5 (some b) w w') := Any.Builder_String_any_k Try.lays169 Try.Builder_Extra_169 B b l w h hBw
def Try.lays144_ren : Go.Shelf.Ren := ⟨fun | 144 => 22 | 143 => 34 | 219 => 45 | 217 => 51 | 225 => 52 | 224 => 53 | 267 => 54 | 266 => 57 | 314 => 58 | n => n, fun | 9 => 9 | 4 => 4 | 3 => 3 | 5 => 5 | 46 => 68 | 146 => 84 | 51 => 83 | n => n, fun | 1 => 0 | n => n⟩
theorem Try.lays144 : Go.Proofs.Lays.n144 Try.prog Try.lays144_ren := {
  mixed := by kernel_rfl
  f143 := Try.func34.trans (congrArg some (by kernel_rfl))
  f144 := Try.func22.trans (congrArg some (by kernel_rfl))
  f217 := Try.func51.trans (congrArg some (by kernel_rfl))
  f219 := Try.func45.trans (congrArg some (by kernel_rfl))
  f224 := Try.func53.trans (congrArg some (by kernel_rfl))
  f225 := Try.func52.trans (congrArg some (by kernel_rfl))
  f266 := Try.func57.trans (congrArg some (by kernel_rfl))
  f267 := Try.func54.trans (congrArg some (by kernel_rfl))
  f314 := Try.func58.trans (congrArg some (by kernel_rfl))
  t3 := Try.underlying3
  a3 := Try.isAgg3
  z3 := Try.sizeOf3
  v3 := Try.zeroValue3
  t4 := Try.underlying4
  a4 := Try.isAgg4
  z4 := Try.sizeOf4
  v4 := Try.zeroValue4
  t5 := Try.underlying5
  a5 := Try.isAgg5
  z5 := Try.sizeOf5
  v5 := Try.zeroValue5
  t9 := Try.underlying9
  a9 := Try.isAgg9
  z9 := Try.sizeOf9
  v9 := Try.zeroValue9
  t46 := Try.underlying68
  a46 := Try.isAgg68
  z46 := Try.sizeOf68
  v46 := Try.zeroValue68
  t51 := Try.underlying83
  a51 := Try.isAgg83
  z51 := Try.sizeOf83
  v51 := Try.zeroValue83
  t146 := Try.underlying84
  a146 := Try.isAgg84
  z146 := Try.sizeOf84
  v146 := Try.zeroValue84
  g1 := by kernel_rfl }
open Go.RowKit Go.Lib in theorem Try.strings_Contains (s sub : ByteArray) (m : Int) (w : World) (hs : s.size < 4294967281) (hm : w.cell? ⟨0, 0, none⟩ = some (.int .i64 m)) :
    Calls Try.prog 22 #[.string s, .string sub] w fun e w' => e = .returned (.bool (Lib.contains s.data.toList sub.data.toList)) ∧ w' = w := Any.strings_Contains Try.lays144 s sub m w hs hm
def Try.lays99_ren : Go.Shelf.Ren := ⟨fun | 99 => 38 | 206 => 48 | n => n, fun | 9 => 9 | 4 => 4 | 3 => 3 | n => n, fun | n => n⟩
theorem Try.lays99 : Go.Proofs.Lays.n99 Try.prog Try.lays99_ren := {
  mixed := by kernel_rfl
  f99 := Try.func38.trans (congrArg some (by kernel_rfl))
  f206 := Try.func48.trans (congrArg some (by kernel_rfl))
  t3 := Try.underlying3
  a3 := Try.isAgg3
  z3 := Try.sizeOf3
  v3 := Try.zeroValue3
  t4 := Try.underlying4
  a4 := Try.isAgg4
  z4 := Try.sizeOf4
  v4 := Try.zeroValue4
  t9 := Try.underlying9
  a9 := Try.isAgg9
  z9 := Try.sizeOf9
  v9 := Try.zeroValue9 }
open Go.RowKit Go.Lib in theorem Try.strings_HasPrefix (s p : ByteArray) (w : World) :
    Calls Try.prog 38 #[.string s, .string p] w fun e w' => e = .returned (.bool (Lib.hasPrefix s.data.toList p.data.toList)) ∧ w' = w := Any.strings_HasPrefix Try.lays99 s p w
def Try.lays105_ren : Go.Shelf.Ren := ⟨fun | 105 => 26 | 212 => 37 | 99 => 38 | 165 => 39 | 166 => 40 | 170 => 41 | 169 => 42 | 263 => 46 | 264 => 47 | 206 => 48 | 240 => 49 | 241 => 50 | 276 => 55 | 277 => 56 | n => n, fun | 9 => 9 | 3 => 3 | 4 => 4 | 20 => 20 | 0 => 0 | 46 => 68 | 109 => 69 | 5 => 5 | 72 => 73 | 76 => 77 | 51 => 83 | 146 => 84 | 53 => 57 | 148 => 86 | 70 => 71 | 37 => 22 | 75 => 76 | 127 => 88 | 164 => 91 | 80 => 80 | n => n, fun | n => n⟩
theorem Try.lays105 : Go.Proofs.Lays.n105 Try.prog Try.lays105_ren := {
  mixed := by kernel_rfl
  f99 := Try.func38.trans (congrArg some (by kernel_rfl))
  f105 := Try.func26.trans (congrArg some (by kernel_rfl))
  f165 := Try.func39.trans (congrArg some (by kernel_rfl))
  f166 := Try.func40.trans (congrArg some (by kernel_rfl))
  f169 := Try.func42.trans (congrArg some (by kernel_rfl))
  f170 := Try.func41.trans (congrArg some (by kernel_rfl))
  f206 := Try.func48.trans (congrArg some (by kernel_rfl))
  f212 := Try.func37.trans (congrArg some (by kernel_rfl))
  f240 := Try.func49.trans (congrArg some (by kernel_rfl))
  f241 := Try.func50.trans (congrArg some (by kernel_rfl))
  f263 := Try.func46.trans (congrArg some (by kernel_rfl))
  f264 := Try.func47.trans (congrArg some (by kernel_rfl))
  f276 := Try.func55.trans (congrArg some (by kernel_rfl))
  f277 := Try.func56.trans (congrArg some (by kernel_rfl))
  t0 := Try.underlying0
  a0 := Try.isAgg0
  z0 := Try.sizeOf0
  v0 := Try.zeroValue0
  t3 := Try.underlying3
  a3 := Try.isAgg3
  z3 := Try.sizeOf3
  v3 := Try.zeroValue3
  t4 := Try.underlying4
  a4 := Try.isAgg4
  z4 := Try.sizeOf4
  v4 := Try.zeroValue4
  t5 := Try.underlying5
  a5 := Try.isAgg5
  z5 := Try.sizeOf5
  v5 := Try.zeroValue5
  t9 := Try.underlying9
  a9 := Try.isAgg9
  z9 := Try.sizeOf9
  v9 := Try.zeroValue9
  t20 := Try.underlying20
  a20 := Try.isAgg20
  z20 := Try.sizeOf20
  v20 := Try.zeroValue20
  t37 := Try.underlying22
  a37 := Try.isAgg22
  z37 := Try.sizeOf22
  v37 := Try.zeroValue22
  t46 := Try.underlying68
  a46 := Try.isAgg68
  z46 := Try.sizeOf68
  v46 := Try.zeroValue68
  t51 := Try.underlying83
  a51 := Try.isAgg83
  z51 := Try.sizeOf83
  v51 := Try.zeroValue83
  t53 := Try.underlying57
  a53 := Try.isAgg57
  z53 := Try.sizeOf57
  v53 := Try.zeroValue57
  t70 := Try.underlying71
  a70 := Try.isAgg71
  z70 := Try.sizeOf71
  v70 := Try.zeroValue71
  t72 := Try.underlying73
  a72 := Try.isAgg73
  z72 := Try.sizeOf73
  v72 := Try.zeroValue73
  t75 := Try.underlying76
  a75 := Try.isAgg76
  z75 := Try.sizeOf76
  v75 := Try.zeroValue76
  t76 := Try.underlying77
  a76 := Try.isAgg77
  z76 := Try.sizeOf77
  v76 := Try.zeroValue77
  t109 := Try.underlying69
  a109 := Try.isAgg69
  z109 := Try.sizeOf69
  v109 := Try.zeroValue69
  t127 := Try.underlying88
  a127 := Try.isAgg88
  z127 := Try.sizeOf88
  v127 := Try.zeroValue88
  t146 := Try.underlying84
  a146 := Try.isAgg84
  z146 := Try.sizeOf84
  v146 := Try.zeroValue84
  t148 := Try.underlying86
  a148 := Try.isAgg86
  z148 := Try.sizeOf86
  v148 := Try.zeroValue86
  t164 := Try.underlying91
  a164 := Try.isAgg91
  z164 := Try.sizeOf91
  v164 := Try.zeroValue91 }
theorem Try.Builder_Extra_105 : Builder.Extra Try.prog Try.lays105_ren := {
  sizeBuilder := by kernel_rfl
  liesBuilder := by kernel_rfl
  t5 := Try.underlying5
  a5 := Try.isAgg5
  z5 := Try.sizeOf5
  v5 := Try.zeroValue5
  infoByte := by kernel_rfl
  cellsByte := by kernel_rfl
  sizeByte := by kernel_rfl
  neB5 := by decide }
open Go.RowKit Go.Lib in theorem Try.strings_Repeat (s : ByteArray) (c : Nat) (w : World) (hc : c ≤ 9223372036854775807) (hlen : s.size * c ≤ 140737488355328) :
    Calls Try.prog 26 #[.string s, .int .i64 c] w fun e w' => e = .returned (.string ⟨(Lib.repeatL s.data.toList c).toArray⟩) ∧ Below w.heap.size w w' := Any.strings_Repeat Try.lays105 Try.Builder_Extra_105 s c w hc hlen
end Go.Proofs

/- Function 22 (strings.Contains): its contract, off what is known of the library. -/
set_option linter.unusedVariables false
set_option linter.unusedSimpArgs false
set_option maxRecDepth 100000
namespace Go.Proofs.Ytldkifoapiianaa
open Go Go.Am Go.Proofs

def sig22 : List AT := [AT.v Ty.str, AT.v Ty.str]
def g22_0 (x0 x1 : ByteArray) : Bool := Lib.contains x0.data.toList x1.data.toList
def P22 (x0 x1 : ByteArray) : Prop := x0.size < 4294967281
def S22 : Am.Spec := { sig := sig22, pre := fun ⟨x0, x1, _⟩ => P22 x0 x1, res := fun ⟨x0, x1, _⟩ => [⟨Ty.bool, g22_0 x0 x1⟩] }
theorem con22 : Contract Try.prog 22 S22 := contract_flat rfl fun w ⟨x0, x1, _⟩ vs bss hg hp hw ha => by
  obtain ⟨v0, s0, _, _, rfl, _, ⟨_, rfl, _⟩, v1, s1, _, _, rfl, _, ⟨_, rfl, _⟩, rfl, _⟩ := ha
  refine ⟨fun d hd => by rw [List.mem_singleton.1 hd]; exact ⟨rfl, trivial⟩, ?_⟩
  obtain ⟨m, hm⟩ := maxLenG hg
  refine (Try.strings_Contains x0 x1 m w hp hm).mono ?_
  rintro e w' ⟨rfl, rfl⟩
  exact ⟨rfl, Kept.refl _ _⟩

end Go.Proofs.Ytldkifoapiianaa

/- Function 8 (impl.FindLines): its runs between cut points. Written by a program of this repo (gen). -/
set_option linter.unusedVariables false
set_option linter.unusedSimpArgs false
set_option maxRecDepth 100000
namespace Go.Proofs.Ytldkifoapiianaa
open Go Go.Am Go.Proofs
noncomputable section
def ext8 : Ext := [(17, S17), (22, S22)]
theorem call8_17 : Callable Try.prog 17 := ⟨Try.f17, Try.func17, by kernel_rfl, by kernel_rfl⟩
theorem call8_22 : Callable Try.prog 22 := ⟨Try.f22, Try.func22, by kernel_rfl, by kernel_rfl⟩
theorem ext8Ok : ExtOk Try.prog ext8 := ⟨⟨call8_17, con17⟩, ⟨call8_22, con22⟩, trivial⟩

noncomputable def b8 : Code := bodyOf Try.f8
theorem hb8 : Try.f8.body = some b8 := by kernel_rfl
def sig8 : List AT := [AT.v (Ty.sl Ty.str), AT.v (Ty.str)]
def tys8 : List Ty := [Ty.sl (Ty.int IntKind.i64), Ty.int IntKind.i64]
def kds8 : List RK := []
def oks8 : List AT := owns sig8
def E8_7 (v16 : Int) (h0 : List Int) (x1 : ByteArray) (x0 : List ByteArray) : Env := [(1, PV.a (Atom.val (Value.string x1))), (6, PV.a (Atom.osl 0 Option.none)), (14, PV.a (Atom.sl Ty.str x0)), (15, PV.a (Atom.val (Value.int IntKind.i64 (↑(List.length x0) : Int)))), (16, PV.a (Atom.val (Value.int IntKind.i64 v16)))]
def L8_7 (v16 : Int) (h0 : List Int) (x1 : ByteArray) (x0 : List ByteArray) : Heap := [Option.some (Arr.mk (Ty.int IntKind.i64) h0 Bool.false Option.none Option.none)]
mutual
def R8 : Nat → List ByteArray → ByteArray → List Dyn → Prop
  | 0, _, _, _ => False
  | n + 1, x0, x1, ds => (if (!g17_0 x0) = true then (ds = [Dyn.mk (Ty.sl (Ty.int IntKind.i64)) [], Dyn.mk (Ty.int IntKind.i64) 1]) else (if (ByteArray.toList x1 == ByteArray.toList (ByteArray.mk #[])) = true then (ds = [Dyn.mk (Ty.sl (Ty.int IntKind.i64)) [], Dyn.mk (Ty.int IntKind.i64) 2]) else (R8_7 n (0) ([]) (x1) (x0) ds)))
def R8_7 : Nat → Int → List Int → ByteArray → List ByteArray → List Dyn → Prop
  | 0, _, _, _, _, _ => False
  | n + 1, v16, h0, x1, x0, ds => (if (Decidable.decide (v16 < (↑(List.length x0) : Int))) = true then ((0 ≤ v16) ∧ (v16 < (↑(List.length x0) : Int)) ∧ ((P22 (List.getD x0 (Int.toNat v16) ByteArray.empty) x1) ∧ (if (g22_0 (List.getD x0 (Int.toNat v16) ByteArray.empty) x1) = true then (((List.length h0 + 1) * 8 ≤ 140737488355328) ∧ ((InR IntKind.i64 (v16 + 1)) ∧ (R8_7 n (v16 + 1) (h0 ++ [v16]) (x1) (x0) ds))) else ((InR IntKind.i64 (v16 + 1)) ∧ (R8_7 n (v16 + 1) (h0) (x1) (x0) ds))))) else (ds = [Dyn.mk (Ty.sl (Ty.int IntKind.i64)) h0, Dyn.mk (Ty.int IntKind.i64) 0]))
end
theorem snd8 : ∀ n, (∀ (x0 : List ByteArray) (x1 : ByteArray) ds, R8 n x0 x1 ds → ∀ K q, AtV Try.prog 8 (PostR kds8 oks8 ds [] [] q K) 30 K q [] [.code b8] (entE 0 0 sig8 (x0, x1, ())) (entL sig8 (x0, x1, ()))) ∧ (∀ (v16 : Int) (h0 : List Int) (x1 : ByteArray) (x0 : List ByteArray) ds, R8_7 n v16 h0 x1 x0 ds → ∀ K q, AtV Try.prog 8 (PostR kds8 oks8 ds [] [] q K) 30 K q [] (cutAt b8 7) (E8_7 v16 h0 x1 x0) (L8_7 v16 h0 x1 x0)) := by
  intro n
  induction n with
  | zero => exact ⟨fun _ _ _ h => by simp only [R8] at h, fun _ _ _ _ _ h => by simp only [R8_7] at h⟩
  | succ n ih =>
  obtain ⟨ih, ih7⟩ := ih
  refine ⟨?_, ?_⟩
  · intro x0 x1 ds h K q
    rw [R8] at h
    by_cases b0 : (!g17_0 x0) = true
    · rw [if_pos b0] at h
      subst h
      exact AtV.ret Try.func8 tabOk ext8Ok mixed false [] tys8 [true] (a1 trivial (a1 b0 trivial)) (by kernel_rfl)
    · rw [if_neg b0] at h
      replace b0 := Bool.eq_false_iff.2 b0
      by_cases b1 : (ByteArray.toList x1 == ByteArray.toList (ByteArray.mk #[])) = true
      · rw [if_pos b1] at h
        subst h
        exact AtV.ret Try.func8 tabOk ext8Ok mixed false [] tys8 [false, true] (a1 trivial (a1 b0 (a1 b1 trivial))) (by kernel_rfl)
      · rw [if_neg b1] at h
        replace b1 := Bool.eq_false_iff.2 b1
        exact AtV.go tabOk ext8Ok mixed false [] [(6, Ty.int IntKind.i64)] [1, 6, 14, 15, 16] [0] [false, false] (a1 trivial (a1 b0 (a1 b1 trivial))) (ih7 _ _ _ _ _ h K q) (by kernel_rfl)

  · intro v16 h0 x1 x0 ds h K q
    rw [R8_7] at h
    by_cases b0 : (Decidable.decide (v16 < (↑(List.length x0) : Int))) = true
    · rw [if_pos b0] at h
      obtain ⟨s0, s1, h⟩ := h
      obtain ⟨s2, h⟩ := h
      by_cases b1 : (g22_0 (List.getD x0 (Int.toNat v16) ByteArray.empty) x1) = true
      · rw [if_pos b1] at h
        obtain ⟨s3, h⟩ := h
        obtain ⟨s4, h⟩ := h
        exact AtV.go tabOk ext8Ok mixed false [] [(6, Ty.int IntKind.i64)] [1, 6, 14, 15, 16] [0] [true, true] (a1 b0 (a1 s0 (a1 s1 (a1 s2 (a1 b1 (a1 s3 (a1 s4 trivial))))))) (ih7 _ _ _ _ _ h K q) (by kernel_rfl)
      · rw [if_neg b1] at h
        replace b1 := Bool.eq_false_iff.2 b1
        obtain ⟨s3, h⟩ := h
        exact AtV.go tabOk ext8Ok mixed false [] [(6, Ty.int IntKind.i64)] [1, 6, 14, 15, 16] [0] [true, false] (a1 b0 (a1 s0 (a1 s1 (a1 s2 (a1 b1 (a1 s3 trivial)))))) (ih7 _ _ _ _ _ h K q) (by kernel_rfl)
    · rw [if_neg b0] at h
      replace b0 := Bool.eq_false_iff.2 b0
      subst h
      exact AtV.ret Try.func8 tabOk ext8Ok mixed false [] tys8 [false] (a1 b0 trivial) (by kernel_rfl)



def g8_0 (x0 : List ByteArray) (x1 : ByteArray) : List Int := if g17_0 x0 = true then (if (ByteArray.toList x1 == ByteArray.toList (ByteArray.mk #[])) = true then [] else found (fun s => g22_0 s x1) x0) else []
def g8_1 (x0 : List ByteArray) (x1 : ByteArray) : Int := if g17_0 x0 = true then (if (ByteArray.toList x1 == ByteArray.toList (ByteArray.mk #[])) = true then 2 else 0) else 1
def P8 (x0 : List ByteArray) (x1 : ByteArray) : Prop := x0.length ≤ 1048576 ∧ ∀ s ∈ x0, s.size ≤ 1048576

theorem top8 (x0 : List ByteArray) (x1 : ByteArray) (hp : P8 x0 x1) : R8 (x0.length + 1 + 1) x0 x1 [⟨.sl (.int .i64), g8_0 x0 x1⟩, ⟨.int .i64, g8_1 x0 x1⟩] := by
  rw [R8]
  unfold g8_0 g8_1
  by_cases hok : g17_0 x0 = true
  case neg =>
    have hok := Bool.eq_false_iff.2 hok
    rw [if_pos (by rw [hok]; rfl)]
    simp [hok]
  case pos =>
    rw [if_neg (by rw [hok]; simp)]
    simp only [if_pos hok]
    obtain ⟨hl, hline⟩ := hp
    have hm : x0.length ≤ maxLen := by unfold maxLen; omega
    by_cases h1 : (ByteArray.toList x1 == ByteArray.toList (ByteArray.mk #[])) = true
    · simp only [if_pos h1]
    · simp only [if_neg h1]
      refine loop_fold (b := (([], 0) : List Int × Nat)) x0 ByteArray.empty (foundStep fun s => g22_0 s x1) (fun b => [(⟨.sl (.int .i64), b.1⟩ : Dyn), ⟨.int .i64, (0 : Int)⟩]) (fun i b => b.1.length ≤ i ∧ b.2 = i) (fun n i b ds => R8_7 n i b.1 x1 x0 ds) ⟨by simp, rfl⟩ (fun n b _ => ?_) (fun n i b hi hb => ?_)
      · show R8_7 (n + 1) x0.length b.1 x1 x0 _
        rw [R8_7, if_neg (by simp)]
      · obtain ⟨hb1, hb2⟩ := hb
        have hP : P22 (x0.getD i ByteArray.empty) x1 := by have := hline _ (mem_getD x0 i ByteArray.empty hi); show (x0.getD i ByteArray.empty).size < 4294967281; omega
        simp only [foundStep]
        by_cases he : g22_0 (x0.getD i ByteArray.empty) x1 = true
        · simp only [if_pos he]
          refine ⟨⟨len_up hb1, by omega⟩, fun ds hr => ?_⟩
          rw [R8_7, if_pos (by simp; omega)]
          simp only [Int.toNat_natCast]
          refine ⟨by omega, by omega, hP, ?_⟩
          rw [if_pos he]
          rw [hb2] at hr
          exact ⟨by omega, inR_up hm hi, hr⟩
        · simp only [if_neg he]
          refine ⟨⟨by omega, by omega⟩, fun ds hr => ?_⟩
          rw [R8_7, if_pos (by simp; omega)]
          simp only [Int.toNat_natCast]
          refine ⟨by omega, by omega, hP, ?_⟩
          rw [if_neg he]
          exact ⟨inR_up hm hi, hr⟩

def S8 : Am.Spec := { sig := sig8, pre := fun ⟨x0, x1, _⟩ => P8 x0 x1, res := fun ⟨x0, x1, _⟩ => [⟨.sl (.int .i64), g8_0 x0 x1⟩, ⟨.int .i64, g8_1 x0 x1⟩] }
theorem con8 : Contract Try.prog 8 S8 := contract_of Try.func8 hb8 (Nat.le_of_ble_eq_true (by kernel_rfl)) (fun ⟨x0, x1, _⟩ h hwf K q =>
  (snd8 _).1 x0 x1 _ (top8 x0 x1 h) K q)

end
end Go.Proofs.Ytldkifoapiianaa

/- Function 9 (laws.b10Rises): its runs between cut points. Written by a program of this repo (gen). -/
set_option linter.unusedVariables false
set_option linter.unusedSimpArgs false
set_option maxRecDepth 100000
namespace Go.Proofs.Ytldkifoapiianaa
open Go Go.Am Go.Proofs
noncomputable section
def ext9 : Ext := []
theorem ext9Ok : ExtOk Try.prog ext9 := trivial

noncomputable def b9 : Code := bodyOf Try.f9
theorem hb9 : Try.f9.body = some b9 := by kernel_rfl
def sig9 : List AT := [AT.v (Ty.sl (Ty.int IntKind.i64)), AT.v (Ty.int IntKind.i64)]
def tys9 : List Ty := [Ty.bool]
def kds9 : List RK := []
def oks9 : List AT := owns sig9
def E9_2 (v5 : Int) (x0 : List Int) (x1 : Int) : Env := [(0, PV.a (Atom.sl (Ty.int IntKind.i64) x0)), (1, PV.a (Atom.val (Value.int IntKind.i64 x1))), (5, PV.a (Atom.val (Value.int IntKind.i64 v5)))]
def L9_2 (v5 : Int) (x0 : List Int) (x1 : Int) : Heap := []
mutual
def R9 : Nat → List Int → Int → List Dyn → Prop
  | 0, _, _, _ => False
  | n + 1, x0, x1, ds => (R9_2 n (0) (x0) (x1) ds)
def R9_2 : Nat → Int → List Int → Int → List Dyn → Prop
  | 0, _, _, _, _ => False
  | n + 1, v5, x0, x1, ds => (if (Decidable.decide (v5 < (↑(List.length x0) : Int))) = true then ((0 ≤ v5) ∧ (v5 < (↑(List.length x0) : Int)) ∧ (if (Decidable.decide (List.getD x0 (Int.toNat v5) 0 < 0)) = true then (ds = [Dyn.mk Ty.bool Bool.false]) else ((0 ≤ v5) ∧ (v5 < (↑(List.length x0) : Int)) ∧ (if (Decidable.decide (List.getD x0 (Int.toNat v5) 0 ≥ x1)) = true then (ds = [Dyn.mk Ty.bool Bool.false]) else (if (Decidable.decide (v5 > 0)) = true then ((InR IntKind.i64 (v5 - 1)) ∧ ((0 ≤ v5 - 1) ∧ (v5 - 1 < (↑(List.length x0) : Int)) ∧ ((0 ≤ v5) ∧ (v5 < (↑(List.length x0) : Int)) ∧ (if (Decidable.decide (List.getD x0 (Int.toNat (v5 - 1)) 0 ≥ List.getD x0 (Int.toNat v5) 0)) = true then (ds = [Dyn.mk Ty.bool Bool.false]) else ((InR IntKind.i64 (v5 + 1)) ∧ (R9_2 n (v5 + 1) (x0) (x1) ds)))))) else ((InR IntKind.i64 (v5 + 1)) ∧ (R9_2 n (v5 + 1) (x0) (x1) ds))))))) else (ds = [Dyn.mk Ty.bool Bool.true]))
end
theorem snd9 : ∀ n, (∀ (x0 : List Int) (x1 : Int) ds, R9 n x0 x1 ds → ∀ K q, AtV Try.prog 9 (PostR kds9 oks9 ds [] [] q K) 41 K q [] [.code b9] (entE 0 0 sig9 (x0, x1, ())) (entL sig9 (x0, x1, ()))) ∧ (∀ (v5 : Int) (x0 : List Int) (x1 : Int) ds, R9_2 n v5 x0 x1 ds → ∀ K q, AtV Try.prog 9 (PostR kds9 oks9 ds [] [] q K) 41 K q [] (cutAt b9 2) (E9_2 v5 x0 x1) (L9_2 v5 x0 x1)) := by
  intro n
  induction n with
  | zero => exact ⟨fun _ _ _ h => by simp only [R9] at h, fun _ _ _ _ h => by simp only [R9_2] at h⟩
  | succ n ih =>
  obtain ⟨ih, ih2⟩ := ih
  refine ⟨?_, ?_⟩
  · intro x0 x1 ds h K q
    rw [R9] at h
    exact AtV.go tabOk ext9Ok mixed false [] [] [0, 1, 5] [] [] trivial (ih2 _ _ _ _ h K q) (by kernel_rfl)

  · intro v5 x0 x1 ds h K q
    rw [R9_2] at h
    by_cases b0 : (Decidable.decide (v5 < (↑(List.length x0) : Int))) = true
    · rw [if_pos b0] at h
      obtain ⟨s0, s1, h⟩ := h
      by_cases b1 : (Decidable.decide (List.getD x0 (Int.toNat v5) 0 < 0)) = true
      · rw [if_pos b1] at h
        subst h
        exact AtV.ret Try.func9 tabOk ext9Ok mixed false [] tys9 [true, true, true, true] (a1 b0 (a1 s0 (a1 s1 (a1 b1 (a1 (rfl : Bool.true = Bool.true) (a1 (rfl : Bool.true = Bool.true) trivial)))))) (by kernel_rfl)
      · rw [if_neg b1] at h
        replace b1 := Bool.eq_false_iff.2 b1
        obtain ⟨s2, s3, h⟩ := h
        by_cases b2 : (Decidable.decide (List.getD x0 (Int.toNat v5) 0 ≥ x1)) = true
        · rw [if_pos b2] at h
          subst h
          exact AtV.ret Try.func9 tabOk ext9Ok mixed false [] tys9 [true, false, true, true] (a1 b0 (a1 s0 (a1 s1 (a1 b1 (a1 s2 (a1 s3 (a1 b2 (a1 (rfl : Bool.true = Bool.true) trivial)))))))) (by kernel_rfl)
        · rw [if_neg b2] at h
          replace b2 := Bool.eq_false_iff.2 b2
          by_cases b3 : (Decidable.decide (v5 > 0)) = true
          · rw [if_pos b3] at h
            obtain ⟨s4, h⟩ := h
            obtain ⟨s5, s6, h⟩ := h
            obtain ⟨s7, s8, h⟩ := h
            by_cases b4 : (Decidable.decide (List.getD x0 (Int.toNat (v5 - 1)) 0 ≥ List.getD x0 (Int.toNat v5) 0)) = true
            · rw [if_pos b4] at h
              subst h
              exact AtV.ret Try.func9 tabOk ext9Ok mixed false [] tys9 [true, false, false, true, true] (a1 b0 (a1 s0 (a1 s1 (a1 b1 (a1 s2 (a1 s3 (a1 b2 (a1 b3 (a1 s4 (a1 s5 (a1 s6 (a1 s7 (a1 s8 (a1 b4 trivial)))))))))))))) (by kernel_rfl)
            · rw [if_neg b4] at h
              replace b4 := Bool.eq_false_iff.2 b4
              obtain ⟨s9, h⟩ := h
              exact AtV.go tabOk ext9Ok mixed false [] [] [0, 1, 5] [] [true, false, false, true, false] (a1 b0 (a1 s0 (a1 s1 (a1 b1 (a1 s2 (a1 s3 (a1 b2 (a1 b3 (a1 s4 (a1 s5 (a1 s6 (a1 s7 (a1 s8 (a1 b4 (a1 s9 trivial))))))))))))))) (ih2 _ _ _ _ h K q) (by kernel_rfl)
          · rw [if_neg b3] at h
            replace b3 := Bool.eq_false_iff.2 b3
            obtain ⟨s4, h⟩ := h
            exact AtV.go tabOk ext9Ok mixed false [] [] [0, 1, 5] [] [true, false, false, false, false] (a1 b0 (a1 s0 (a1 s1 (a1 b1 (a1 s2 (a1 s3 (a1 b2 (a1 b3 (a1 (rfl : Bool.false = Bool.false) (a1 s4 trivial)))))))))) (ih2 _ _ _ _ h K q) (by kernel_rfl)
    · rw [if_neg b0] at h
      replace b0 := Bool.eq_false_iff.2 b0
      subst h
      exact AtV.ret Try.func9 tabOk ext9Ok mixed false [] tys9 [false] (a1 b0 trivial) (by kernel_rfl)



def ok9 (x0 : List Int) (n : Int) (i : Nat) (x : Int) : Bool := !decide (x < 0) && (!decide (x ≥ n) && (i == 0 || !decide (x0.getD (i - 1) 0 ≥ x)))
def g9_0 (x0 : List Int) (x1 : Int) : Bool := allI (ok9 x0 x1) 0 x0
def P9 (x0 : List Int) (x1 : Int) : Prop := True

theorem step9 (n i : Nat) (x0 : List Int) (x1 : Int) (hm : x0.length ≤ maxLen) (hi : i < x0.length) (ds : List Dyn)
    (h : if ok9 x0 x1 i (x0.getD i 0) = true then R9_2 n ((i : Int) + 1) x0 x1 ds else ds = [⟨.bool, false⟩]) : R9_2 (n + 1) (i : Int) x0 x1 ds := by
  have hu := inR_up hm hi
  have hmx : maxLen ≤ 9223372036854775807 := by decide
  rw [R9_2, if_pos (by simp only [decide_eq_true_eq]; omega)]
  simp only [Int.toNat_natCast]
  refine ⟨by omega, by omega, ?_⟩
  unfold ok9 at h
  by_cases h1 : x0.getD i 0 < 0
  · rw [if_pos (decide_eq_true h1)]
    rw [decide_eq_true h1] at h
    simpa using h
  rw [if_neg (by simpa using h1)]
  rw [decide_eq_false h1] at h
  refine ⟨by omega, by omega, ?_⟩
  by_cases h2 : x0.getD i 0 ≥ x1
  · rw [if_pos (decide_eq_true h2)]
    rw [decide_eq_true h2] at h
    simpa using h
  rw [if_neg (by simpa using h2)]
  rw [decide_eq_false h2] at h
  by_cases h0 : (i : Int) > 0
  case neg =>
    rw [if_neg (by simpa using h0)]
    have hi0 : (i == 0) = true := by simp; omega
    rw [hi0] at h
    exact ⟨hu, by simpa using h⟩
  rw [if_pos (by simpa using h0)]
  have hi0 : (i == 0) = false := by simp; omega
  have e : ((i : Int) - 1).toNat = i - 1 := by omega
  have hd : InR .i64 ((i : Int) - 1) := by rw [i64_iff]; omega
  rw [hi0] at h
  simp only [e]
  refine ⟨hd, by omega, by omega, by omega, by omega, ?_⟩
  by_cases h3 : x0.getD (i - 1) 0 ≥ x0.getD i 0
  · rw [if_pos (decide_eq_true h3)]
    rw [decide_eq_true h3] at h
    simpa using h
  · rw [if_neg (by simpa using h3)]
    rw [decide_eq_false h3] at h
    exact ⟨hu, by simpa using h⟩

theorem top9 (x0 : List Int) (x1 : Int) (hw : x0.length ≤ maxLen) : R9 (x0.length + 1 + 1) x0 x1 [⟨.bool, g9_0 x0 x1⟩] := by
  rw [R9]
  have key := loop_testI x0 0 (ok9 x0 x1) [(⟨.bool, false⟩ : Dyn)] [⟨.bool, true⟩] (fun n i ds => R9_2 n i x0 x1 ds) (fun n => ?_) (fun n i hi hok ds hr => ?_) (fun n i hi hok => ?_)
  · unfold g9_0
    cases h : allI (ok9 x0 x1) 0 x0 with
    | true => rw [if_pos h] at key; simpa using key
    | false => rw [if_neg (by rw [h]; simp)] at key; simpa using key
  · rw [R9_2, if_neg (by simp)]
  · exact step9 n i x0 x1 hw hi ds (by rw [if_pos hok]; exact hr)
  · exact step9 n i x0 x1 hw hi _ (by rw [if_neg (by rw [hok]; simp)])

def S9 : Am.Spec := { sig := sig9, pre := fun ⟨x0, x1, _⟩ => P9 x0 x1, res := fun ⟨x0, x1, _⟩ => [⟨Ty.bool, g9_0 x0 x1⟩] }
theorem con9 : Contract Try.prog 9 S9 := contract_of Try.func9 hb9 (Nat.le_of_ble_eq_true (by kernel_rfl)) (fun ⟨x0, x1, _⟩ h hwf K q =>
  (snd9 _).1 x0 x1 _ (top9 x0 x1 hwf.1.1) K q)

end
end Go.Proofs.Ytldkifoapiianaa

/- Function 10 (laws.b10Has): its runs between cut points. Written by a program of this repo (gen). -/
set_option linter.unusedVariables false
set_option linter.unusedSimpArgs false
set_option maxRecDepth 100000
namespace Go.Proofs.Ytldkifoapiianaa
open Go Go.Am Go.Proofs
noncomputable section
def ext10 : Ext := []
theorem ext10Ok : ExtOk Try.prog ext10 := trivial

noncomputable def b10 : Code := bodyOf Try.f10
theorem hb10 : Try.f10.body = some b10 := by kernel_rfl
def sig10 : List AT := [AT.v (Ty.sl (Ty.int IntKind.i64)), AT.v (Ty.int IntKind.i64)]
def tys10 : List Ty := [Ty.bool]
def kds10 : List RK := []
def oks10 : List AT := owns sig10
def E10_2 (v5 : Int) (x0 : List Int) (x1 : Int) : Env := [(0, PV.a (Atom.sl (Ty.int IntKind.i64) x0)), (1, PV.a (Atom.val (Value.int IntKind.i64 x1))), (5, PV.a (Atom.val (Value.int IntKind.i64 v5)))]
def L10_2 (v5 : Int) (x0 : List Int) (x1 : Int) : Heap := []
mutual
def R10 : Nat → List Int → Int → List Dyn → Prop
  | 0, _, _, _ => False
  | n + 1, x0, x1, ds => (R10_2 n (0) (x0) (x1) ds)
def R10_2 : Nat → Int → List Int → Int → List Dyn → Prop
  | 0, _, _, _, _ => False
  | n + 1, v5, x0, x1, ds => (if (Decidable.decide (v5 < (↑(List.length x0) : Int))) = true then ((0 ≤ v5) ∧ (v5 < (↑(List.length x0) : Int)) ∧ (if (List.getD x0 (Int.toNat v5) 0 == x1) = true then (ds = [Dyn.mk Ty.bool Bool.true]) else ((InR IntKind.i64 (v5 + 1)) ∧ (R10_2 n (v5 + 1) (x0) (x1) ds)))) else (ds = [Dyn.mk Ty.bool Bool.false]))
end
theorem snd10 : ∀ n, (∀ (x0 : List Int) (x1 : Int) ds, R10 n x0 x1 ds → ∀ K q, AtV Try.prog 10 (PostR kds10 oks10 ds [] [] q K) 18 K q [] [.code b10] (entE 0 0 sig10 (x0, x1, ())) (entL sig10 (x0, x1, ()))) ∧ (∀ (v5 : Int) (x0 : List Int) (x1 : Int) ds, R10_2 n v5 x0 x1 ds → ∀ K q, AtV Try.prog 10 (PostR kds10 oks10 ds [] [] q K) 18 K q [] (cutAt b10 2) (E10_2 v5 x0 x1) (L10_2 v5 x0 x1)) := by
  intro n
  induction n with
  | zero => exact ⟨fun _ _ _ h => by simp only [R10] at h, fun _ _ _ _ h => by simp only [R10_2] at h⟩
  | succ n ih =>
  obtain ⟨ih, ih2⟩ := ih
  refine ⟨?_, ?_⟩
  · intro x0 x1 ds h K q
    rw [R10] at h
    exact AtV.go tabOk ext10Ok mixed false [] [] [0, 1, 5] [] [] trivial (ih2 _ _ _ _ h K q) (by kernel_rfl)

  · intro v5 x0 x1 ds h K q
    rw [R10_2] at h
    by_cases b0 : (Decidable.decide (v5 < (↑(List.length x0) : Int))) = true
    · rw [if_pos b0] at h
      obtain ⟨s0, s1, h⟩ := h
      by_cases b1 : (List.getD x0 (Int.toNat v5) 0 == x1) = true
      · rw [if_pos b1] at h
        subst h
        exact AtV.ret Try.func10 tabOk ext10Ok mixed false [] tys10 [true, true] (a1 b0 (a1 s0 (a1 s1 (a1 b1 trivial)))) (by kernel_rfl)
      · rw [if_neg b1] at h
        replace b1 := Bool.eq_false_iff.2 b1
        obtain ⟨s2, h⟩ := h
        exact AtV.go tabOk ext10Ok mixed false [] [] [0, 1, 5] [] [true, false] (a1 b0 (a1 s0 (a1 s1 (a1 b1 (a1 s2 trivial))))) (ih2 _ _ _ _ h K q) (by kernel_rfl)
    · rw [if_neg b0] at h
      replace b0 := Bool.eq_false_iff.2 b0
      subst h
      exact AtV.ret Try.func10 tabOk ext10Ok mixed false [] tys10 [false] (a1 b0 trivial) (by kernel_rfl)



def g10_0 (x0 : List Int) (x1 : Int) : Bool := x0.any fun y => y == x1
def P10 (x0 : List Int) (x1 : Int) : Prop := True

theorem top10 (x0 : List Int) (x1 : Int) (hm : x0.length ≤ maxLen) : R10 (x0.length + 1 + 1) x0 x1 [⟨.bool, g10_0 x0 x1⟩] := by
  rw [R10]
  have e : g10_0 x0 x1 = !x0.all fun y => !(y == x1) := by
    unfold g10_0
    induction x0 with
    | nil => rfl
    | cons y r ih => rw [List.any_cons, List.all_cons, Bool.not_and, Bool.not_not, ih (by simp only [List.length_cons] at hm; omega)]
  rw [e]
  have key := loop_test x0 0 (fun y => !(y == x1)) [(⟨.bool, true⟩ : Dyn)] [⟨.bool, false⟩] (fun n i ds => R10_2 n i x0 x1 ds) (fun n => ?_) (fun n i hi hok ds hr => ?_) (fun n i hi hok => ?_)
  · cases h : x0.all fun y => !(y == x1) <;> rw [h] at key <;> simpa using key
  · rw [R10_2, if_neg (by simp)]
  · rw [R10_2, if_pos (by simp; omega)]
    simp only [Int.toNat_natCast]
    refine ⟨by omega, by omega, ?_⟩
    rw [if_neg (by simpa using hok)]
    exact ⟨inR_up hm hi, hr⟩
  · rw [R10_2, if_pos (by simp; omega)]
    simp only [Int.toNat_natCast]
    refine ⟨by omega, by omega, ?_⟩
    rw [if_pos (by simpa using hok)]
    trivial

def S10 : Am.Spec := { sig := sig10, pre := fun ⟨x0, x1, _⟩ => P10 x0 x1, res := fun ⟨x0, x1, _⟩ => [⟨Ty.bool, g10_0 x0 x1⟩] }
theorem con10 : Contract Try.prog 10 S10 := contract_of Try.func10 hb10 (Nat.le_of_ble_eq_true (by kernel_rfl)) (fun ⟨x0, x1, _⟩ h hwf K q =>
  (snd10 _).1 x0 x1 _ (top10 x0 x1 hwf.1.1) K q)

end
end Go.Proofs.Ytldkifoapiianaa

/- Function 11 (spec.DrawBarLines): its runs between cut points. Written by a program of this repo (gen). -/
set_option linter.unusedVariables false
set_option linter.unusedSimpArgs false
set_option maxRecDepth 100000
namespace Go.Proofs.Ytldkifoapiianaa
open Go Go.Am Go.Proofs
noncomputable section
def ext11 : Ext := [(13, S13), (23, S23), (15, S15)]
theorem call11_13 : Callable Try.prog 13 := ⟨Try.f13, Try.func13, by kernel_rfl, by kernel_rfl⟩
theorem call11_23 : Callable Try.prog 23 := ⟨Try.f23, Try.func23, by kernel_rfl, by kernel_rfl⟩
theorem call11_15 : Callable Try.prog 15 := ⟨Try.f15, Try.func15, by kernel_rfl, by kernel_rfl⟩
theorem ext11Ok : ExtOk Try.prog ext11 := ⟨⟨call11_13, con13⟩, ⟨call11_23, con23⟩, ⟨call11_15, con15⟩, trivial⟩

noncomputable def b11 : Code := bodyOf Try.f11
theorem hb11 : Try.f11.body = some b11 := by kernel_rfl
def sig11 : List AT := [AT.v (Ty.sl (Ty.int IntKind.u8))]
def tys11 : List Ty := [Ty.sl (Ty.int IntKind.i64), Ty.int IntKind.i64]
def kds11 : List RK := []
def oks11 : List AT := owns sig11
def E11_4 (v6 : Int) (h0 : List Int × Int × Int × Unit) (h1 : List Int) : Env := [(4, PV.a (Atom.optr 0 0 [])), (5, PV.a (Atom.osl 1 Option.none)), (6, PV.a (Atom.val (Value.int IntKind.i64 v6)))]
def L11_4 (v6 : Int) (h0 : List Int × Int × Int × Unit) (h1 : List Int) : Heap := [Option.some (Arr.mk (Ty.cons (Ty.sl (Ty.int IntKind.u8)) (Ty.cons (Ty.int IntKind.i64) (Ty.cons (Ty.int IntKind.u64) Ty.unit))) [h0] Bool.true Option.none (Option.some Bool.false)), Option.some (Arr.mk (Ty.int IntKind.i64) h1 Bool.false Option.none Option.none)]
mutual
def R11 : Nat → List Int → List Dyn → Prop
  | 0, _, _ => False
  | n + 1, x0, ds => ((P23 (g13_0 x0) 8) ∧ (R11_4 n (g23_0 (g13_0 x0) 8) (u23_0 (g13_0 x0) 8) ([]) ds))
def R11_4 : Nat → Int → List Int × Int × Int × Unit → List Int → List Dyn → Prop
  | 0, _, _, _, _ => False
  | n + 1, v6, h0, h1, ds => (if (Decidable.decide (v6 > 0)) = true then ((P15 h0 [0, 1, 5, 20, 77, 1000]) ∧ (((List.length h1 + 1) * 8 ≤ 140737488355328) ∧ ((InR IntKind.i64 (v6 - 1)) ∧ (R11_4 n (v6 - 1) (u15_0 h0 [0, 1, 5, 20, 77, 1000]) (h1 ++ [g15_0 h0 [0, 1, 5, 20, 77, 1000]]) ds)))) else ((P23 h0 16) ∧ (if (g23_0 h0 16 == 0) = true then ((P15 (u23_0 h0 16) [-1, 1000000000000, 1000000000001]) ∧ (((List.length h1 + 1) * 8 ≤ 140737488355328) ∧ ((P15 (u15_0 (u23_0 h0 16) [-1, 1000000000000, 1000000000001]) [1, 10, 40, 100, 101, 0]) ∧ (ds = [Dyn.mk (Ty.sl (Ty.int IntKind.i64)) (h1 ++ [g15_0 (u23_0 h0 16) [-1, 1000000000000, 1000000000001]]), Dyn.mk (Ty.int IntKind.i64) (g15_0 (u15_0 (u23_0 h0 16) [-1, 1000000000000, 1000000000001]) [1, 10, 40, 100, 101, 0])])))) else (if (g23_0 h0 16 == 1) = true then ((P15 (u23_0 h0 16) [200, 201]) ∧ ((0 ≤ g15_0 (u23_0 h0 16) [200, 201]) ∧ (g15_0 (u23_0 h0 16) [200, 201] ≤ g15_0 (u23_0 h0 16) [200, 201]) ∧ (8 * g15_0 (u23_0 h0 16) [200, 201] ≤ 281474976710656) ∧ ((P15 (u15_0 (u23_0 h0 16) [200, 201]) [1, 10, 40, 100, 101, 0]) ∧ (ds = [Dyn.mk (Ty.sl (Ty.int IntKind.i64)) (List.replicate (Int.toNat (g15_0 (u23_0 h0 16) [200, 201])) 0), Dyn.mk (Ty.int IntKind.i64) (g15_0 (u15_0 (u23_0 h0 16) [200, 201]) [1, 10, 40, 100, 101, 0])])))) else ((P15 (u23_0 h0 16) [1, 10, 40, 100, 101, 0]) ∧ (ds = [Dyn.mk (Ty.sl (Ty.int IntKind.i64)) h1, Dyn.mk (Ty.int IntKind.i64) (g15_0 (u23_0 h0 16) [1, 10, 40, 100, 101, 0])]))))))
end
theorem snd11 : ∀ n, (∀ (x0 : List Int) ds, R11 n x0 ds → ∀ K q, AtV Try.prog 11 (PostR kds11 oks11 ds [] [] q K) 42 K q [] [.code b11] (entE 0 0 sig11 (x0, ())) (entL sig11 (x0, ()))) ∧ (∀ (v6 : Int) (h0 : List Int × Int × Int × Unit) (h1 : List Int) ds, R11_4 n v6 h0 h1 ds → ∀ K q, AtV Try.prog 11 (PostR kds11 oks11 ds [] [] q K) 42 K q [] (cutAt b11 4) (E11_4 v6 h0 h1) (L11_4 v6 h0 h1)) := by
  intro n
  induction n with
  | zero => exact ⟨fun _ _ h => by simp only [R11] at h, fun _ _ _ _ h => by simp only [R11_4] at h⟩
  | succ n ih =>
  obtain ⟨ih, ih4⟩ := ih
  refine ⟨?_, ?_⟩
  · intro x0 ds h K q
    rw [R11] at h
    obtain ⟨s0, h⟩ := h
    exact AtV.go tabOk ext11Ok mixed false [] [] [4, 5, 6] [0, 1] [] (a1 trivial (a1 s0 trivial)) (ih4 _ _ _ _ h K q) (by kernel_rfl)

  · intro v6 h0 h1 ds h K q
    rw [R11_4] at h
    by_cases b0 : (Decidable.decide (v6 > 0)) = true
    · rw [if_pos b0] at h
      obtain ⟨s0, h⟩ := h
      obtain ⟨s1, h⟩ := h
      obtain ⟨s2, h⟩ := h
      exact AtV.go tabOk ext11Ok mixed false [] [] [4, 5, 6] [0, 1] [true] (a1 b0 (a1 s0 (a1 s1 (a1 s2 trivial)))) (ih4 _ _ _ _ h K q) (by kernel_rfl)
    · rw [if_neg b0] at h
      replace b0 := Bool.eq_false_iff.2 b0
      obtain ⟨s0, h⟩ := h
      by_cases b1 : (g23_0 h0 16 == 0) = true
      · rw [if_pos b1] at h
        obtain ⟨s1, h⟩ := h
        obtain ⟨s2, h⟩ := h
        obtain ⟨s3, h⟩ := h
        subst h
        exact AtV.ret Try.func11 tabOk ext11Ok mixed false [] tys11 [false, true] (a1 b0 (a1 s0 (a1 b1 (a1 s1 (a1 s2 (a1 s3 trivial)))))) (by kernel_rfl)
      · rw [if_neg b1] at h
        replace b1 := Bool.eq_false_iff.2 b1
        by_cases b2 : (g23_0 h0 16 == 1) = true
        · rw [if_pos b2] at h
          obtain ⟨s1, h⟩ := h
          obtain ⟨s2, s3, s4, h⟩ := h
          obtain ⟨s5, h⟩ := h
          subst h
          exact AtV.ret Try.func11 tabOk ext11Ok mixed false [] tys11 [false, false, true] (a1 b0 (a1 s0 (a1 b1 (a1 b2 (a1 s1 (a1 s2 (a1 s3 (a1 s4 (a1 s5 trivial))))))))) (by kernel_rfl)
        · rw [if_neg b2] at h
          replace b2 := Bool.eq_false_iff.2 b2
          obtain ⟨s1, h⟩ := h
          subst h
          exact AtV.ret Try.func11 tabOk ext11Ok mixed false [] tys11 [false, false, false] (a1 b0 (a1 s0 (a1 b1 (a1 b2 (a1 s1 trivial))))) (by kernel_rfl)



def P11 (x0 : List Int) : Prop := True
def Q11 (x0 : List Int) (p : List Int × Int) : Prop := p.1.length ≤ 300 ∧ ∃ n, R11 n x0 [⟨.sl (.int .i64), p.1⟩, ⟨.int .i64, p.2⟩]
open Classical in
noncomputable def sel11 (x0 : List Int) : List Int × Int := if h : ∃ p, Q11 x0 p then Classical.choose h else ([], 0)
theorem q11 (x0 : List Int) (h : ∃ p, Q11 x0 p) : Q11 x0 (sel11 x0) := by
  unfold sel11
  rw [dif_pos h]
  exact Classical.choose_spec h

theorem run11 (x0 : List Int) : ∀ (k : Nat) (v : Int) (s : (List Int × Int × Int × Unit)) (h : List Int) (m : Int), v = (k : Int) → SrcOk m s → m + 8 * (k : Int) ≤ 900000000 → h.length + k ≤ 20 →
    ∃ (n : Nat) (p : List Int × Int), p.1.length ≤ 300 ∧ R11_4 n v s h [⟨.sl (.int .i64), p.1⟩, ⟨.int .i64, p.2⟩] := by
  intro k
  induction k with
  | zero =>
    intro v s h m hv hs hm hl
    obtain ⟨p1, s1, _⟩ := pick_ok hs 16 (by omega)
    obtain ⟨p2, s2, _⟩ := among_ok s1 [-1, 1000000000000, 1000000000001] (by decide) (by omega)
    obtain ⟨p3, s3, hm3⟩ := among_ok s1 [200, 201] (by decide) (by omega)
    obtain ⟨p4, _⟩ := among_ok s2 [1, 10, 40, 100, 101, 0] (by decide) (by omega)
    obtain ⟨p5, _⟩ := among_ok s3 [1, 10, 40, 100, 101, 0] (by decide) (by omega)
    obtain ⟨p6, _⟩ := among_ok s1 [1, 10, 40, 100, 101, 0] (by decide) (by omega)
    have h3 : 0 ≤ g15_0 (u23_0 s 16) [200, 201] ∧ g15_0 (u23_0 s 16) [200, 201] ≤ 201 := by
      simp only [List.mem_cons, List.mem_nil_iff, or_false] at hm3
      rcases hm3 with e | e <;> rw [e] <;> decide
    by_cases c0 : (g23_0 s 16 == 0) = true
    · refine ⟨0 + 1, (h ++ [g15_0 (u23_0 s 16) [-1, 1000000000000, 1000000000001]], g15_0 (u15_0 (u23_0 s 16) [-1, 1000000000000, 1000000000001]) [1, 10, 40, 100, 101, 0]), by rw [List.length_append, List.length_singleton]; omega, ?_⟩
      rw [R11_4, if_neg (by simp only [decide_eq_true_eq]; omega), if_pos c0]
      exact ⟨p1, p2, by omega, p4, rfl⟩
    · by_cases c1 : (g23_0 s 16 == 1) = true
      · refine ⟨0 + 1, (List.replicate (Int.toNat (g15_0 (u23_0 s 16) [200, 201])) 0, g15_0 (u15_0 (u23_0 s 16) [200, 201]) [1, 10, 40, 100, 101, 0]), by rw [List.length_replicate]; omega, ?_⟩
        rw [R11_4, if_neg (by simp only [decide_eq_true_eq]; omega), if_neg c0, if_pos c1]
        exact ⟨p1, p3, by omega, by omega, by omega, p5, rfl⟩
      · refine ⟨0 + 1, (h, g15_0 (u23_0 s 16) [1, 10, 40, 100, 101, 0]), by show h.length ≤ 300; omega, ?_⟩
        rw [R11_4, if_neg (by simp only [decide_eq_true_eq]; omega), if_neg c0, if_neg c1]
        exact ⟨p1, p6, rfl⟩
  | succ k ih =>
    intro v s h m hv hs hm hl
    obtain ⟨p1, s1, _⟩ := among_ok hs [0, 1, 5, 20, 77, 1000] (by decide) (by omega)
    obtain ⟨n, p, a1, a2⟩ := ih (v - 1) _ (h ++ [g15_0 s [0, 1, 5, 20, 77, 1000]]) _ (by omega) s1 (by omega) (by rw [List.length_append, List.length_singleton]; omega)
    refine ⟨n + 1, p, a1, ?_⟩
    rw [R11_4, if_pos (by simp only [decide_eq_true_eq]; omega)]
    exact ⟨p1, by omega, by rw [i64_iff]; omega, a2⟩

theorem ex11 (x0 : List Int) (hw : Wf (.sl (.int .u8)) x0) : ∃ p, Q11 x0 p := by
  have h0 : SrcOk 0 (g13_0 x0) := src_start hw
  obtain ⟨p1, s1, a, b, _⟩ := pick_ok h0 8 (by decide)
  have b := b (by decide)
  have hz : SrcOk 1000 (u23_0 (g13_0 x0) 8) := s1.up (by decide)
  obtain ⟨n, p, a1, a2⟩ := run11 x0 (g23_0 (g13_0 x0) 8).toNat (g23_0 (g13_0 x0) 8) (u23_0 (g13_0 x0) 8) [] 1000 (by omega) hz (by omega) (by simp; omega)
  exact ⟨p, a1, n + 1, by rw [R11]; exact ⟨p1, a2⟩⟩

def g11_0 (x0 : List Int) : List Int := (sel11 x0).1
def g11_1 (x0 : List Int) : Int := (sel11 x0).2
def S11 : Am.Spec := { sig := sig11, pre := fun ⟨x0, _⟩ => P11 x0, res := fun ⟨x0, _⟩ => [⟨.sl (.int .i64), g11_0 x0⟩, ⟨.int .i64, g11_1 x0⟩] }
theorem con11 : Contract Try.prog 11 S11 := contract_of Try.func11 hb11 (Nat.le_of_ble_eq_true (by kernel_rfl)) (fun ⟨x0, _⟩ h hwf K q =>
  let ⟨n, hn⟩ := (q11 x0 (ex11 x0 hwf.1)).2
  (snd11 n).1 x0 _ hn K q)

end
end Go.Proofs.Ytldkifoapiianaa

/- Function 26 (strings.Repeat): its contract, off what is known of the library. -/
set_option linter.unusedVariables false
set_option linter.unusedSimpArgs false
set_option maxRecDepth 100000
namespace Go.Proofs.Ytldkifoapiianaa
open Go Go.Am Go.Proofs

def sig26 : List AT := [AT.v Ty.str, AT.v (Ty.int .i64)]
def g26_0 (x0 : ByteArray) (x1 : Int) : ByteArray := ⟨(Lib.repeatL x0.data.toList x1.toNat).toArray⟩
def P26 (x0 : ByteArray) (x1 : Int) : Prop := 0 ≤ x1 ∧ (x0.size : Int) * x1 ≤ 140737488355328
def S26 : Am.Spec := { sig := sig26, pre := fun ⟨x0, x1, _⟩ => P26 x0 x1, res := fun ⟨x0, x1, _⟩ => [⟨Ty.str, g26_0 x0 x1⟩] }
theorem con26 : Contract Try.prog 26 S26 := contract_flat rfl fun w ⟨x0, x1, _⟩ vs bss hg hp hw ha => by
  obtain ⟨v0, s0, _, _, rfl, _, ⟨_, rfl, _⟩, v1, s1, _, _, rfl, _, ⟨_, rfl, _⟩, rfl, _⟩ := ha
  obtain ⟨h0, h1⟩ := hp
  obtain ⟨c, rfl⟩ : ∃ c : Nat, x1 = (c : Int) := Int.eq_ofNat_of_zero_le h0
  have hi : InR .i64 (c : Int) := hw.2.1
  rw [i64_iff] at hi
  have hm : x0.size * c ≤ 140737488355328 := by
    have : ((x0.size * c : Nat) : Int) = (x0.size : Int) * (c : Int) := Int.natCast_mul _ _
    omega
  refine ⟨fun d hd => ?_, ?_⟩
  · rw [List.mem_singleton.1 hd]
    refine ⟨rfl, ?_⟩
    show (ByteArray.mk (Lib.repeatL x0.data.toList c).toArray).size ≤ maxLen
    have : (ByteArray.mk (Lib.repeatL x0.data.toList c).toArray).size = c * x0.data.toList.length := by
      show (Lib.repeatL x0.data.toList c).toArray.size = _
      rw [List.size_toArray, Lib.repeatL_length]
    rw [this, Nat.mul_comm]
    have e : x0.data.toList.length = x0.size := rfl
    rw [e]
    unfold maxLen
    omega
  · refine (Try.strings_Repeat x0 c w (by omega) hm).mono ?_
    rintro e w' ⟨rfl, hb⟩
    exact ⟨rfl, Kept.of_below hb⟩

end Go.Proofs.Ytldkifoapiianaa

/- Function 27 (impl.orFull): its runs between cut points. Written by a program of this repo (gen). -/
set_option linter.unusedVariables false
set_option linter.unusedSimpArgs false
set_option maxRecDepth 100000
namespace Go.Proofs.Ytldkifoapiianaa
open Go Go.Am Go.Proofs
noncomputable section
def ext27 : Ext := [(17, S17)]
theorem call27_17 : Callable Try.prog 17 := ⟨Try.f17, Try.func17, by kernel_rfl, by kernel_rfl⟩
theorem ext27Ok : ExtOk Try.prog ext27 := ⟨⟨call27_17, con17⟩, trivial⟩

noncomputable def b27 : Code := bodyOf Try.f27
theorem hb27 : Try.f27.body = some b27 := by kernel_rfl
def sig27 : List AT := [AT.own Ty.str]
def tys27 : List Ty := [Ty.sl Ty.str, Ty.int IntKind.i64]
def kds27 : List RK := []
def oks27 : List AT := owns sig27
def P27 (x0 : List ByteArray) : Prop := True
def g27_0 (x0 : List ByteArray) : List ByteArray := (if (!g17_0 x0) = true then [] else x0)
def g27_1 (x0 : List ByteArray) : Int := (if (!g17_0 x0) = true then 5 else 0)
theorem at27 (x0 : List ByteArray) (h : P27 x0) (K : Ctx) (q : Nat → Value) : AtV Try.prog 27 (PostR kds27 oks27 [⟨Ty.sl Ty.str, g27_0 x0⟩, ⟨Ty.int IntKind.i64, g27_1 x0⟩] [none] [0] q K) 8 K q [0] [.code b27] (entE 0 0 sig27 (x0, ())) (entL sig27 (x0, ())) := by
  unfold P27 at h
  unfold g27_0 g27_1
  by_cases b0 : (!g17_0 x0) = true
  · try simp only [if_pos b0] at h ⊢
    exact AtV.weak (AtV.ret (us := [Option.some (Lst.mk Ty.str x0)]) Try.func27 tabOk ext27Ok mixed false [] tys27 [true] (a1 trivial (a1 b0 trivial)) (by kernel_rfl)) ⟨.inr rfl, trivial⟩
  · try simp only [if_neg b0] at h ⊢
    replace b0 := Bool.eq_false_iff.2 b0
    exact AtV.weak (AtV.ret (us := [Option.none]) Try.func27 tabOk ext27Ok mixed false [] tys27 [false] (a1 trivial (a1 b0 trivial)) (by kernel_rfl)) ⟨.inr rfl, trivial⟩

def S27 : Am.Spec := { sig := sig27, pre := fun ⟨x0, _⟩ => P27 x0, upd := fun ⟨x0, _⟩ => [none], res := fun ⟨x0, _⟩ => [⟨Ty.sl Ty.str, g27_0 x0⟩, ⟨Ty.int IntKind.i64, g27_1 x0⟩], kds := kds27 }
theorem con27 : Contract Try.prog 27 S27 := contract_of Try.func27 hb27 (Nat.le_of_ble_eq_true (by kernel_rfl)) (fun ⟨x0, _⟩ h _ K q => at27 x0 h K q)


end
end Go.Proofs.Ytldkifoapiianaa

/- Function 25 (impl.BarLines$1): its runs between cut points. Written by a program of this repo (gen). -/
set_option linter.unusedVariables false
set_option linter.unusedSimpArgs false
set_option maxRecDepth 100000
namespace Go.Proofs.Ytldkifoapiianaa
open Go Go.Am Go.Proofs
noncomputable section
def ext25 : Ext := [(18, S18)]
theorem call25_18 : Callable Try.prog 18 := ⟨Try.f18, Try.func18, by kernel_rfl, by kernel_rfl⟩
theorem ext25Ok : ExtOk Try.prog ext25 := ⟨⟨call25_18, con18⟩, trivial⟩

noncomputable def b25 : Code := bodyOf Try.f25
theorem hb25 : Try.f25.body = some b25 := by kernel_rfl
def sig25 : List AT := [AT.v (Ty.int IntKind.i64)]
def tys25 : List Ty := [Ty.bool]
def kds25 : List RK := []
def oks25 : List AT := owns sig25
def P25 (x0 : Int) : Prop := True
def g25_0 (x0 : Int) : Bool := !g18_0 x0 0 1000000000000
theorem at25 (x0 : Int) (h : P25 x0) (K : Ctx) (q : Nat → Value) : AtV Try.prog 25 (PostR kds25 oks25 [⟨Ty.bool, g25_0 x0⟩] [] [] q K) 6 K q [] [.code b25] (entE 0 0 sig25 (x0, ())) (entL sig25 (x0, ())) := by
  unfold P25 at h
  unfold g25_0
  exact AtV.ret Try.func25 tabOk ext25Ok mixed false [] tys25 [] (a1 trivial trivial) (by kernel_rfl)

def S25 : Am.Spec := { sig := sig25, pre := fun ⟨x0, _⟩ => P25 x0, res := fun ⟨x0, _⟩ => [⟨Ty.bool, g25_0 x0⟩], kds := kds25 }
theorem con25 : Contract Try.prog 25 S25 := contract_of Try.func25 hb25 (Nat.le_of_ble_eq_true (by kernel_rfl)) (fun ⟨x0, _⟩ h _ K q => at25 x0 h K q)


end
end Go.Proofs.Ytldkifoapiianaa

/- Function 36 (slices.IndexFunc[[]int64,int64]): its runs between cut points. Written by a program of this repo (gen). -/
set_option linter.unusedVariables false
set_option linter.unusedSimpArgs false
set_option maxRecDepth 100000
namespace Go.Proofs.Ytldkifoapiianaa
open Go Go.Am Go.Proofs
noncomputable section
def ext36c25 : Ext := [(25, S25)]
theorem call36c25_25 : Callable Try.prog 25 := ⟨Try.f25, Try.func25, by kernel_rfl, by kernel_rfl⟩
theorem ext36c25Ok : ExtOk Try.prog ext36c25 := ⟨⟨call36c25_25, con25⟩, trivial⟩

noncomputable def b36c25 : Code := bodyOf Try.f36
theorem hb36c25 : Try.f36.body = some b36c25 := by kernel_rfl
def sig36c25 : List AT := [AT.v (Ty.sl (Ty.int IntKind.i64)), AT.fn 25 []]
def tys36c25 : List Ty := [Ty.int IntKind.i64]
def kds36c25 : List RK := []
def oks36c25 : List AT := owns sig36c25
def E36c25_2 (v8 : Int) (x0 : List Int) : Env := [(0, PV.a (Atom.sl (Ty.int IntKind.i64) x0)), (1, PV.fn 25 []), (7, PV.a (Atom.val (Value.int IntKind.i64 (↑(List.length x0) : Int)))), (8, PV.a (Atom.val (Value.int IntKind.i64 v8)))]
def L36c25_2 (v8 : Int) (x0 : List Int) : Heap := []
mutual
def R36c25 : Nat → List Int → List Dyn → Prop
  | 0, _, _ => False
  | n + 1, x0, ds => (R36c25_2 n (0) (x0) ds)
def R36c25_2 : Nat → Int → List Int → List Dyn → Prop
  | 0, _, _, _ => False
  | n + 1, v8, x0, ds => (if (Decidable.decide (v8 < (↑(List.length x0) : Int))) = true then ((0 ≤ v8) ∧ (v8 < (↑(List.length x0) : Int)) ∧ (if (g25_0 (List.getD x0 (Int.toNat v8) 0)) = true then (ds = [Dyn.mk (Ty.int IntKind.i64) v8]) else ((InR IntKind.i64 (v8 + 1)) ∧ (R36c25_2 n (v8 + 1) (x0) ds)))) else (ds = [Dyn.mk (Ty.int IntKind.i64) (-1)]))
end
theorem snd36c25 : ∀ n, (∀ (x0 : List Int) ds, R36c25 n x0 ds → ∀ K q, AtV Try.prog 36 (PostR kds36c25 oks36c25 ds [] [] q K) 19 K q [] [.code b36c25] (entE 0 0 sig36c25 (x0, (), ())) (entL sig36c25 (x0, (), ()))) ∧ (∀ (v8 : Int) (x0 : List Int) ds, R36c25_2 n v8 x0 ds → ∀ K q, AtV Try.prog 36 (PostR kds36c25 oks36c25 ds [] [] q K) 19 K q [] (cutAt b36c25 2) (E36c25_2 v8 x0) (L36c25_2 v8 x0)) := by
  intro n
  induction n with
  | zero => exact ⟨fun _ _ h => by simp only [R36c25] at h, fun _ _ _ h => by simp only [R36c25_2] at h⟩
  | succ n ih =>
  obtain ⟨ih, ih2⟩ := ih
  refine ⟨?_, ?_⟩
  · intro x0 ds h K q
    rw [R36c25] at h
    exact AtV.go tabOk ext36c25Ok mixed false [] [] [0, 1, 7, 8] [] [] trivial (ih2 _ _ _ h K q) (by kernel_rfl)

  · intro v8 x0 ds h K q
    rw [R36c25_2] at h
    by_cases b0 : (Decidable.decide (v8 < (↑(List.length x0) : Int))) = true
    · rw [if_pos b0] at h
      obtain ⟨s0, s1, h⟩ := h
      by_cases b1 : (g25_0 (List.getD x0 (Int.toNat v8) 0)) = true
      · rw [if_pos b1] at h
        subst h
        exact AtV.ret Try.func36 tabOk ext36c25Ok mixed false [] tys36c25 [true, true] (a1 b0 (a1 s0 (a1 s1 (a1 trivial (a1 b1 trivial))))) (by kernel_rfl)
      · rw [if_neg b1] at h
        replace b1 := Bool.eq_false_iff.2 b1
        obtain ⟨s2, h⟩ := h
        exact AtV.go tabOk ext36c25Ok mixed false [] [] [0, 1, 7, 8] [] [true, false] (a1 b0 (a1 s0 (a1 s1 (a1 trivial (a1 b1 (a1 s2 trivial)))))) (ih2 _ _ _ h K q) (by kernel_rfl)
    · rw [if_neg b0] at h
      replace b0 := Bool.eq_false_iff.2 b0
      subst h
      exact AtV.ret Try.func36 tabOk ext36c25Ok mixed false [] tys36c25 [false] (a1 b0 trivial) (by kernel_rfl)



def g36c25_0 (x0 : List (Int)) : Int := idx (x0.findIdx? g25_0)
def P36c25 (x0 : List (Int)) : Prop := True

theorem top36c25 (x0 : List (Int)) (hm : x0.length ≤ maxLen) : R36c25 (x0.length + 1 + 1) x0 [⟨.int .i64, g36c25_0 x0⟩] := by
  rw [R36c25]
  have key := loop_find x0 (0 : Int) g25_0 [(⟨.int .i64, -1⟩ : Dyn)] (fun k => [⟨.int .i64, k⟩]) (fun n i ds => R36c25_2 n i x0 ds) (fun n => ?_) (fun n i hi hok ds hr => ?_) (fun n i hi hok => ?_)
  · unfold g36c25_0
    cases h : x0.findIdx? g25_0 <;> rw [h] at key <;> exact key
  · rw [R36c25_2, if_neg (by simp)]
  · rw [R36c25_2, if_pos (by simp; omega)]
    simp only [Int.toNat_natCast]
    refine ⟨by omega, by omega, ?_⟩
    rw [if_neg (by rw [hok]; simp)]
    exact ⟨inR_up hm hi, hr⟩
  · rw [R36c25_2, if_pos (by simp; omega)]
    simp only [Int.toNat_natCast]
    refine ⟨by omega, by omega, ?_⟩
    rw [if_pos hok] <;> trivial

def S36c25 : Am.Spec := { sig := sig36c25, pre := fun ⟨x0, _⟩ => P36c25 x0, res := fun ⟨x0, _⟩ => [⟨Ty.int .i64, g36c25_0 x0⟩] }
theorem con36c25 : Contract Try.prog 36 S36c25 := contract_of Try.func36 hb36c25 (Nat.le_of_ble_eq_true (by kernel_rfl)) (fun ⟨x0, _⟩ h hwf K q =>
  (snd36c25 _).1 x0 _ (top36c25 x0 hwf.1.1) K q)

theorem any36c25 (x0 : List (Int)) : decide (g36c25_0 x0 ≥ 0) = x0.any g25_0 := by
  have := findIdx_any g25_0 x0
  unfold g36c25_0
  cases h : x0.any g25_0 with
  | true => rw [h] at this; simpa using this
  | false => rw [h] at this; simpa using this

end
end Go.Proofs.Ytldkifoapiianaa

/- Function 24 (slices.ContainsFunc[[]int64,int64]): its runs between cut points. Written by a program of this repo (gen). -/
set_option linter.unusedVariables false
set_option linter.unusedSimpArgs false
set_option maxRecDepth 100000
namespace Go.Proofs.Ytldkifoapiianaa
open Go Go.Am Go.Proofs
noncomputable section
def ext24c25 : Ext := [(36, S36c25), (25, S25)]
theorem call24c25_36 : Callable Try.prog 36 := ⟨Try.f36, Try.func36, by kernel_rfl, by kernel_rfl⟩
theorem call24c25_25 : Callable Try.prog 25 := ⟨Try.f25, Try.func25, by kernel_rfl, by kernel_rfl⟩
theorem ext24c25Ok : ExtOk Try.prog ext24c25 := ⟨⟨call24c25_36, con36c25⟩, ⟨call24c25_25, con25⟩, trivial⟩

noncomputable def b24c25 : Code := bodyOf Try.f24
theorem hb24c25 : Try.f24.body = some b24c25 := by kernel_rfl
def sig24c25 : List AT := [AT.v (Ty.sl (Ty.int IntKind.i64)), AT.fn 25 []]
def tys24c25 : List Ty := [Ty.bool]
def kds24c25 : List RK := []
def oks24c25 : List AT := owns sig24c25
def P24c25 (x0 : List Int) : Prop := True
def g24c25_0 (x0 : List Int) : Bool := Decidable.decide (g36c25_0 x0 ≥ 0)
theorem at24c25 (x0 : List Int) (h : P24c25 x0) (K : Ctx) (q : Nat → Value) : AtV Try.prog 24 (PostR kds24c25 oks24c25 [⟨Ty.bool, g24c25_0 x0⟩] [] [] q K) 9 K q [] [.code b24c25] (entE 0 0 sig24c25 (x0, (), ())) (entL sig24c25 (x0, (), ())) := by
  unfold P24c25 at h
  unfold g24c25_0
  exact AtV.ret Try.func24 tabOk ext24c25Ok mixed false [] tys24c25 [] (a1 trivial trivial) (by kernel_rfl)

def S24c25 : Am.Spec := { sig := sig24c25, pre := fun ⟨x0, _⟩ => P24c25 x0, res := fun ⟨x0, _⟩ => [⟨Ty.bool, g24c25_0 x0⟩], kds := kds24c25 }
theorem con24c25 : Contract Try.prog 24 S24c25 := contract_of Try.func24 hb24c25 (Nat.le_of_ble_eq_true (by kernel_rfl)) (fun ⟨x0, _⟩ h _ K q => at24c25 x0 h K q)


end
end Go.Proofs.Ytldkifoapiianaa

/- Function 12 (impl.BarLines): its runs between cut points. Written by a program of this repo (gen). -/
set_option linter.unusedVariables false
set_option linter.unusedSimpArgs false
set_option maxRecDepth 100000
namespace Go.Proofs.Ytldkifoapiianaa
open Go Go.Am Go.Proofs
noncomputable section
def ext12 : Ext := [(18, S18), (26, S26), (27, S27), (24, S24c25)]
theorem call12_18 : Callable Try.prog 18 := ⟨Try.f18, Try.func18, by kernel_rfl, by kernel_rfl⟩
theorem call12_26 : Callable Try.prog 26 := ⟨Try.f26, Try.func26, by kernel_rfl, by kernel_rfl⟩
theorem call12_27 : Callable Try.prog 27 := ⟨Try.f27, Try.func27, by kernel_rfl, by kernel_rfl⟩
theorem call12_24 : Callable Try.prog 24 := ⟨Try.f24, Try.func24, by kernel_rfl, by kernel_rfl⟩
theorem ext12Ok : ExtOk Try.prog ext12 := ⟨⟨call12_18, con18⟩, ⟨call12_26, con26⟩, ⟨call12_27, con27⟩, ⟨call12_24, con24c25⟩, trivial⟩

noncomputable def b12 : Code := bodyOf Try.f12
theorem hb12 : Try.f12.body = some b12 := by kernel_rfl
def sig12 : List AT := [AT.v (Ty.sl (Ty.int IntKind.i64)), AT.v (Ty.int IntKind.i64)]
def tys12 : List Ty := [Ty.sl Ty.str, Ty.int IntKind.i64]
def kds12 : List RK := []
def oks12 : List AT := owns sig12
def E12_5 (v6 : Int) (v22 : Int) (x0 : List Int) (x1 : Int) : Env := [(0, PV.a (Atom.sl (Ty.int IntKind.i64) x0)), (1, PV.a (Atom.val (Value.int IntKind.i64 x1))), (6, PV.a (Atom.val (Value.int IntKind.i64 v6))), (20, PV.a (Atom.sl (Ty.int IntKind.i64) x0)), (21, PV.a (Atom.val (Value.int IntKind.i64 (↑(List.length x0) : Int)))), (22, PV.a (Atom.val (Value.int IntKind.i64 v22)))]
def L12_5 (v6 : Int) (v22 : Int) (x0 : List Int) (x1 : Int) : Heap := []
def E12_11 (v32 : Int) (h0 : List ByteArray) (x1 : Int) (v6 : Int) (x0 : List Int) : Env := [(1, PV.a (Atom.val (Value.int IntKind.i64 x1))), (6, PV.a (Atom.val (Value.int IntKind.i64 v6))), (9, PV.a (Atom.osl 0 Option.none)), (30, PV.a (Atom.sl (Ty.int IntKind.i64) x0)), (31, PV.a (Atom.val (Value.int IntKind.i64 (↑(List.length x0) : Int)))), (32, PV.a (Atom.val (Value.int IntKind.i64 v32)))]
def L12_11 (v32 : Int) (h0 : List ByteArray) (x1 : Int) (v6 : Int) (x0 : List Int) : Heap := [Option.some (Arr.mk Ty.str h0 Bool.false Option.none Option.none)]
mutual
def R12 : Nat → List Int → Int → List Dyn → Prop
  | 0, _, _, _ => False
  | n + 1, x0, x1, ds => (if (g24c25_0 x0) = true then (ds = [Dyn.mk (Ty.sl Ty.str) [], Dyn.mk (Ty.int IntKind.i64) 2]) else (if (!g18_0 x1 1 100) = true then (ds = [Dyn.mk (Ty.sl Ty.str) [], Dyn.mk (Ty.int IntKind.i64) 2]) else (R12_5 n (0) (0) (x0) (x1) ds)))
def R12_5 : Nat → Int → Int → List Int → Int → List Dyn → Prop
  | 0, _, _, _, _, _ => False
  | n + 1, v6, v22, x0, x1, ds => (if (Decidable.decide (v22 < (↑(List.length x0) : Int))) = true then ((0 ≤ v22) ∧ (v22 < (↑(List.length x0) : Int)) ∧ ((InR IntKind.i64 (v22 + 1)) ∧ (R12_5 n (if v6 < List.getD x0 (Int.toNat v22) 0 then List.getD x0 (Int.toNat v22) 0 else v6) (v22 + 1) (x0) (x1) ds))) else (R12_11 n (0) ([]) (x1) (v6) (x0) ds))
def R12_11 : Nat → Int → List ByteArray → Int → Int → List Int → List Dyn → Prop
  | 0, _, _, _, _, _, _ => False
  | n + 1, v32, h0, x1, v6, x0, ds => (if (Decidable.decide (v32 < (↑(List.length x0) : Int))) = true then ((0 ≤ v32) ∧ (v32 < (↑(List.length x0) : Int)) ∧ (if (Decidable.decide (v6 > 0)) = true then ((InR IntKind.i64 (List.getD x0 (Int.toNat v32) 0 * x1)) ∧ ((v6 ≠ 0) ∧ (InR IntKind.i64 (Int.tdiv (List.getD x0 (Int.toNat v32) 0 * x1) v6)) ∧ ((P26 (ByteArray.mk #[35]) (Int.tdiv (List.getD x0 (Int.toNat v32) 0 * x1) v6)) ∧ (((List.length h0 + 1) * 16 ≤ 140737488355328) ∧ ((InR IntKind.i64 (v32 + 1)) ∧ (R12_11 n (v32 + 1) (h0 ++ [g26_0 (ByteArray.mk #[35]) (Int.tdiv (List.getD x0 (Int.toNat v32) 0 * x1) v6)]) (x1) (v6) (x0) ds)))))) else ((P26 (ByteArray.mk #[35]) 0) ∧ (((List.length h0 + 1) * 16 ≤ 140737488355328) ∧ ((InR IntKind.i64 (v32 + 1)) ∧ (R12_11 n (v32 + 1) (h0 ++ [g26_0 (ByteArray.mk #[35]) 0]) (x1) (v6) (x0) ds)))))) else (ds = [Dyn.mk (Ty.sl Ty.str) (g27_0 h0), Dyn.mk (Ty.int IntKind.i64) (g27_1 h0)]))
end
theorem snd12 : ∀ n, (∀ (x0 : List Int) (x1 : Int) ds, R12 n x0 x1 ds → ∀ K q, AtV Try.prog 12 (PostR kds12 oks12 ds [] [] q K) 53 K q [] [.code b12] (entE 0 0 sig12 (x0, x1, ())) (entL sig12 (x0, x1, ()))) ∧ (∀ (v6 : Int) (v22 : Int) (x0 : List Int) (x1 : Int) ds, R12_5 n v6 v22 x0 x1 ds → ∀ K q, AtV Try.prog 12 (PostR kds12 oks12 ds [] [] q K) 53 K q [] (cutAt b12 5) (E12_5 v6 v22 x0 x1) (L12_5 v6 v22 x0 x1)) ∧ (∀ (v32 : Int) (h0 : List ByteArray) (x1 : Int) (v6 : Int) (x0 : List Int) ds, R12_11 n v32 h0 x1 v6 x0 ds → ∀ K q, AtV Try.prog 12 (PostR kds12 oks12 ds [] [] q K) 53 K q [] (cutAt b12 11) (E12_11 v32 h0 x1 v6 x0) (L12_11 v32 h0 x1 v6 x0)) := by
  intro n
  induction n with
  | zero => exact ⟨fun _ _ _ h => by simp only [R12] at h, fun _ _ _ _ _ h => by simp only [R12_5] at h, fun _ _ _ _ _ _ h => by simp only [R12_11] at h⟩
  | succ n ih =>
  obtain ⟨ih, ih5, ih11⟩ := ih
  refine ⟨?_, ?_, ?_⟩
  · intro x0 x1 ds h K q
    rw [R12] at h
    by_cases b0 : (g24c25_0 x0) = true
    · rw [if_pos b0] at h
      subst h
      exact AtV.ret Try.func12 tabOk ext12Ok mixed false [] tys12 [true, true] (a1 trivial (a1 b0 (a1 (rfl : Bool.true = Bool.true) trivial))) (by kernel_rfl)
    · rw [if_neg b0] at h
      replace b0 := Bool.eq_false_iff.2 b0
      by_cases b1 : (!g18_0 x1 1 100) = true
      · rw [if_pos b1] at h
        subst h
        exact AtV.ret Try.func12 tabOk ext12Ok mixed false [] tys12 [false, true] (a1 trivial (a1 b0 (a1 trivial (a1 b1 trivial)))) (by kernel_rfl)
      · rw [if_neg b1] at h
        replace b1 := Bool.eq_false_iff.2 b1
        exact AtV.go tabOk ext12Ok mixed false [] [] [0, 1, 6, 20, 21, 22] [] [false, false] (a1 trivial (a1 b0 (a1 trivial (a1 b1 trivial)))) (ih5 _ _ _ _ _ h K q) (by kernel_rfl)

  · intro v6 v22 x0 x1 ds h K q
    rw [R12_5] at h
    by_cases b0 : (Decidable.decide (v22 < (↑(List.length x0) : Int))) = true
    · rw [if_pos b0] at h
      obtain ⟨s0, s1, h⟩ := h
      obtain ⟨s2, h⟩ := h
      exact AtV.go tabOk ext12Ok mixed false [] [] [0, 1, 6, 20, 21, 22] [] [true] (a1 b0 (a1 s0 (a1 s1 (a1 s2 trivial)))) (ih5 _ _ _ _ _ h K q) (by kernel_rfl)
    · rw [if_neg b0] at h
      replace b0 := Bool.eq_false_iff.2 b0
      exact AtV.go tabOk ext12Ok mixed false [] [(9, Ty.str)] [1, 6, 9, 30, 31, 32] [0] [false] (a1 b0 trivial) (ih11 _ _ _ _ _ _ h K q) (by kernel_rfl)

  · intro v32 h0 x1 v6 x0 ds h K q
    rw [R12_11] at h
    by_cases b0 : (Decidable.decide (v32 < (↑(List.length x0) : Int))) = true
    · rw [if_pos b0] at h
      obtain ⟨s0, s1, h⟩ := h
      by_cases b1 : (Decidable.decide (v6 > 0)) = true
      · rw [if_pos b1] at h
        obtain ⟨s2, h⟩ := h
        obtain ⟨s3, s4, h⟩ := h
        obtain ⟨s5, h⟩ := h
        obtain ⟨s6, h⟩ := h
        obtain ⟨s7, h⟩ := h
        exact AtV.go tabOk ext12Ok mixed false [] [(9, Ty.str)] [1, 6, 9, 30, 31, 32] [0] [true, true] (a1 b0 (a1 s0 (a1 s1 (a1 b1 (a1 s2 (a1 s3 (a1 s4 (a1 s5 (a1 s6 (a1 s7 trivial)))))))))) (ih11 _ _ _ _ _ _ h K q) (by kernel_rfl)
      · rw [if_neg b1] at h
        replace b1 := Bool.eq_false_iff.2 b1
        obtain ⟨s2, h⟩ := h
        obtain ⟨s3, h⟩ := h
        obtain ⟨s4, h⟩ := h
        exact AtV.go tabOk ext12Ok mixed false [] [(9, Ty.str)] [1, 6, 9, 30, 31, 32] [0] [true, false] (a1 b0 (a1 s0 (a1 s1 (a1 b1 (a1 s2 (a1 s3 (a1 s4 trivial))))))) (ih11 _ _ _ _ _ _ h K q) (by kernel_rfl)
    · rw [if_neg b0] at h
      replace b0 := Bool.eq_false_iff.2 b0
      subst h
      exact AtV.ret Try.func12 tabOk ext12Ok mixed false [] tys12 [false] (a1 b0 (a1 trivial trivial)) (by kernel_rfl)



def most12 (x0 : List Int) : Int := x0.foldl (fun b v => if b < v then v else b) 0
def len12 (m w v : Int) : Nat := if m > 0 then (Int.tdiv (v * w) m).toNat else 0
def bars12 (x0 : List Int) (x1 : Int) : List ByteArray := x0.map fun v => repB 35 (len12 (most12 x0) x1 v)
def bad12 (x0 : List Int) (x1 : Int) : Bool := x0.any g25_0 || !g18_0 x1 1 100
def g12_0 (x0 : List Int) (x1 : Int) : List ByteArray := if bad12 x0 x1 = true then [] else g27_0 (bars12 x0 x1)
def g12_1 (x0 : List Int) (x1 : Int) : Int := if bad12 x0 x1 = true then 2 else g27_1 (bars12 x0 x1)
def P12 (x0 : List Int) (x1 : Int) : Prop := x0.length ≤ 1048576

theorem in12 (v a b : Int) : g18_0 v a b = true ↔ a ≤ v ∧ v ≤ b := by
  unfold g18_0
  by_cases h : v ≥ a <;> simp [h] <;> omega

theorem bars12_run (x0 : List Int) (x1 m : Int) (hl : x0.length ≤ 1048576) (hv : ∀ v ∈ x0, 0 ≤ v ∧ v ≤ 1000000000000) (hw : 1 ≤ x1 ∧ x1 ≤ 100) (hm : 0 ≤ m) :
    ∃ n, R12_11 n 0 [] x1 m x0 [⟨.sl .str, g27_0 (x0.map fun v => repB 35 (len12 m x1 v))⟩, ⟨.int .i64, g27_1 (x0.map fun v => repB 35 (len12 m x1 v))⟩] := by
  have hmax : x0.length ≤ maxLen := by unfold maxLen; omega
  have key := loop_exFold (b := ([] : List ByteArray)) x0 0 (fun h v => h ++ [repB 35 (len12 m x1 v)]) (fun h => [(⟨.sl .str, g27_0 h⟩ : Dyn), ⟨.int .i64, g27_1 h⟩]) (fun i h => h.length ≤ i) (fun i h ds => ∃ n, R12_11 n i h x1 m x0 ds) (by simp) (fun h _ => ?_) (fun i h hi hh => ?_)
  · rw [foldl_snoc] at key
    simpa using key
  · refine ⟨1, ?_⟩
    rw [R12_11, if_neg (by simp)]
  · refine ⟨len_up hh, fun ds ⟨n, hr⟩ => ⟨n + 1, ?_⟩⟩
    have hx := hv _ (mem_getD x0 i 0 hi)
    have hu := inR_up hmax hi
    have h16 : (h.length + 1) * 16 ≤ 140737488355328 := by omega
    rw [R12_11, if_pos (by simp; omega)]
    simp only [Int.toNat_natCast]
    refine ⟨by omega, by omega, ?_⟩
    by_cases hpos : m > 0
    · rw [if_pos (by simpa using hpos)]
      have hp0 : 0 ≤ x0.getD i 0 * x1 := Int.mul_nonneg hx.1 (by omega)
      have hp1 : x0.getD i 0 * x1 ≤ 1000000000000 * 100 := Int.mul_le_mul hx.2 hw.2 (by omega) (by omega)
      have hq0 : 0 ≤ Int.tdiv (x0.getD i 0 * x1) m := Int.tdiv_nonneg hp0 hm
      have hq1 : Int.tdiv (x0.getD i 0 * x1) m ≤ x0.getD i 0 * x1 := Int.tdiv_le_self _ hp0
      have e : repB 35 (len12 m x1 (x0.getD i 0)) = g26_0 (ByteArray.mk #[35]) (Int.tdiv (x0.getD i 0 * x1) m) := by
        unfold len12
        rw [if_pos hpos]
        rfl
      rw [e] at hr
      refine ⟨by rw [i64_iff]; omega, by omega, by rw [i64_iff]; omega, ⟨hq0, ?_⟩, h16, hu, hr⟩
      show ((1 : Nat) : Int) * _ ≤ _
      omega
    · rw [if_neg (by simpa using hpos)]
      have e : repB 35 (len12 m x1 (x0.getD i 0)) = g26_0 (ByteArray.mk #[35]) 0 := by
        unfold len12
        rw [if_neg hpos]
        rfl
      rw [e] at hr
      exact ⟨⟨Int.le_refl _, by decide⟩, h16, hu, hr⟩

theorem top12 (x0 : List Int) (x1 : Int) (hp : P12 x0 x1) : ∃ n, R12 n x0 x1 [⟨.sl .str, g12_0 x0 x1⟩, ⟨.int .i64, g12_1 x0 x1⟩] := by
  have hl : x0.length ≤ 1048576 := hp
  have hmax : x0.length ≤ maxLen := by unfold maxLen; omega
  have hc : g24c25_0 x0 = x0.any g25_0 := any36c25 x0
  unfold g12_0 g12_1 bad12
  by_cases h1 : x0.any g25_0 = true
  · refine ⟨1, ?_⟩
    rw [R12, if_pos (by rw [hc]; exact h1)]
    simp [h1]
  · have h1' := Bool.eq_false_iff.2 h1
    by_cases h2 : g18_0 x1 1 100 = true
    · simp only [h1', h2, Bool.not_true, Bool.or_false, Bool.false_eq_true, if_false]
      have hv : ∀ v ∈ x0, 0 ≤ v ∧ v ≤ 1000000000000 := fun v hv => by
        have : g25_0 v = false := by
          rw [Bool.eq_false_iff]
          intro h
          exact h1 (List.any_eq_true.2 ⟨v, hv, h⟩)
        unfold g25_0 at this
        rw [Bool.not_eq_false'] at this
        exact (in12 _ _ _).1 this
      have first := loop_exFold (b := (0 : Int)) x0 0 (fun b v => if b < v then v else b) (fun b => [(⟨.sl .str, g27_0 (x0.map fun v => repB 35 (len12 b x1 v))⟩ : Dyn), ⟨.int .i64, g27_1 (x0.map fun v => repB 35 (len12 b x1 v))⟩])
        (fun i b => 0 ≤ b) (fun i b ds => ∃ n, R12_5 n b i x0 x1 ds) (Int.le_refl _) (fun b hb => ?_) (fun i b hi hb => ?_)
      · obtain ⟨n, hn⟩ := first
        refine ⟨n + 1, ?_⟩
        rw [R12, if_neg (by rw [hc]; exact h1), if_neg (by rw [h2]; simp)]
        exact hn
      · obtain ⟨n, hn⟩ := bars12_run x0 x1 b hl hv ((in12 _ _ _).1 h2) hb
        refine ⟨n + 1, ?_⟩
        rw [R12_5, if_neg (by simp)]
        exact hn
      · refine ⟨by split <;> omega, fun ds ⟨n, hr⟩ => ⟨n + 1, ?_⟩⟩
        rw [R12_5, if_pos (by simp; omega)]
        simp only [Int.toNat_natCast]
        exact ⟨by omega, by omega, inR_up hmax hi, hr⟩
    · refine ⟨1, ?_⟩
      rw [R12, if_neg (by rw [hc]; exact h1), if_pos (by rw [Bool.eq_false_iff.2 h2]; rfl)]
      simp [h1', Bool.eq_false_iff.2 h2]

def S12 : Am.Spec := { sig := sig12, pre := fun ⟨x0, x1, _⟩ => P12 x0 x1, res := fun ⟨x0, x1, _⟩ => [⟨.sl .str, g12_0 x0 x1⟩, ⟨.int .i64, g12_1 x0 x1⟩] }
theorem con12 : Contract Try.prog 12 S12 := contract_of Try.func12 hb12 (Nat.le_of_ble_eq_true (by kernel_rfl)) (fun ⟨x0, x1, _⟩ h hwf K q =>
  let ⟨n, hn⟩ := top12 x0 x1 h
  (snd12 n).1 x0 x1 _ hn K q)

end
end Go.Proofs.Ytldkifoapiianaa

/- A law that says how functions of the program and of the specification hang together. -/
set_option linter.unusedVariables false
set_option linter.unusedSimpArgs false
set_option maxRecDepth 100000
namespace Go.Proofs.Ytldkifoapiianaa
open Go Go.Am Go.Proofs

theorem pgs_get (L : List ByteArray) (s : Nat) (hd : ByteArray) : ∀ (k f i : Nat), i < (pgs6 L s hd k f).length → (pgs6 L s hd k f).getD i [] = hd :: (L.drop (f + i * s)).take s ∧ f + i * s < L.length ∧ (i + 1 < (pgs6 L s hd k f).length → f + (i + 1) * s < L.length)
  | 0, f, i, h => by simp [pgs6] at h
  | k + 1, f, i, h => by
    by_cases hf : f < L.length
    · have e : pgs6 L s hd (k + 1) f = (hd :: (L.drop f).take s) :: pgs6 L s hd k (f + s) := by
        conv => lhs; unfold pgs6
        rw [if_pos hf]
      rw [e] at h ⊢
      cases i with
      | zero =>
        refine ⟨by rw [Nat.zero_mul, Nat.add_zero]; rfl, by rw [Nat.zero_mul]; exact hf, fun h1 => ?_⟩
        have := (pgs_get L s hd k (f + s) 0 (by simpa using h1)).2.1
        omega
      | succ i =>
        obtain ⟨a, b, c⟩ := pgs_get L s hd k (f + s) i (by simpa using h)
        have e2 : f + (i + 1) * s = f + s + i * s := by rw [Nat.succ_mul]; omega
        have e3 : f + (i + 1 + 1) * s = f + s + (i + 1) * s := by rw [Nat.succ_mul (i + 1)]; omega
        rw [List.getD_cons_succ, e2, e3]
        exact ⟨a, b, fun h1 => c (by simpa using h1)⟩
    · have e : pgs6 L s hd (k + 1) f = [] := by
        unfold pgs6
        rw [if_neg hf]
      rw [e] at h
      simp at h

theorem pgs_end (L : List ByteArray) (s : Nat) (h1 : 1 ≤ s) (hd : ByteArray) : ∀ (k f : Nat), L.length < f + k → L.length ≤ f + (pgs6 L s hd k f).length * s
  | 0, f, h => by omega
  | k + 1, f, h => by
    by_cases hf : f < L.length
    · have e : pgs6 L s hd (k + 1) f = (hd :: (L.drop f).take s) :: pgs6 L s hd k (f + s) := by
        conv => lhs; unfold pgs6
        rw [if_pos hf]
      have ih := pgs_end L s h1 hd k (f + s) (by omega)
      rw [e, List.length_cons, Nat.succ_mul]
      omega
    · omega

theorem index_self : ∀ l : List UInt8, Lib.index l l = 0
  | [] => rfl
  | b :: l => by
    unfold Lib.index
    rw [if_pos (by rw [List.isPrefixOf_iff_prefix]; exact List.prefix_refl _)]

theorem contains_self (s : ByteArray) : g22_0 s s = true := by
  unfold g22_0 Lib.contains
  rw [index_self]
  rfl

def fndP {α : Type} (p : α → Bool) : Nat → List α → List Int
  | _, [] => []
  | k, x :: r => (if p x = true then [(k : Int)] else []) ++ fndP p (k + 1) r

theorem found_fnd {α : Type} (p : α → Bool) : ∀ (l : List α) (a : List Int) (k : Nat), (l.foldl (foundStep p) (a, k)).1 = a ++ fndP p k l
  | [], a, k => by simp [fndP]
  | x :: r, a, k => by
    have e : foundStep p (a, k) x = (if p x = true then a ++ [(k : Int)] else a, k + 1) := rfl
    have e2 : fndP p k (x :: r) = (if p x = true then [(k : Int)] else []) ++ fndP p (k + 1) r := rfl
    rw [List.foldl_cons, e, found_fnd p r _ (k + 1), e2]
    by_cases h : p x = true
    · rw [if_pos h, if_pos h, List.append_assoc]
    · rw [if_neg h, if_neg h, List.nil_append]

theorem fnd_has {α : Type} (p : α → Bool) (d : α) : ∀ (l : List α) (k j : Nat), j < l.length → p (l.getD j d) = true → ((k + j : Nat) : Int) ∈ fndP p k l
  | [], k, j, h, _ => by simp at h
  | x :: r, k, j, h, hp => by
    unfold fndP
    rw [List.mem_append]
    cases j with
    | zero =>
      rw [List.getD_cons_zero] at hp
      rw [if_pos hp]
      exact .inl (by simp)
    | succ j =>
      refine .inr ?_
      have := fnd_has p d r (k + 1) j (by simpa using h) hp
      rw [show k + (j + 1) = k + 1 + j by omega]
      exact this

theorem fnd_inc {α : Type} (p : α → Bool) : ∀ (l : List α) (k j : Nat), j < (fndP p k l).length → (k : Int) ≤ (fndP p k l).getD j 0 ∧ (fndP p k l).getD j 0 < ((k + l.length : Nat) : Int) ∧ (1 ≤ j → (fndP p k l).getD (j - 1) 0 < (fndP p k l).getD j 0)
  | [], k, j, hj => by simp [fndP] at hj
  | t :: r, k, j, hj => by
    have ih := fnd_inc p r (k + 1)
    unfold fndP at hj ⊢
    cases hh : p t with
    | false =>
      rw [hh] at hj
      simp only [Bool.false_eq_true, if_false, List.nil_append, List.length_cons] at hj ⊢
      obtain ⟨a, b, c⟩ := ih j hj
      exact ⟨by omega, by omega, c⟩
    | true =>
      rw [hh] at hj
      simp only [if_true, List.cons_append, List.nil_append, List.length_cons] at hj ⊢
      cases j with
      | zero => exact ⟨by rw [List.getD_cons_zero]; omega, by rw [List.getD_cons_zero]; omega, fun h => absurd h (by decide)⟩
      | succ j =>
        obtain ⟨a, b, c⟩ := ih j (by omega)
        rw [List.getD_cons_succ]
        refine ⟨by omega, by omega, fun _ => ?_⟩
        rw [Nat.add_sub_cancel]
        cases j with
        | zero => rw [List.getD_cons_zero]; omega
        | succ j => rw [List.getD_cons_succ]; exact c (by omega)

theorem allI_ofP {p : Nat → Int → Bool} : ∀ (l : List Int) (k : Nat), (∀ i, i < l.length → p (k + i) (l.getD i 0) = true) → allI p k l = true
  | [], _, _ => rfl
  | x :: r, k, h => by
    rw [allI, Bool.and_eq_true]
    refine ⟨h 0 (by simp), allI_ofP r (k + 1) fun i hi => ?_⟩
    have := h (i + 1) (by simpa using hi)
    rw [List.getD_cons_succ, show k + (i + 1) = k + 1 + i by omega] at this
    exact this

theorem find_law (l : List ByteArray) (w : ByteArray) (h : g8_1 l w = 0) : g9_0 (g8_0 l w) (l.length : Int) = true ∧ ∀ j, j < l.length → l.getD j ByteArray.empty = w → g10_0 (g8_0 l w) (j : Int) = true := by
  unfold g8_1 at h
  unfold g8_0
  split at h
  case isFalse => exact absurd h (by decide)
  rename_i h1
  rw [if_pos h1]
  split at h
  · exact absurd h (by decide)
  rename_i h2
  rw [if_neg h2]
  have e : found (fun s => g22_0 s w) l = fndP (fun s => g22_0 s w) 0 l := by
    unfold found
    rw [found_fnd]
    rfl
  rw [e]
  constructor
  · unfold g9_0
    refine allI_ofP _ 0 fun i hi => ?_
    obtain ⟨a, b, c⟩ := fnd_inc _ l 0 i hi
    rw [Nat.zero_add] at b ⊢
    unfold ok9
    have c1 : decide ((fndP (fun s => g22_0 s w) 0 l).getD i 0 < 0) = false := decide_eq_false (by omega)
    have c2 : decide ((fndP (fun s => g22_0 s w) 0 l).getD i 0 ≥ (l.length : Int)) = false := decide_eq_false (by omega)
    rw [c1, c2]
    cases i with
    | zero => rfl
    | succ i =>
      have c3 : decide ((fndP (fun s => g22_0 s w) 0 l).getD (i + 1 - 1) 0 ≥ (fndP (fun s => g22_0 s w) 0 l).getD (i + 1) 0) = false := decide_eq_false (by have := c (by omega); omega)
      rw [c3]
      rfl
  · intro j hj hw
    unfold g10_0
    rw [List.any_eq_true]
    have := fnd_has (fun s => g22_0 s w) ByteArray.empty l 0 j hj (by rw [hw]; exact contains_self w)
    rw [Nat.zero_add] at this
    exact ⟨_, this, by simp⟩

theorem most_ge : ∀ (l : List Int) (b : Int), b ≤ l.foldl (fun b v => if b < v then v else b) b ∧ ∀ v ∈ l, v ≤ l.foldl (fun b v => if b < v then v else b) b
  | [], b => ⟨Int.le_refl _, fun v hv => by cases hv⟩
  | x :: r, b => by
    rw [List.foldl_cons]
    obtain ⟨a, c⟩ := most_ge r (if b < x then x else b)
    have hx : b ≤ (if b < x then x else b) ∧ x ≤ (if b < x then x else b) := by split <;> omega
    refine ⟨by omega, fun v hv => ?_⟩
    rcases List.mem_cons.1 hv with rfl | hv
    · omega
    · exact c v hv

theorem bars_law (l : List Int) (w : Int) : (g12_1 l w ≠ 0 → g12_0 l w = []) ∧ (g12_1 l w = 0 → (g12_0 l w).length = l.length ∧ ∀ i, i < l.length → ((((g12_0 l w).getD i ByteArray.empty).size : Nat) : Int) ≤ w ∧ ∀ k, k < l.length → l.getD i 0 ≤ l.getD k 0 → ((g12_0 l w).getD i ByteArray.empty).size ≤ ((g12_0 l w).getD k ByteArray.empty).size) := by
  unfold g12_0 g12_1
  by_cases hb : bad12 l w = true
  · rw [if_pos hb, if_pos hb]
    exact ⟨fun _ => rfl, fun h => absurd h (by decide)⟩
  · rw [if_neg hb, if_neg hb]
    unfold g27_0 g27_1
    by_cases hv : (!g17_0 (bars12 l w)) = true
    · rw [if_pos hv, if_pos hv]
      exact ⟨fun _ => rfl, fun h => absurd h (by decide)⟩
    · rw [if_neg hv, if_neg hv]
      refine ⟨fun h => absurd rfl h, fun _ => ?_⟩
      have hb := Bool.eq_false_iff.2 hb
      unfold bad12 at hb
      rw [Bool.or_eq_false_iff] at hb
      obtain ⟨b1, b2⟩ := hb
      have hw : 1 ≤ w ∧ w ≤ 100 := (in12 w 1 100).1 (by simpa using b2)
      have hl : ∀ v ∈ l, 0 ≤ v ∧ v ≤ 1000000000000 := fun v hv => by
        rw [List.any_eq_false] at b1
        have := b1 v hv
        unfold g25_0 at this
        exact (in12 v 0 1000000000000).1 (by simpa using this)
      have hmost := (most_ge l 0).2
      have hm0 := (most_ge l 0).1
      have hget : ∀ i, i < l.length → ((bars12 l w).getD i ByteArray.empty).size = len12 (most12 l) w (l.getD i 0) := fun i hi => by
        unfold bars12
        rw [List.getD_eq_getElem?_getD, List.getElem?_map, List.getD_eq_getElem?_getD, List.getElem?_eq_getElem hi]
        exact repB_size _ _
      have hM : ∀ v ∈ l, v ≤ most12 l := hmost
      have hM0 : 0 ≤ most12 l := hm0
      refine ⟨by unfold bars12; rw [List.length_map], fun i hi => ?_⟩
      have mi := mem_getD l i 0 hi
      have li := hl _ mi
      have Mi := hM _ mi
      rw [hget i hi]
      generalize most12 l = M at *
      generalize l.getD i 0 = x at *
      have hx0 : 0 ≤ x * w := Int.mul_nonneg li.1 (by omega)
      refine ⟨?_, fun k hk hle => ?_⟩
      · unfold len12
        split
        · rename_i hp
          rw [Int.tdiv_eq_ediv_of_nonneg hx0]
          have h1 : x * w ≤ M * w := Int.mul_le_mul_of_nonneg_right Mi (by omega)
          have h2 : x * w / M ≤ w := by
            have := Int.ediv_le_ediv hp h1
            rw [Int.mul_ediv_cancel_left w (by omega)] at this
            exact this
          have h3 : 0 ≤ x * w / M := Int.ediv_nonneg hx0 hM0
          omega
        · omega
      · rw [hget k hk]
        have mk := mem_getD l k 0 hk
        have lk := hl _ mk
        generalize l.getD k 0 = y at *
        have hy0 : 0 ≤ y * w := Int.mul_nonneg lk.1 (by omega)
        unfold len12
        split
        · rename_i hp
          rw [Int.tdiv_eq_ediv_of_nonneg hx0, Int.tdiv_eq_ediv_of_nonneg hy0]
          have h1 : x * w ≤ y * w := Int.mul_le_mul_of_nonneg_right hle (by omega)
          have h2 := Int.ediv_le_ediv hp h1
          have h3 : 0 ≤ x * w / M := Int.ediv_nonneg hx0 hM0
          omega
        · exact Nat.le_refl _

end Go.Proofs.Ytldkifoapiianaa

/- Function 3 (laws.FnPages): its runs between cut points. Written by a program of this repo (gen). -/
set_option linter.unusedVariables false
set_option linter.unusedSimpArgs false
set_option maxRecDepth 100000
namespace Go.Proofs.Ytldkifoapiianaa
open Go Go.Am Go.Proofs
noncomputable section
def ext3 : Ext := [(4, S4), (5, S5), (6, S6), (7, S7), (8, S8), (9, S9), (10, S10), (11, S11), (12, S12)]
theorem call3_4 : Callable Try.prog 4 := ⟨Try.f4, Try.func4, by kernel_rfl, by kernel_rfl⟩
theorem call3_5 : Callable Try.prog 5 := ⟨Try.f5, Try.func5, by kernel_rfl, by kernel_rfl⟩
theorem call3_6 : Callable Try.prog 6 := ⟨Try.f6, Try.func6, by kernel_rfl, by kernel_rfl⟩
theorem call3_7 : Callable Try.prog 7 := ⟨Try.f7, Try.func7, by kernel_rfl, by kernel_rfl⟩
theorem call3_8 : Callable Try.prog 8 := ⟨Try.f8, Try.func8, by kernel_rfl, by kernel_rfl⟩
theorem call3_9 : Callable Try.prog 9 := ⟨Try.f9, Try.func9, by kernel_rfl, by kernel_rfl⟩
theorem call3_10 : Callable Try.prog 10 := ⟨Try.f10, Try.func10, by kernel_rfl, by kernel_rfl⟩
theorem call3_11 : Callable Try.prog 11 := ⟨Try.f11, Try.func11, by kernel_rfl, by kernel_rfl⟩
theorem call3_12 : Callable Try.prog 12 := ⟨Try.f12, Try.func12, by kernel_rfl, by kernel_rfl⟩
theorem ext3Ok : ExtOk Try.prog ext3 := ⟨⟨call3_4, con4⟩, ⟨call3_5, con5⟩, ⟨call3_6, con6⟩, ⟨call3_7, con7⟩, ⟨call3_8, con8⟩, ⟨call3_9, con9⟩, ⟨call3_10, con10⟩, ⟨call3_11, con11⟩, ⟨call3_12, con12⟩, trivial⟩

noncomputable def b3 : Code := bodyOf Try.f3
theorem hb3 : Try.f3.body = some b3 := by kernel_rfl
def sig3 : List AT := [AT.v (Ty.sl (Ty.int IntKind.u8)), AT.v (Ty.sl (Ty.int IntKind.u8))]
def tys3 : List Ty := [Ty.bool]
def kds3 : List RK := []
def oks3 : List AT := owns sig3
def E3_3 (x0 : List Int) (x1 : List Int) : Env := [(0, PV.a (Atom.sl (Ty.int IntKind.u8) x0)), (1, PV.a (Atom.sl (Ty.int IntKind.u8) x1))]
def L3_3 (x0 : List Int) (x1 : List Int) : Heap := []
def E3_8 (v10 : Int) (v11 : Int) (x0 : List Int) (x1 : List Int) : Env := [(0, PV.a (Atom.sl (Ty.int IntKind.u8) x0)), (1, PV.a (Atom.sl (Ty.int IntKind.u8) x1)), (5, PV.a (Atom.sl Ty.str (g5_0 x0))), (6, PV.a (Atom.val (Value.int IntKind.i64 (g5_1 x0)))), (7, PV.a (Atom.val (Value.string (g5_2 x0)))), (8, PV.a (Atom.sl (Ty.sl Ty.str) (g6_0 (g5_0 x0) (g5_1 x0) (g5_2 x0)))), (10, PV.a (Atom.val (Value.int IntKind.i64 v10))), (11, PV.a (Atom.val (Value.int IntKind.i64 v11)))]
def L3_8 (v10 : Int) (v11 : Int) (x0 : List Int) (x1 : List Int) : Heap := []
def E3_20 (x0 : List Int) (x1 : List Int) : Env := [(0, PV.a (Atom.sl (Ty.int IntKind.u8) x0)), (1, PV.a (Atom.sl (Ty.int IntKind.u8) x1))]
def L3_20 (x0 : List Int) (x1 : List Int) : Heap := []
def E3_10 (x0 : List Int) (x1 : List Int) (v10 : Int) (v11 : Int) : Env := [(0, PV.a (Atom.sl (Ty.int IntKind.u8) x0)), (1, PV.a (Atom.sl (Ty.int IntKind.u8) x1)), (5, PV.a (Atom.sl Ty.str (g5_0 x0))), (6, PV.a (Atom.val (Value.int IntKind.i64 (g5_1 x0)))), (7, PV.a (Atom.val (Value.string (g5_2 x0)))), (8, PV.a (Atom.sl (Ty.sl Ty.str) (g6_0 (g5_0 x0) (g5_1 x0) (g5_2 x0)))), (10, PV.a (Atom.val (Value.int IntKind.i64 v10))), (11, PV.a (Atom.val (Value.int IntKind.i64 v11)))]
def L3_10 (x0 : List Int) (x1 : List Int) (v10 : Int) (v11 : Int) : Heap := []
def E3_25 (x0 : List Int) (x1 : List Int) : Env := [(0, PV.a (Atom.sl (Ty.int IntKind.u8) x0)), (13, PV.a (Atom.osl 0 Option.none)), (14, PV.a (Atom.val (Value.string (g7_1 x1)))), (15, PV.a (Atom.osl 1 Option.none))]
def L3_25 (x0 : List Int) (x1 : List Int) : Heap := [Option.some (Arr.mk Ty.str (g7_0 x1) Bool.false Option.none Option.none), Option.some (Arr.mk (Ty.int IntKind.i64) (g8_0 (g7_0 x1) (g7_1 x1)) Bool.false Option.none Option.none)]
def E3_30 (x0 : List Int) : Env := [(0, PV.a (Atom.sl (Ty.int IntKind.u8) x0))]
def L3_30 (x0 : List Int) : Heap := []
def E3_12 (v90 : Bool) (x0 : List Int) (x1 : List Int) (v10 : Int) (v11 : Int) : Env := [(0, PV.a (Atom.sl (Ty.int IntKind.u8) x0)), (1, PV.a (Atom.sl (Ty.int IntKind.u8) x1)), (5, PV.a (Atom.sl Ty.str (g5_0 x0))), (6, PV.a (Atom.val (Value.int IntKind.i64 (g5_1 x0)))), (7, PV.a (Atom.val (Value.string (g5_2 x0)))), (8, PV.a (Atom.sl (Ty.sl Ty.str) (g6_0 (g5_0 x0) (g5_1 x0) (g5_2 x0)))), (10, PV.a (Atom.val (Value.int IntKind.i64 v10))), (11, PV.a (Atom.val (Value.int IntKind.i64 v11))), (58, PV.a (Atom.sl (Ty.sl Ty.str) (g6_0 (g5_0 x0) (g5_1 x0) (g5_2 x0)))), (59, PV.a (Atom.val (Value.int IntKind.i64 v11))), (60, PV.a (Atom.ptr (Ty.sl Ty.str) (List.getD (g6_0 (g5_0 x0) (g5_1 x0) (g5_2 x0)) (Int.toNat v11) []))), (61, PV.a (Atom.sl Ty.str (List.getD (g6_0 (g5_0 x0) (g5_1 x0) (g5_2 x0)) (Int.toNat v11) []))), (62, PV.a (Atom.val (Value.int IntKind.i64 (↑(List.length (List.getD (g6_0 (g5_0 x0) (g5_1 x0) (g5_2 x0)) (Int.toNat v11) [])) : Int)))), (63, PV.a (Atom.val (Value.int IntKind.i64 (g5_1 x0)))), (64, PV.a (Atom.val (Value.bool (Decidable.decide ((↑(List.length (List.getD (g6_0 (g5_0 x0) (g5_1 x0) (g5_2 x0)) (Int.toNat v11) [])) : Int) > g5_1 x0))))), (67, PV.a (Atom.sl (Ty.sl Ty.str) (g6_0 (g5_0 x0) (g5_1 x0) (g5_2 x0)))), (68, PV.a (Atom.val (Value.int IntKind.i64 v11))), (69, PV.a (Atom.ptr (Ty.sl Ty.str) (List.getD (g6_0 (g5_0 x0) (g5_1 x0) (g5_2 x0)) (Int.toNat v11) []))), (70, PV.a (Atom.sl Ty.str (List.getD (g6_0 (g5_0 x0) (g5_1 x0) (g5_2 x0)) (Int.toNat v11) []))), (71, PV.a (Atom.ptr Ty.str (List.getD (List.getD (g6_0 (g5_0 x0) (g5_1 x0) (g5_2 x0)) (Int.toNat v11) []) 0 ByteArray.empty))), (72, PV.a (Atom.val (Value.string (List.getD (List.getD (g6_0 (g5_0 x0) (g5_1 x0) (g5_2 x0)) (Int.toNat v11) []) 0 ByteArray.empty)))), (73, PV.a (Atom.val (Value.string (g5_2 x0)))), (74, PV.a (Atom.val (Value.bool !ByteArray.toList (List.getD (List.getD (g6_0 (g5_0 x0) (g5_1 x0) (g5_2 x0)) (Int.toNat v11) []) 0 ByteArray.empty) == ByteArray.toList (g5_2 x0)))), (77, PV.a (Atom.val (Value.int IntKind.i64 v11))), (78, PV.a (Atom.val (Value.int IntKind.i64 (v11 + 1)))), (79, PV.a (Atom.sl (Ty.sl Ty.str) (g6_0 (g5_0 x0) (g5_1 x0) (g5_2 x0)))), (80, PV.a (Atom.val (Value.int IntKind.i64 (↑(List.length (g6_0 (g5_0 x0) (g5_1 x0) (g5_2 x0))) : Int)))), (81, PV.a (Atom.val (Value.bool (Decidable.decide (v11 + 1 < (↑(List.length (g6_0 (g5_0 x0) (g5_1 x0) (g5_2 x0))) : Int)))))), (82, PV.a (Atom.val (Value.bool (Decidable.decide (v11 + 1 < (↑(List.length (g6_0 (g5_0 x0) (g5_1 x0) (g5_2 x0))) : Int)))))), (90, PV.a (Atom.val (Value.bool v90)))]
def L3_12 (v90 : Bool) (x0 : List Int) (x1 : List Int) (v10 : Int) (v11 : Int) : Heap := []
def E3_26 (v17 : Int) (x0 : List Int) (x1 : List Int) : Env := [(0, PV.a (Atom.sl (Ty.int IntKind.u8) x0)), (13, PV.a (Atom.osl 0 Option.none)), (14, PV.a (Atom.val (Value.string (g7_1 x1)))), (15, PV.a (Atom.osl 1 Option.none)), (17, PV.a (Atom.val (Value.int IntKind.i64 v17)))]
def L3_26 (v17 : Int) (x0 : List Int) (x1 : List Int) : Heap := [Option.some (Arr.mk Ty.str (g7_0 x1) Bool.false Option.none Option.none), Option.some (Arr.mk (Ty.int IntKind.i64) (g8_0 (g7_0 x1) (g7_1 x1)) Bool.false Option.none Option.none)]
def E3_34 (x0 : List Int) : Env := [(18, PV.a (Atom.osl 0 Option.none)), (19, PV.a (Atom.val (Value.int IntKind.i64 (g11_1 x0)))), (20, PV.a (Atom.osl 1 Option.none))]
def L3_34 (x0 : List Int) : Heap := [Option.some (Arr.mk (Ty.int IntKind.i64) (g11_0 x0) Bool.false Option.none Option.none), Option.some (Arr.mk Ty.str (g12_0 (g11_0 x0) (g11_1 x0)) Bool.false Option.none Option.none)]
def E3_13 (v10 : Int) (v12 : Int) (x0 : List Int) (x1 : List Int) (v11 : Int) (v90 : Bool) : Env := [(0, PV.a (Atom.sl (Ty.int IntKind.u8) x0)), (1, PV.a (Atom.sl (Ty.int IntKind.u8) x1)), (5, PV.a (Atom.sl Ty.str (g5_0 x0))), (6, PV.a (Atom.val (Value.int IntKind.i64 (g5_1 x0)))), (7, PV.a (Atom.val (Value.string (g5_2 x0)))), (8, PV.a (Atom.sl (Ty.sl Ty.str) (g6_0 (g5_0 x0) (g5_1 x0) (g5_2 x0)))), (10, PV.a (Atom.val (Value.int IntKind.i64 v10))), (11, PV.a (Atom.val (Value.int IntKind.i64 v11))), (12, PV.a (Atom.val (Value.int IntKind.i64 v12))), (58, PV.a (Atom.sl (Ty.sl Ty.str) (g6_0 (g5_0 x0) (g5_1 x0) (g5_2 x0)))), (59, PV.a (Atom.val (Value.int IntKind.i64 v11))), (60, PV.a (Atom.ptr (Ty.sl Ty.str) (List.getD (g6_0 (g5_0 x0) (g5_1 x0) (g5_2 x0)) (Int.toNat v11) []))), (61, PV.a (Atom.sl Ty.str (List.getD (g6_0 (g5_0 x0) (g5_1 x0) (g5_2 x0)) (Int.toNat v11) []))), (62, PV.a (Atom.val (Value.int IntKind.i64 (↑(List.length (List.getD (g6_0 (g5_0 x0) (g5_1 x0) (g5_2 x0)) (Int.toNat v11) [])) : Int)))), (63, PV.a (Atom.val (Value.int IntKind.i64 (g5_1 x0)))), (64, PV.a (Atom.val (Value.bool (Decidable.decide ((↑(List.length (List.getD (g6_0 (g5_0 x0) (g5_1 x0) (g5_2 x0)) (Int.toNat v11) [])) : Int) > g5_1 x0))))), (67, PV.a (Atom.sl (Ty.sl Ty.str) (g6_0 (g5_0 x0) (g5_1 x0) (g5_2 x0)))), (68, PV.a (Atom.val (Value.int IntKind.i64 v11))), (69, PV.a (Atom.ptr (Ty.sl Ty.str) (List.getD (g6_0 (g5_0 x0) (g5_1 x0) (g5_2 x0)) (Int.toNat v11) []))), (70, PV.a (Atom.sl Ty.str (List.getD (g6_0 (g5_0 x0) (g5_1 x0) (g5_2 x0)) (Int.toNat v11) []))), (71, PV.a (Atom.ptr Ty.str (List.getD (List.getD (g6_0 (g5_0 x0) (g5_1 x0) (g5_2 x0)) (Int.toNat v11) []) 0 ByteArray.empty))), (72, PV.a (Atom.val (Value.string (List.getD (List.getD (g6_0 (g5_0 x0) (g5_1 x0) (g5_2 x0)) (Int.toNat v11) []) 0 ByteArray.empty)))), (73, PV.a (Atom.val (Value.string (g5_2 x0)))), (74, PV.a (Atom.val (Value.bool !ByteArray.toList (List.getD (List.getD (g6_0 (g5_0 x0) (g5_1 x0) (g5_2 x0)) (Int.toNat v11) []) 0 ByteArray.empty) == ByteArray.toList (g5_2 x0)))), (77, PV.a (Atom.val (Value.int IntKind.i64 v11))), (78, PV.a (Atom.val (Value.int IntKind.i64 (v11 + 1)))), (79, PV.a (Atom.sl (Ty.sl Ty.str) (g6_0 (g5_0 x0) (g5_1 x0) (g5_2 x0)))), (80, PV.a (Atom.val (Value.int IntKind.i64 (↑(List.length (g6_0 (g5_0 x0) (g5_1 x0) (g5_2 x0))) : Int)))), (81, PV.a (Atom.val (Value.bool (Decidable.decide (v11 + 1 < (↑(List.length (g6_0 (g5_0 x0) (g5_1 x0) (g5_2 x0))) : Int)))))), (82, PV.a (Atom.val (Value.bool (Decidable.decide (v11 + 1 < (↑(List.length (g6_0 (g5_0 x0) (g5_1 x0) (g5_2 x0))) : Int)))))), (90, PV.a (Atom.val (Value.bool v90)))]
def L3_13 (v10 : Int) (v12 : Int) (x0 : List Int) (x1 : List Int) (v11 : Int) (v90 : Bool) : Heap := []
def E3_28 (x0 : List Int) (x1 : List Int) (v17 : Int) : Env := [(0, PV.a (Atom.sl (Ty.int IntKind.u8) x0)), (13, PV.a (Atom.osl 0 Option.none)), (14, PV.a (Atom.val (Value.string (g7_1 x1)))), (15, PV.a (Atom.osl 1 Option.none)), (17, PV.a (Atom.val (Value.int IntKind.i64 v17)))]
def L3_28 (x0 : List Int) (x1 : List Int) (v17 : Int) : Heap := [Option.some (Arr.mk Ty.str (g7_0 x1) Bool.false Option.none Option.none), Option.some (Arr.mk (Ty.int IntKind.i64) (g8_0 (g7_0 x1) (g7_1 x1)) Bool.false Option.none Option.none)]
def E3_36 (x0 : List Int) : Env := [(18, PV.a (Atom.osl 0 Option.none)), (19, PV.a (Atom.val (Value.int IntKind.i64 (g11_1 x0)))), (20, PV.a (Atom.osl 1 Option.none))]
def L3_36 (x0 : List Int) : Heap := [Option.some (Arr.mk (Ty.int IntKind.i64) (g11_0 x0) Bool.false Option.none Option.none), Option.some (Arr.mk Ty.str (g12_0 (g11_0 x0) (g11_1 x0)) Bool.false Option.none Option.none)]
def E3_15 (x0 : List Int) (x1 : List Int) (v10 : Int) (v11 : Int) (v12 : Int) (v90 : Bool) : Env := [(0, PV.a (Atom.sl (Ty.int IntKind.u8) x0)), (1, PV.a (Atom.sl (Ty.int IntKind.u8) x1)), (5, PV.a (Atom.sl Ty.str (g5_0 x0))), (6, PV.a (Atom.val (Value.int IntKind.i64 (g5_1 x0)))), (7, PV.a (Atom.val (Value.string (g5_2 x0)))), (8, PV.a (Atom.sl (Ty.sl Ty.str) (g6_0 (g5_0 x0) (g5_1 x0) (g5_2 x0)))), (10, PV.a (Atom.val (Value.int IntKind.i64 v10))), (11, PV.a (Atom.val (Value.int IntKind.i64 v11))), (12, PV.a (Atom.val (Value.int IntKind.i64 v12))), (58, PV.a (Atom.sl (Ty.sl Ty.str) (g6_0 (g5_0 x0) (g5_1 x0) (g5_2 x0)))), (59, PV.a (Atom.val (Value.int IntKind.i64 v11))), (60, PV.a (Atom.ptr (Ty.sl Ty.str) (List.getD (g6_0 (g5_0 x0) (g5_1 x0) (g5_2 x0)) (Int.toNat v11) []))), (61, PV.a (Atom.sl Ty.str (List.getD (g6_0 (g5_0 x0) (g5_1 x0) (g5_2 x0)) (Int.toNat v11) []))), (62, PV.a (Atom.val (Value.int IntKind.i64 (↑(List.length (List.getD (g6_0 (g5_0 x0) (g5_1 x0) (g5_2 x0)) (Int.toNat v11) [])) : Int)))), (63, PV.a (Atom.val (Value.int IntKind.i64 (g5_1 x0)))), (64, PV.a (Atom.val (Value.bool (Decidable.decide ((↑(List.length (List.getD (g6_0 (g5_0 x0) (g5_1 x0) (g5_2 x0)) (Int.toNat v11) [])) : Int) > g5_1 x0))))), (67, PV.a (Atom.sl (Ty.sl Ty.str) (g6_0 (g5_0 x0) (g5_1 x0) (g5_2 x0)))), (68, PV.a (Atom.val (Value.int IntKind.i64 v11))), (69, PV.a (Atom.ptr (Ty.sl Ty.str) (List.getD (g6_0 (g5_0 x0) (g5_1 x0) (g5_2 x0)) (Int.toNat v11) []))), (70, PV.a (Atom.sl Ty.str (List.getD (g6_0 (g5_0 x0) (g5_1 x0) (g5_2 x0)) (Int.toNat v11) []))), (71, PV.a (Atom.ptr Ty.str (List.getD (List.getD (g6_0 (g5_0 x0) (g5_1 x0) (g5_2 x0)) (Int.toNat v11) []) 0 ByteArray.empty))), (72, PV.a (Atom.val (Value.string (List.getD (List.getD (g6_0 (g5_0 x0) (g5_1 x0) (g5_2 x0)) (Int.toNat v11) []) 0 ByteArray.empty)))), (73, PV.a (Atom.val (Value.string (g5_2 x0)))), (74, PV.a (Atom.val (Value.bool !ByteArray.toList (List.getD (List.getD (g6_0 (g5_0 x0) (g5_1 x0) (g5_2 x0)) (Int.toNat v11) []) 0 ByteArray.empty) == ByteArray.toList (g5_2 x0)))), (77, PV.a (Atom.val (Value.int IntKind.i64 v11))), (78, PV.a (Atom.val (Value.int IntKind.i64 (v11 + 1)))), (79, PV.a (Atom.sl (Ty.sl Ty.str) (g6_0 (g5_0 x0) (g5_1 x0) (g5_2 x0)))), (80, PV.a (Atom.val (Value.int IntKind.i64 (↑(List.length (g6_0 (g5_0 x0) (g5_1 x0) (g5_2 x0))) : Int)))), (81, PV.a (Atom.val (Value.bool (Decidable.decide (v11 + 1 < (↑(List.length (g6_0 (g5_0 x0) (g5_1 x0) (g5_2 x0))) : Int)))))), (82, PV.a (Atom.val (Value.bool (Decidable.decide (v11 + 1 < (↑(List.length (g6_0 (g5_0 x0) (g5_1 x0) (g5_2 x0))) : Int)))))), (90, PV.a (Atom.val (Value.bool v90)))]
def L3_15 (x0 : List Int) (x1 : List Int) (v10 : Int) (v11 : Int) (v12 : Int) (v90 : Bool) : Heap := []
def E3_9 (x0 : List Int) (x1 : List Int) (v10 : Int) (v11 : Int) (v90 : Bool) : Env := [(0, PV.a (Atom.sl (Ty.int IntKind.u8) x0)), (1, PV.a (Atom.sl (Ty.int IntKind.u8) x1)), (5, PV.a (Atom.sl Ty.str (g5_0 x0))), (6, PV.a (Atom.val (Value.int IntKind.i64 (g5_1 x0)))), (7, PV.a (Atom.val (Value.string (g5_2 x0)))), (8, PV.a (Atom.sl (Ty.sl Ty.str) (g6_0 (g5_0 x0) (g5_1 x0) (g5_2 x0)))), (10, PV.a (Atom.val (Value.int IntKind.i64 v10))), (11, PV.a (Atom.val (Value.int IntKind.i64 v11))), (58, PV.a (Atom.sl (Ty.sl Ty.str) (g6_0 (g5_0 x0) (g5_1 x0) (g5_2 x0)))), (59, PV.a (Atom.val (Value.int IntKind.i64 v11))), (60, PV.a (Atom.ptr (Ty.sl Ty.str) (List.getD (g6_0 (g5_0 x0) (g5_1 x0) (g5_2 x0)) (Int.toNat v11) []))), (61, PV.a (Atom.sl Ty.str (List.getD (g6_0 (g5_0 x0) (g5_1 x0) (g5_2 x0)) (Int.toNat v11) []))), (62, PV.a (Atom.val (Value.int IntKind.i64 (↑(List.length (List.getD (g6_0 (g5_0 x0) (g5_1 x0) (g5_2 x0)) (Int.toNat v11) [])) : Int)))), (63, PV.a (Atom.val (Value.int IntKind.i64 (g5_1 x0)))), (64, PV.a (Atom.val (Value.bool (Decidable.decide ((↑(List.length (List.getD (g6_0 (g5_0 x0) (g5_1 x0) (g5_2 x0)) (Int.toNat v11) [])) : Int) > g5_1 x0))))), (67, PV.a (Atom.sl (Ty.sl Ty.str) (g6_0 (g5_0 x0) (g5_1 x0) (g5_2 x0)))), (68, PV.a (Atom.val (Value.int IntKind.i64 v11))), (69, PV.a (Atom.ptr (Ty.sl Ty.str) (List.getD (g6_0 (g5_0 x0) (g5_1 x0) (g5_2 x0)) (Int.toNat v11) []))), (70, PV.a (Atom.sl Ty.str (List.getD (g6_0 (g5_0 x0) (g5_1 x0) (g5_2 x0)) (Int.toNat v11) []))), (71, PV.a (Atom.ptr Ty.str (List.getD (List.getD (g6_0 (g5_0 x0) (g5_1 x0) (g5_2 x0)) (Int.toNat v11) []) 0 ByteArray.empty))), (72, PV.a (Atom.val (Value.string (List.getD (List.getD (g6_0 (g5_0 x0) (g5_1 x0) (g5_2 x0)) (Int.toNat v11) []) 0 ByteArray.empty)))), (73, PV.a (Atom.val (Value.string (g5_2 x0)))), (74, PV.a (Atom.val (Value.bool !ByteArray.toList (List.getD (List.getD (g6_0 (g5_0 x0) (g5_1 x0) (g5_2 x0)) (Int.toNat v11) []) 0 ByteArray.empty) == ByteArray.toList (g5_2 x0)))), (77, PV.a (Atom.val (Value.int IntKind.i64 v11))), (78, PV.a (Atom.val (Value.int IntKind.i64 (v11 + 1)))), (79, PV.a (Atom.sl (Ty.sl Ty.str) (g6_0 (g5_0 x0) (g5_1 x0) (g5_2 x0)))), (80, PV.a (Atom.val (Value.int IntKind.i64 (↑(List.length (g6_0 (g5_0 x0) (g5_1 x0) (g5_2 x0))) : Int)))), (81, PV.a (Atom.val (Value.bool (Decidable.decide (v11 + 1 < (↑(List.length (g6_0 (g5_0 x0) (g5_1 x0) (g5_2 x0))) : Int)))))), (82, PV.a (Atom.val (Value.bool (Decidable.decide (v11 + 1 < (↑(List.length (g6_0 (g5_0 x0) (g5_1 x0) (g5_2 x0))) : Int)))))), (90, PV.a (Atom.val (Value.bool v90)))]
def L3_9 (x0 : List Int) (x1 : List Int) (v10 : Int) (v11 : Int) (v90 : Bool) : Heap := []
def E3_27 (x0 : List Int) (x1 : List Int) (v17 : Int) : Env := [(0, PV.a (Atom.sl (Ty.int IntKind.u8) x0)), (13, PV.a (Atom.osl 0 Option.none)), (14, PV.a (Atom.val (Value.string (g7_1 x1)))), (15, PV.a (Atom.osl 1 Option.none)), (17, PV.a (Atom.val (Value.int IntKind.i64 v17)))]
def L3_27 (x0 : List Int) (x1 : List Int) (v17 : Int) : Heap := [Option.some (Arr.mk Ty.str (g7_0 x1) Bool.false Option.none Option.none), Option.some (Arr.mk (Ty.int IntKind.i64) (g8_0 (g7_0 x1) (g7_1 x1)) Bool.false Option.none Option.none)]
def E3_37 (v22 : Int) (x0 : List Int) : Env := [(18, PV.a (Atom.osl 0 Option.none)), (19, PV.a (Atom.val (Value.int IntKind.i64 (g11_1 x0)))), (20, PV.a (Atom.osl 1 Option.none)), (22, PV.a (Atom.val (Value.int IntKind.i64 v22)))]
def L3_37 (v22 : Int) (x0 : List Int) : Heap := [Option.some (Arr.mk (Ty.int IntKind.i64) (g11_0 x0) Bool.false Option.none Option.none), Option.some (Arr.mk Ty.str (g12_0 (g11_0 x0) (g11_1 x0)) Bool.false Option.none Option.none)]
def E3_17 (x0 : List Int) (x1 : List Int) (v10 : Int) (v11 : Int) (v12 : Int) (v90 : Bool) : Env := [(0, PV.a (Atom.sl (Ty.int IntKind.u8) x0)), (1, PV.a (Atom.sl (Ty.int IntKind.u8) x1)), (5, PV.a (Atom.sl Ty.str (g5_0 x0))), (6, PV.a (Atom.val (Value.int IntKind.i64 (g5_1 x0)))), (7, PV.a (Atom.val (Value.string (g5_2 x0)))), (8, PV.a (Atom.sl (Ty.sl Ty.str) (g6_0 (g5_0 x0) (g5_1 x0) (g5_2 x0)))), (10, PV.a (Atom.val (Value.int IntKind.i64 v10))), (11, PV.a (Atom.val (Value.int IntKind.i64 v11))), (12, PV.a (Atom.val (Value.int IntKind.i64 v12))), (58, PV.a (Atom.sl (Ty.sl Ty.str) (g6_0 (g5_0 x0) (g5_1 x0) (g5_2 x0)))), (59, PV.a (Atom.val (Value.int IntKind.i64 v11))), (60, PV.a (Atom.ptr (Ty.sl Ty.str) (List.getD (g6_0 (g5_0 x0) (g5_1 x0) (g5_2 x0)) (Int.toNat v11) []))), (61, PV.a (Atom.sl Ty.str (List.getD (g6_0 (g5_0 x0) (g5_1 x0) (g5_2 x0)) (Int.toNat v11) []))), (62, PV.a (Atom.val (Value.int IntKind.i64 (↑(List.length (List.getD (g6_0 (g5_0 x0) (g5_1 x0) (g5_2 x0)) (Int.toNat v11) [])) : Int)))), (63, PV.a (Atom.val (Value.int IntKind.i64 (g5_1 x0)))), (64, PV.a (Atom.val (Value.bool (Decidable.decide ((↑(List.length (List.getD (g6_0 (g5_0 x0) (g5_1 x0) (g5_2 x0)) (Int.toNat v11) [])) : Int) > g5_1 x0))))), (67, PV.a (Atom.sl (Ty.sl Ty.str) (g6_0 (g5_0 x0) (g5_1 x0) (g5_2 x0)))), (68, PV.a (Atom.val (Value.int IntKind.i64 v11))), (69, PV.a (Atom.ptr (Ty.sl Ty.str) (List.getD (g6_0 (g5_0 x0) (g5_1 x0) (g5_2 x0)) (Int.toNat v11) []))), (70, PV.a (Atom.sl Ty.str (List.getD (g6_0 (g5_0 x0) (g5_1 x0) (g5_2 x0)) (Int.toNat v11) []))), (71, PV.a (Atom.ptr Ty.str (List.getD (List.getD (g6_0 (g5_0 x0) (g5_1 x0) (g5_2 x0)) (Int.toNat v11) []) 0 ByteArray.empty))), (72, PV.a (Atom.val (Value.string (List.getD (List.getD (g6_0 (g5_0 x0) (g5_1 x0) (g5_2 x0)) (Int.toNat v11) []) 0 ByteArray.empty)))), (73, PV.a (Atom.val (Value.string (g5_2 x0)))), (74, PV.a (Atom.val (Value.bool !ByteArray.toList (List.getD (List.getD (g6_0 (g5_0 x0) (g5_1 x0) (g5_2 x0)) (Int.toNat v11) []) 0 ByteArray.empty) == ByteArray.toList (g5_2 x0)))), (77, PV.a (Atom.val (Value.int IntKind.i64 v11))), (78, PV.a (Atom.val (Value.int IntKind.i64 (v11 + 1)))), (79, PV.a (Atom.sl (Ty.sl Ty.str) (g6_0 (g5_0 x0) (g5_1 x0) (g5_2 x0)))), (80, PV.a (Atom.val (Value.int IntKind.i64 (↑(List.length (g6_0 (g5_0 x0) (g5_1 x0) (g5_2 x0))) : Int)))), (81, PV.a (Atom.val (Value.bool (Decidable.decide (v11 + 1 < (↑(List.length (g6_0 (g5_0 x0) (g5_1 x0) (g5_2 x0))) : Int)))))), (82, PV.a (Atom.val (Value.bool (Decidable.decide (v11 + 1 < (↑(List.length (g6_0 (g5_0 x0) (g5_1 x0) (g5_2 x0))) : Int)))))), (90, PV.a (Atom.val (Value.bool v90))), (106, PV.a (Atom.sl (Ty.sl Ty.str) (g6_0 (g5_0 x0) (g5_1 x0) (g5_2 x0)))), (107, PV.a (Atom.val (Value.int IntKind.i64 v11))), (108, PV.a (Atom.ptr (Ty.sl Ty.str) (List.getD (g6_0 (g5_0 x0) (g5_1 x0) (g5_2 x0)) (Int.toNat v11) []))), (109, PV.a (Atom.sl Ty.str (List.getD (g6_0 (g5_0 x0) (g5_1 x0) (g5_2 x0)) (Int.toNat v11) []))), (110, PV.a (Atom.val (Value.int IntKind.i64 v12))), (111, PV.a (Atom.ptr Ty.str (List.getD (List.getD (g6_0 (g5_0 x0) (g5_1 x0) (g5_2 x0)) (Int.toNat v11) []) (Int.toNat v12) ByteArray.empty))), (112, PV.a (Atom.val (Value.string (List.getD (List.getD (g6_0 (g5_0 x0) (g5_1 x0) (g5_2 x0)) (Int.toNat v11) []) (Int.toNat v12) ByteArray.empty)))), (113, PV.a (Atom.sl Ty.str (g5_0 x0))), (114, PV.a (Atom.val (Value.int IntKind.i64 v10))), (115, PV.a (Atom.ptr Ty.str (List.getD (g5_0 x0) (Int.toNat v10) ByteArray.empty))), (116, PV.a (Atom.val (Value.string (List.getD (g5_0 x0) (Int.toNat v10) ByteArray.empty)))), (117, PV.a (Atom.val (Value.bool !ByteArray.toList (List.getD (List.getD (g6_0 (g5_0 x0) (g5_1 x0) (g5_2 x0)) (Int.toNat v11) []) (Int.toNat v12) ByteArray.empty) == ByteArray.toList (List.getD (g5_0 x0) (Int.toNat v10) ByteArray.empty))))]
def L3_17 (x0 : List Int) (x1 : List Int) (v10 : Int) (v11 : Int) (v12 : Int) (v90 : Bool) : Heap := []
def E3_39 (x0 : List Int) (v22 : Int) : Env := [(18, PV.a (Atom.osl 0 Option.none)), (19, PV.a (Atom.val (Value.int IntKind.i64 (g11_1 x0)))), (20, PV.a (Atom.osl 1 Option.none)), (22, PV.a (Atom.val (Value.int IntKind.i64 v22)))]
def L3_39 (x0 : List Int) (v22 : Int) : Heap := [Option.some (Arr.mk (Ty.int IntKind.i64) (g11_0 x0) Bool.false Option.none Option.none), Option.some (Arr.mk Ty.str (g12_0 (g11_0 x0) (g11_1 x0)) Bool.false Option.none Option.none)]
def E3_14 (x0 : List Int) (x1 : List Int) (v10 : Int) (v11 : Int) (v12 : Int) (v90 : Bool) : Env := [(0, PV.a (Atom.sl (Ty.int IntKind.u8) x0)), (1, PV.a (Atom.sl (Ty.int IntKind.u8) x1)), (5, PV.a (Atom.sl Ty.str (g5_0 x0))), (6, PV.a (Atom.val (Value.int IntKind.i64 (g5_1 x0)))), (7, PV.a (Atom.val (Value.string (g5_2 x0)))), (8, PV.a (Atom.sl (Ty.sl Ty.str) (g6_0 (g5_0 x0) (g5_1 x0) (g5_2 x0)))), (10, PV.a (Atom.val (Value.int IntKind.i64 (v10 + 1)))), (11, PV.a (Atom.val (Value.int IntKind.i64 v11))), (12, PV.a (Atom.val (Value.int IntKind.i64 v12))), (58, PV.a (Atom.sl (Ty.sl Ty.str) (g6_0 (g5_0 x0) (g5_1 x0) (g5_2 x0)))), (59, PV.a (Atom.val (Value.int IntKind.i64 v11))), (60, PV.a (Atom.ptr (Ty.sl Ty.str) (List.getD (g6_0 (g5_0 x0) (g5_1 x0) (g5_2 x0)) (Int.toNat v11) []))), (61, PV.a (Atom.sl Ty.str (List.getD (g6_0 (g5_0 x0) (g5_1 x0) (g5_2 x0)) (Int.toNat v11) []))), (62, PV.a (Atom.val (Value.int IntKind.i64 (↑(List.length (List.getD (g6_0 (g5_0 x0) (g5_1 x0) (g5_2 x0)) (Int.toNat v11) [])) : Int)))), (63, PV.a (Atom.val (Value.int IntKind.i64 (g5_1 x0)))), (64, PV.a (Atom.val (Value.bool (Decidable.decide ((↑(List.length (List.getD (g6_0 (g5_0 x0) (g5_1 x0) (g5_2 x0)) (Int.toNat v11) [])) : Int) > g5_1 x0))))), (67, PV.a (Atom.sl (Ty.sl Ty.str) (g6_0 (g5_0 x0) (g5_1 x0) (g5_2 x0)))), (68, PV.a (Atom.val (Value.int IntKind.i64 v11))), (69, PV.a (Atom.ptr (Ty.sl Ty.str) (List.getD (g6_0 (g5_0 x0) (g5_1 x0) (g5_2 x0)) (Int.toNat v11) []))), (70, PV.a (Atom.sl Ty.str (List.getD (g6_0 (g5_0 x0) (g5_1 x0) (g5_2 x0)) (Int.toNat v11) []))), (71, PV.a (Atom.ptr Ty.str (List.getD (List.getD (g6_0 (g5_0 x0) (g5_1 x0) (g5_2 x0)) (Int.toNat v11) []) 0 ByteArray.empty))), (72, PV.a (Atom.val (Value.string (List.getD (List.getD (g6_0 (g5_0 x0) (g5_1 x0) (g5_2 x0)) (Int.toNat v11) []) 0 ByteArray.empty)))), (73, PV.a (Atom.val (Value.string (g5_2 x0)))), (74, PV.a (Atom.val (Value.bool !ByteArray.toList (List.getD (List.getD (g6_0 (g5_0 x0) (g5_1 x0) (g5_2 x0)) (Int.toNat v11) []) 0 ByteArray.empty) == ByteArray.toList (g5_2 x0)))), (77, PV.a (Atom.val (Value.int IntKind.i64 v11))), (78, PV.a (Atom.val (Value.int IntKind.i64 (v11 + 1)))), (79, PV.a (Atom.sl (Ty.sl Ty.str) (g6_0 (g5_0 x0) (g5_1 x0) (g5_2 x0)))), (80, PV.a (Atom.val (Value.int IntKind.i64 (↑(List.length (g6_0 (g5_0 x0) (g5_1 x0) (g5_2 x0))) : Int)))), (81, PV.a (Atom.val (Value.bool (Decidable.decide (v11 + 1 < (↑(List.length (g6_0 (g5_0 x0) (g5_1 x0) (g5_2 x0))) : Int)))))), (82, PV.a (Atom.val (Value.bool (Decidable.decide (v11 + 1 < (↑(List.length (g6_0 (g5_0 x0) (g5_1 x0) (g5_2 x0))) : Int)))))), (90, PV.a (Atom.val (Value.bool v90))), (106, PV.a (Atom.sl (Ty.sl Ty.str) (g6_0 (g5_0 x0) (g5_1 x0) (g5_2 x0)))), (107, PV.a (Atom.val (Value.int IntKind.i64 v11))), (108, PV.a (Atom.ptr (Ty.sl Ty.str) (List.getD (g6_0 (g5_0 x0) (g5_1 x0) (g5_2 x0)) (Int.toNat v11) []))), (109, PV.a (Atom.sl Ty.str (List.getD (g6_0 (g5_0 x0) (g5_1 x0) (g5_2 x0)) (Int.toNat v11) []))), (110, PV.a (Atom.val (Value.int IntKind.i64 v12))), (111, PV.a (Atom.ptr Ty.str (List.getD (List.getD (g6_0 (g5_0 x0) (g5_1 x0) (g5_2 x0)) (Int.toNat v11) []) (Int.toNat v12) ByteArray.empty))), (112, PV.a (Atom.val (Value.string (List.getD (List.getD (g6_0 (g5_0 x0) (g5_1 x0) (g5_2 x0)) (Int.toNat v11) []) (Int.toNat v12) ByteArray.empty)))), (113, PV.a (Atom.sl Ty.str (g5_0 x0))), (114, PV.a (Atom.val (Value.int IntKind.i64 v10))), (115, PV.a (Atom.ptr Ty.str (List.getD (g5_0 x0) (Int.toNat v10) ByteArray.empty))), (116, PV.a (Atom.val (Value.string (List.getD (g5_0 x0) (Int.toNat v10) ByteArray.empty)))), (117, PV.a (Atom.val (Value.bool !ByteArray.toList (List.getD (List.getD (g6_0 (g5_0 x0) (g5_1 x0) (g5_2 x0)) (Int.toNat v11) []) (Int.toNat v12) ByteArray.empty) == ByteArray.toList (List.getD (g5_0 x0) (Int.toNat v10) ByteArray.empty))))]
def L3_14 (x0 : List Int) (x1 : List Int) (v10 : Int) (v11 : Int) (v12 : Int) (v90 : Bool) : Heap := []
def E3_40 (v23 : Int) (x0 : List Int) (v22 : Int) : Env := [(18, PV.a (Atom.osl 0 Option.none)), (19, PV.a (Atom.val (Value.int IntKind.i64 (g11_1 x0)))), (20, PV.a (Atom.osl 1 Option.none)), (22, PV.a (Atom.val (Value.int IntKind.i64 v22))), (23, PV.a (Atom.val (Value.int IntKind.i64 v23)))]
def L3_40 (v23 : Int) (x0 : List Int) (v22 : Int) : Heap := [Option.some (Arr.mk (Ty.int IntKind.i64) (g11_0 x0) Bool.false Option.none Option.none), Option.some (Arr.mk Ty.str (g12_0 (g11_0 x0) (g11_1 x0)) Bool.false Option.none Option.none)]
def E3_42 (x0 : List Int) (v22 : Int) (v23 : Int) : Env := [(18, PV.a (Atom.osl 0 Option.none)), (19, PV.a (Atom.val (Value.int IntKind.i64 (g11_1 x0)))), (20, PV.a (Atom.osl 1 Option.none)), (22, PV.a (Atom.val (Value.int IntKind.i64 v22))), (23, PV.a (Atom.val (Value.int IntKind.i64 v23)))]
def L3_42 (x0 : List Int) (v22 : Int) (v23 : Int) : Heap := [Option.some (Arr.mk (Ty.int IntKind.i64) (g11_0 x0) Bool.false Option.none Option.none), Option.some (Arr.mk Ty.str (g12_0 (g11_0 x0) (g11_1 x0)) Bool.false Option.none Option.none)]
def E3_38 (x0 : List Int) (v22 : Int) : Env := [(18, PV.a (Atom.osl 0 Option.none)), (19, PV.a (Atom.val (Value.int IntKind.i64 (g11_1 x0)))), (20, PV.a (Atom.osl 1 Option.none)), (22, PV.a (Atom.val (Value.int IntKind.i64 v22)))]
def L3_38 (x0 : List Int) (v22 : Int) : Heap := [Option.some (Arr.mk (Ty.int IntKind.i64) (g11_0 x0) Bool.false Option.none Option.none), Option.some (Arr.mk Ty.str (g12_0 (g11_0 x0) (g11_1 x0)) Bool.false Option.none Option.none)]
def E3_41 (x0 : List Int) (v22 : Int) (v23 : Int) : Env := [(18, PV.a (Atom.osl 0 Option.none)), (19, PV.a (Atom.val (Value.int IntKind.i64 (g11_1 x0)))), (20, PV.a (Atom.osl 1 Option.none)), (22, PV.a (Atom.val (Value.int IntKind.i64 v22))), (23, PV.a (Atom.val (Value.int IntKind.i64 v23)))]
def L3_41 (x0 : List Int) (v22 : Int) (v23 : Int) : Heap := [Option.some (Arr.mk (Ty.int IntKind.i64) (g11_0 x0) Bool.false Option.none Option.none), Option.some (Arr.mk Ty.str (g12_0 (g11_0 x0) (g11_1 x0)) Bool.false Option.none Option.none)]
mutual
def R3 : Nat → List Int → List Int → List Dyn → Prop
  | 0, _, _, _ => False
  | n + 1, x0, x1, ds => (if (g4_0 x0) = true then (ds = [Dyn.mk Ty.bool Bool.true]) else (if (g4_0 x1) = true then (ds = [Dyn.mk Ty.bool Bool.true]) else (R3_3 n (x0) (x1) ds)))
def R3_3 : Nat → List Int → List Int → List Dyn → Prop
  | 0, _, _, _ => False
  | n + 1, x0, x1, ds => ((P5 x0) ∧ ((P6 (g5_0 x0) (g5_1 x0) (g5_2 x0)) ∧ (if (g6_1 (g5_0 x0) (g5_1 x0) (g5_2 x0) == 0) = true then (R3_8 n (0) (0) (x0) (x1) ds) else (R3_20 n (x0) (x1) ds))))
def R3_8 : Nat → Int → Int → List Int → List Int → List Dyn → Prop
  | 0, _, _, _, _, _ => False
  | n + 1, v10, v11, x0, x1, ds => (if (Decidable.decide (v11 < (↑(List.length (g6_0 (g5_0 x0) (g5_1 x0) (g5_2 x0))) : Int))) = true then (R3_10 n (x0) (x1) (v10) (v11) ds) else (if (v10 != (↑(List.length (g5_0 x0)) : Int)) = true then (ds = [Dyn.mk Ty.bool Bool.false]) else (R3_20 n (x0) (x1) ds)))
def R3_20 : Nat → List Int → List Int → List Dyn → Prop
  | 0, _, _, _ => False
  | n + 1, x0, x1, ds => ((P7 x1) ∧ ((P8 (g7_0 x1) (g7_1 x1)) ∧ (if (g8_1 (g7_0 x1) (g7_1 x1) == 0) = true then (if (!g9_0 (g8_0 (g7_0 x1) (g7_1 x1)) (↑(List.length (g7_0 x1)) : Int)) = true then (ds = [Dyn.mk Ty.bool Bool.false]) else (R3_25 n (x0) (x1) ds)) else (R3_30 n (x0) ds))))
def R3_10 : Nat → List Int → List Int → Int → Int → List Dyn → Prop
  | 0, _, _, _, _, _ => False
  | n + 1, x0, x1, v10, v11, ds => ((0 ≤ v11) ∧ (v11 < (↑(List.length (g6_0 (g5_0 x0) (g5_1 x0) (g5_2 x0))) : Int)) ∧ (if (Decidable.decide ((↑(List.length (List.getD (g6_0 (g5_0 x0) (g5_1 x0) (g5_2 x0)) (Int.toNat v11) [])) : Int) < 2)) = true then (ds = [Dyn.mk Ty.bool Bool.false]) else ((0 ≤ v11) ∧ (v11 < (↑(List.length (g6_0 (g5_0 x0) (g5_1 x0) (g5_2 x0))) : Int)) ∧ (if (Decidable.decide ((↑(List.length (List.getD (g6_0 (g5_0 x0) (g5_1 x0) (g5_2 x0)) (Int.toNat v11) [])) : Int) > g5_1 x0)) = true then (ds = [Dyn.mk Ty.bool Bool.false]) else ((0 ≤ v11) ∧ (v11 < (↑(List.length (g6_0 (g5_0 x0) (g5_1 x0) (g5_2 x0))) : Int)) ∧ ((0 < (↑(List.length (List.getD (g6_0 (g5_0 x0) (g5_1 x0) (g5_2 x0)) (Int.toNat v11) [])) : Int)) ∧ (if (!ByteArray.toList (List.getD (List.getD (g6_0 (g5_0 x0) (g5_1 x0) (g5_2 x0)) (Int.toNat v11) []) 0 ByteArray.empty) == ByteArray.toList (g5_2 x0)) = true then (ds = [Dyn.mk Ty.bool Bool.false]) else ((InR IntKind.i64 (v11 + 1)) ∧ (if (Decidable.decide (v11 + 1 < (↑(List.length (g6_0 (g5_0 x0) (g5_1 x0) (g5_2 x0))) : Int))) = true then ((0 ≤ v11) ∧ (v11 < (↑(List.length (g6_0 (g5_0 x0) (g5_1 x0) (g5_2 x0))) : Int)) ∧ (if ((↑(List.length (List.getD (g6_0 (g5_0 x0) (g5_1 x0) (g5_2 x0)) (Int.toNat v11) [])) : Int) != g5_1 x0) = true then (ds = [Dyn.mk Ty.bool Bool.false]) else (R3_12 n ((↑(List.length (List.getD (g6_0 (g5_0 x0) (g5_1 x0) (g5_2 x0)) (Int.toNat v11) [])) : Int) != g5_1 x0) (x0) (x1) (v10) (v11) ds))) else (R3_12 n (Bool.false) (x0) (x1) (v10) (v11) ds))))))))))
def R3_25 : Nat → List Int → List Int → List Dyn → Prop
  | 0, _, _, _ => False
  | n + 1, x0, x1, ds => (R3_26 n (0) (x0) (x1) ds)
def R3_30 : Nat → List Int → List Dyn → Prop
  | 0, _, _ => False
  | n + 1, x0, ds => ((P12 (g11_0 x0) (g11_1 x0)) ∧ (if (g12_1 (g11_0 x0) (g11_1 x0) != 0) = true then (ds = [Dyn.mk Ty.bool ((↑(List.length (g12_0 (g11_0 x0) (g11_1 x0))) : Int) == 0)]) else (R3_34 n (x0) ds)))
def R3_12 : Nat → Bool → List Int → List Int → Int → Int → List Dyn → Prop
  | 0, _, _, _, _, _, _ => False
  | n + 1, v90, x0, x1, v10, v11, ds => (R3_13 n (v10) (1) (x0) (x1) (v11) (v90) ds)
def R3_26 : Nat → Int → List Int → List Int → List Dyn → Prop
  | 0, _, _, _, _ => False
  | n + 1, v17, x0, x1, ds => (if (Decidable.decide (v17 < (↑(List.length (g7_0 x1)) : Int))) = true then (R3_28 n (x0) (x1) (v17) ds) else (R3_30 n (x0) ds))
def R3_34 : Nat → List Int → List Dyn → Prop
  | 0, _, _ => False
  | n + 1, x0, ds => (if ((↑(List.length (g12_0 (g11_0 x0) (g11_1 x0))) : Int) != (↑(List.length (g11_0 x0)) : Int)) = true then (ds = [Dyn.mk Ty.bool Bool.false]) else (R3_36 n (x0) ds))
def R3_13 : Nat → Int → Int → List Int → List Int → Int → Bool → List Dyn → Prop
  | 0, _, _, _, _, _, _, _ => False
  | n + 1, v10, v12, x0, x1, v11, v90, ds => ((0 ≤ v11) ∧ (v11 < (↑(List.length (g6_0 (g5_0 x0) (g5_1 x0) (g5_2 x0))) : Int)) ∧ (if (Decidable.decide (v12 < (↑(List.length (List.getD (g6_0 (g5_0 x0) (g5_1 x0) (g5_2 x0)) (Int.toNat v11) [])) : Int))) = true then (R3_15 n (x0) (x1) (v10) (v11) (v12) (v90) ds) else (R3_9 n (x0) (x1) (v10) (v11) (v90) ds)))
def R3_28 : Nat → List Int → List Int → Int → List Dyn → Prop
  | 0, _, _, _, _ => False
  | n + 1, x0, x1, v17, ds => ((0 ≤ v17) ∧ (v17 < (↑(List.length (g7_0 x1)) : Int)) ∧ (if (ByteArray.toList (List.getD (g7_0 x1) (Int.toNat v17) ByteArray.empty) == ByteArray.toList (g7_1 x1)) = true then (if (!g10_0 (g8_0 (g7_0 x1) (g7_1 x1)) v17) = true then (ds = [Dyn.mk Ty.bool Bool.false]) else (R3_27 n (x0) (x1) (v17) ds)) else (R3_27 n (x0) (x1) (v17) ds)))
def R3_36 : Nat → List Int → List Dyn → Prop
  | 0, _, _ => False
  | n + 1, x0, ds => (R3_37 n (0) (x0) ds)
def R3_15 : Nat → List Int → List Int → Int → Int → Int → Bool → List Dyn → Prop
  | 0, _, _, _, _, _, _, _ => False
  | n + 1, x0, x1, v10, v11, v12, v90, ds => (if (Decidable.decide (v10 ≥ (↑(List.length (g5_0 x0)) : Int))) = true then (ds = [Dyn.mk Ty.bool Bool.false]) else ((0 ≤ v11) ∧ (v11 < (↑(List.length (g6_0 (g5_0 x0) (g5_1 x0) (g5_2 x0))) : Int)) ∧ ((0 ≤ v12) ∧ (v12 < (↑(List.length (List.getD (g6_0 (g5_0 x0) (g5_1 x0) (g5_2 x0)) (Int.toNat v11) [])) : Int)) ∧ ((0 ≤ v10) ∧ (v10 < (↑(List.length (g5_0 x0)) : Int)) ∧ (if (!ByteArray.toList (List.getD (List.getD (g6_0 (g5_0 x0) (g5_1 x0) (g5_2 x0)) (Int.toNat v11) []) (Int.toNat v12) ByteArray.empty) == ByteArray.toList (List.getD (g5_0 x0) (Int.toNat v10) ByteArray.empty)) = true then (ds = [Dyn.mk Ty.bool Bool.false]) else (R3_17 n (x0) (x1) (v10) (v11) (v12) (v90) ds))))))
def R3_9 : Nat → List Int → List Int → Int → Int → Bool → List Dyn → Prop
  | 0, _, _, _, _, _, _ => False
  | n + 1, x0, x1, v10, v11, v90, ds => ((InR IntKind.i64 (v11 + 1)) ∧ (R3_8 n (v10) (v11 + 1) (x0) (x1) ds))
def R3_27 : Nat → List Int → List Int → Int → List Dyn → Prop
  | 0, _, _, _, _ => False
  | n + 1, x0, x1, v17, ds => ((InR IntKind.i64 (v17 + 1)) ∧ (R3_26 n (v17 + 1) (x0) (x1) ds))
def R3_37 : Nat → Int → List Int → List Dyn → Prop
  | 0, _, _, _ => False
  | n + 1, v22, x0, ds => (if (Decidable.decide (v22 < (↑(List.length (g11_0 x0)) : Int))) = true then (R3_39 n (x0) (v22) ds) else (ds = [Dyn.mk Ty.bool Bool.true]))
def R3_17 : Nat → List Int → List Int → Int → Int → Int → Bool → List Dyn → Prop
  | 0, _, _, _, _, _, _, _ => False
  | n + 1, x0, x1, v10, v11, v12, v90, ds => ((InR IntKind.i64 (v10 + 1)) ∧ (R3_14 n (x0) (x1) (v10) (v11) (v12) (v90) ds))
def R3_39 : Nat → List Int → Int → List Dyn → Prop
  | 0, _, _, _ => False
  | n + 1, x0, v22, ds => (R3_40 n (0) (x0) (v22) ds)
def R3_14 : Nat → List Int → List Int → Int → Int → Int → Bool → List Dyn → Prop
  | 0, _, _, _, _, _, _, _ => False
  | n + 1, x0, x1, v10, v11, v12, v90, ds => ((InR IntKind.i64 (v12 + 1)) ∧ (R3_13 n (v10 + 1) (v12 + 1) (x0) (x1) (v11) (v90) ds))
def R3_40 : Nat → Int → List Int → Int → List Dyn → Prop
  | 0, _, _, _, _ => False
  | n + 1, v23, x0, v22, ds => (if (Decidable.decide (v23 < (↑(List.length (g11_0 x0)) : Int))) = true then (R3_42 n (x0) (v22) (v23) ds) else ((0 ≤ v22) ∧ (v22 < (↑(List.length (g12_0 (g11_0 x0) (g11_1 x0))) : Int)) ∧ (if (Decidable.decide ((↑(ByteArray.size (List.getD (g12_0 (g11_0 x0) (g11_1 x0)) (Int.toNat v22) ByteArray.empty)) : Int) > g11_1 x0)) = true then (ds = [Dyn.mk Ty.bool Bool.false]) else (R3_38 n (x0) (v22) ds))))
def R3_42 : Nat → List Int → Int → Int → List Dyn → Prop
  | 0, _, _, _, _ => False
  | n + 1, x0, v22, v23, ds => ((0 ≤ v22) ∧ (v22 < (↑(List.length (g11_0 x0)) : Int)) ∧ ((0 ≤ v23) ∧ (v23 < (↑(List.length (g11_0 x0)) : Int)) ∧ (if (Decidable.decide (List.getD (g11_0 x0) (Int.toNat v22) 0 ≤ List.getD (g11_0 x0) (Int.toNat v23) 0)) = true then ((0 ≤ v22) ∧ (v22 < (↑(List.length (g12_0 (g11_0 x0) (g11_1 x0))) : Int)) ∧ ((0 ≤ v23) ∧ (v23 < (↑(List.length (g12_0 (g11_0 x0) (g11_1 x0))) : Int)) ∧ (if (Decidable.decide ((↑(ByteArray.size (List.getD (g12_0 (g11_0 x0) (g11_1 x0)) (Int.toNat v22) ByteArray.empty)) : Int) > (↑(ByteArray.size (List.getD (g12_0 (g11_0 x0) (g11_1 x0)) (Int.toNat v23) ByteArray.empty)) : Int))) = true then (ds = [Dyn.mk Ty.bool Bool.false]) else (R3_41 n (x0) (v22) (v23) ds)))) else (R3_41 n (x0) (v22) (v23) ds))))
def R3_38 : Nat → List Int → Int → List Dyn → Prop
  | 0, _, _, _ => False
  | n + 1, x0, v22, ds => ((InR IntKind.i64 (v22 + 1)) ∧ (R3_37 n (v22 + 1) (x0) ds))
def R3_41 : Nat → List Int → Int → Int → List Dyn → Prop
  | 0, _, _, _, _ => False
  | n + 1, x0, v22, v23, ds => ((InR IntKind.i64 (v23 + 1)) ∧ (R3_40 n (v23 + 1) (x0) (v22) ds))
end
theorem snd3 : ∀ n, (∀ (x0 : List Int) (x1 : List Int) ds, R3 n x0 x1 ds → ∀ K q, AtV Try.prog 3 (PostR kds3 oks3 ds [] [] q K) 223 K q [] [.code b3] (entE 0 0 sig3 (x0, x1, ())) (entL sig3 (x0, x1, ()))) ∧ (∀ (x0 : List Int) (x1 : List Int) ds, R3_3 n x0 x1 ds → ∀ K q, AtV Try.prog 3 (PostR kds3 oks3 ds [] [] q K) 223 K q [] (cutAt b3 3) (E3_3 x0 x1) (L3_3 x0 x1)) ∧ (∀ (v10 : Int) (v11 : Int) (x0 : List Int) (x1 : List Int) ds, R3_8 n v10 v11 x0 x1 ds → ∀ K q, AtV Try.prog 3 (PostR kds3 oks3 ds [] [] q K) 223 K q [] (cutAt b3 8) (E3_8 v10 v11 x0 x1) (L3_8 v10 v11 x0 x1)) ∧ (∀ (x0 : List Int) (x1 : List Int) ds, R3_20 n x0 x1 ds → ∀ K q, AtV Try.prog 3 (PostR kds3 oks3 ds [] [] q K) 223 K q [] (cutAt b3 20) (E3_20 x0 x1) (L3_20 x0 x1)) ∧ (∀ (x0 : List Int) (x1 : List Int) (v10 : Int) (v11 : Int) ds, R3_10 n x0 x1 v10 v11 ds → ∀ K q, AtV Try.prog 3 (PostR kds3 oks3 ds [] [] q K) 223 K q [] (cutAt b3 10) (E3_10 x0 x1 v10 v11) (L3_10 x0 x1 v10 v11)) ∧ (∀ (x0 : List Int) (x1 : List Int) ds, R3_25 n x0 x1 ds → ∀ K q, AtV Try.prog 3 (PostR kds3 oks3 ds [] [] q K) 223 K q [] (cutAt b3 25) (E3_25 x0 x1) (L3_25 x0 x1)) ∧ (∀ (x0 : List Int) ds, R3_30 n x0 ds → ∀ K q, AtV Try.prog 3 (PostR kds3 oks3 ds [] [] q K) 223 K q [] (cutAt b3 30) (E3_30 x0) (L3_30 x0)) ∧ (∀ (v90 : Bool) (x0 : List Int) (x1 : List Int) (v10 : Int) (v11 : Int) ds, R3_12 n v90 x0 x1 v10 v11 ds → ∀ K q, AtV Try.prog 3 (PostR kds3 oks3 ds [] [] q K) 223 K q [] (cutAt b3 12) (E3_12 v90 x0 x1 v10 v11) (L3_12 v90 x0 x1 v10 v11)) ∧ (∀ (v17 : Int) (x0 : List Int) (x1 : List Int) ds, R3_26 n v17 x0 x1 ds → ∀ K q, AtV Try.prog 3 (PostR kds3 oks3 ds [] [] q K) 223 K q [] (cutAt b3 26) (E3_26 v17 x0 x1) (L3_26 v17 x0 x1)) ∧ (∀ (x0 : List Int) ds, R3_34 n x0 ds → ∀ K q, AtV Try.prog 3 (PostR kds3 oks3 ds [] [] q K) 223 K q [] (cutAt b3 34) (E3_34 x0) (L3_34 x0)) ∧ (∀ (v10 : Int) (v12 : Int) (x0 : List Int) (x1 : List Int) (v11 : Int) (v90 : Bool) ds, R3_13 n v10 v12 x0 x1 v11 v90 ds → ∀ K q, AtV Try.prog 3 (PostR kds3 oks3 ds [] [] q K) 223 K q [] (cutAt b3 13) (E3_13 v10 v12 x0 x1 v11 v90) (L3_13 v10 v12 x0 x1 v11 v90)) ∧ (∀ (x0 : List Int) (x1 : List Int) (v17 : Int) ds, R3_28 n x0 x1 v17 ds → ∀ K q, AtV Try.prog 3 (PostR kds3 oks3 ds [] [] q K) 223 K q [] (cutAt b3 28) (E3_28 x0 x1 v17) (L3_28 x0 x1 v17)) ∧ (∀ (x0 : List Int) ds, R3_36 n x0 ds → ∀ K q, AtV Try.prog 3 (PostR kds3 oks3 ds [] [] q K) 223 K q [] (cutAt b3 36) (E3_36 x0) (L3_36 x0)) ∧ (∀ (x0 : List Int) (x1 : List Int) (v10 : Int) (v11 : Int) (v12 : Int) (v90 : Bool) ds, R3_15 n x0 x1 v10 v11 v12 v90 ds → ∀ K q, AtV Try.prog 3 (PostR kds3 oks3 ds [] [] q K) 223 K q [] (cutAt b3 15) (E3_15 x0 x1 v10 v11 v12 v90) (L3_15 x0 x1 v10 v11 v12 v90)) ∧ (∀ (x0 : List Int) (x1 : List Int) (v10 : Int) (v11 : Int) (v90 : Bool) ds, R3_9 n x0 x1 v10 v11 v90 ds → ∀ K q, AtV Try.prog 3 (PostR kds3 oks3 ds [] [] q K) 223 K q [] (cutAt b3 9) (E3_9 x0 x1 v10 v11 v90) (L3_9 x0 x1 v10 v11 v90)) ∧ (∀ (x0 : List Int) (x1 : List Int) (v17 : Int) ds, R3_27 n x0 x1 v17 ds → ∀ K q, AtV Try.prog 3 (PostR kds3 oks3 ds [] [] q K) 223 K q [] (cutAt b3 27) (E3_27 x0 x1 v17) (L3_27 x0 x1 v17)) ∧ (∀ (v22 : Int) (x0 : List Int) ds, R3_37 n v22 x0 ds → ∀ K q, AtV Try.prog 3 (PostR kds3 oks3 ds [] [] q K) 223 K q [] (cutAt b3 37) (E3_37 v22 x0) (L3_37 v22 x0)) ∧ (∀ (x0 : List Int) (x1 : List Int) (v10 : Int) (v11 : Int) (v12 : Int) (v90 : Bool) ds, R3_17 n x0 x1 v10 v11 v12 v90 ds → ∀ K q, AtV Try.prog 3 (PostR kds3 oks3 ds [] [] q K) 223 K q [] (cutAt b3 17) (E3_17 x0 x1 v10 v11 v12 v90) (L3_17 x0 x1 v10 v11 v12 v90)) ∧ (∀ (x0 : List Int) (v22 : Int) ds, R3_39 n x0 v22 ds → ∀ K q, AtV Try.prog 3 (PostR kds3 oks3 ds [] [] q K) 223 K q [] (cutAt b3 39) (E3_39 x0 v22) (L3_39 x0 v22)) ∧ (∀ (x0 : List Int) (x1 : List Int) (v10 : Int) (v11 : Int) (v12 : Int) (v90 : Bool) ds, R3_14 n x0 x1 v10 v11 v12 v90 ds → ∀ K q, AtV Try.prog 3 (PostR kds3 oks3 ds [] [] q K) 223 K q [] (cutAt b3 14) (E3_14 x0 x1 v10 v11 v12 v90) (L3_14 x0 x1 v10 v11 v12 v90)) ∧ (∀ (v23 : Int) (x0 : List Int) (v22 : Int) ds, R3_40 n v23 x0 v22 ds → ∀ K q, AtV Try.prog 3 (PostR kds3 oks3 ds [] [] q K) 223 K q [] (cutAt b3 40) (E3_40 v23 x0 v22) (L3_40 v23 x0 v22)) ∧ (∀ (x0 : List Int) (v22 : Int) (v23 : Int) ds, R3_42 n x0 v22 v23 ds → ∀ K q, AtV Try.prog 3 (PostR kds3 oks3 ds [] [] q K) 223 K q [] (cutAt b3 42) (E3_42 x0 v22 v23) (L3_42 x0 v22 v23)) ∧ (∀ (x0 : List Int) (v22 : Int) ds, R3_38 n x0 v22 ds → ∀ K q, AtV Try.prog 3 (PostR kds3 oks3 ds [] [] q K) 223 K q [] (cutAt b3 38) (E3_38 x0 v22) (L3_38 x0 v22)) ∧ (∀ (x0 : List Int) (v22 : Int) (v23 : Int) ds, R3_41 n x0 v22 v23 ds → ∀ K q, AtV Try.prog 3 (PostR kds3 oks3 ds [] [] q K) 223 K q [] (cutAt b3 41) (E3_41 x0 v22 v23) (L3_41 x0 v22 v23)) := by
  intro n
  induction n with
  | zero => exact ⟨fun _ _ _ h => by simp only [R3] at h, fun _ _ _ h => by simp only [R3_3] at h, fun _ _ _ _ _ h => by simp only [R3_8] at h, fun _ _ _ h => by simp only [R3_20] at h, fun _ _ _ _ _ h => by simp only [R3_10] at h, fun _ _ _ h => by simp only [R3_25] at h, fun _ _ h => by simp only [R3_30] at h, fun _ _ _ _ _ _ h => by simp only [R3_12] at h, fun _ _ _ _ h => by simp only [R3_26] at h, fun _ _ h => by simp only [R3_34] at h, fun _ _ _ _ _ _ _ h => by simp only [R3_13] at h, fun _ _ _ _ h => by simp only [R3_28] at h, fun _ _ h => by simp only [R3_36] at h, fun _ _ _ _ _ _ _ h => by simp only [R3_15] at h, fun _ _ _ _ _ _ h => by simp only [R3_9] at h, fun _ _ _ _ h => by simp only [R3_27] at h, fun _ _ _ h => by simp only [R3_37] at h, fun _ _ _ _ _ _ _ h => by simp only [R3_17] at h, fun _ _ _ h => by simp only [R3_39] at h, fun _ _ _ _ _ _ _ h => by simp only [R3_14] at h, fun _ _ _ _ h => by simp only [R3_40] at h, fun _ _ _ _ h => by simp only [R3_42] at h, fun _ _ _ h => by simp only [R3_38] at h, fun _ _ _ _ h => by simp only [R3_41] at h⟩
  | succ n ih =>
  obtain ⟨ih, ih3, ih8, ih20, ih10, ih25, ih30, ih12, ih26, ih34, ih13, ih28, ih36, ih15, ih9, ih27, ih37, ih17, ih39, ih14, ih40, ih42, ih38, ih41⟩ := ih
  refine ⟨?_, ?_, ?_, ?_, ?_, ?_, ?_, ?_, ?_, ?_, ?_, ?_, ?_, ?_, ?_, ?_, ?_, ?_, ?_, ?_, ?_, ?_, ?_, ?_⟩
  · intro x0 x1 ds h K q
    rw [R3] at h
    by_cases b0 : (g4_0 x0) = true
    · rw [if_pos b0] at h
      subst h
      exact AtV.ret Try.func3 tabOk ext3Ok mixed false [3, 20, 10, 9, 12, 15, 14, 17, 30, 25, 28, 27, 34, 36, 39, 38, 42, 41] tys3 [true, true] (a1 trivial (a1 b0 (a1 (rfl : Bool.true = Bool.true) trivial))) (by kernel_rfl)
    · rw [if_neg b0] at h
      replace b0 := Bool.eq_false_iff.2 b0
      by_cases b1 : (g4_0 x1) = true
      · rw [if_pos b1] at h
        subst h
        exact AtV.ret Try.func3 tabOk ext3Ok mixed false [3, 20, 10, 9, 12, 15, 14, 17, 30, 25, 28, 27, 34, 36, 39, 38, 42, 41] tys3 [false, true] (a1 trivial (a1 b0 (a1 trivial (a1 b1 trivial)))) (by kernel_rfl)
      · rw [if_neg b1] at h
        replace b1 := Bool.eq_false_iff.2 b1
        exact AtV.go tabOk ext3Ok mixed false [3, 20, 10, 9, 12, 15, 14, 17, 30, 25, 28, 27, 34, 36, 39, 38, 42, 41] [] [0, 1] [] [false, false] (a1 trivial (a1 b0 (a1 trivial (a1 b1 trivial)))) (ih3 _ _ _ h K q) (by kernel_rfl)

  · intro x0 x1 ds h K q
    rw [R3_3] at h
    obtain ⟨s0, h⟩ := h
    obtain ⟨s1, h⟩ := h
    by_cases b0 : (g6_1 (g5_0 x0) (g5_1 x0) (g5_2 x0) == 0) = true
    · rw [if_pos b0] at h
      exact AtV.go tabOk ext3Ok mixed false [3, 20, 10, 9, 12, 15, 14, 17, 30, 25, 28, 27, 34, 36, 39, 38, 42, 41] [] [0, 1, 5, 6, 7, 8, 10, 11] [] [true] (a1 s0 (a1 s1 (a1 b0 trivial))) (ih8 _ _ _ _ _ h K q) (by kernel_rfl)
    · rw [if_neg b0] at h
      replace b0 := Bool.eq_false_iff.2 b0
      exact AtV.go tabOk ext3Ok mixed false [3, 20, 10, 9, 12, 15, 14, 17, 30, 25, 28, 27, 34, 36, 39, 38, 42, 41] [] [0, 1] [] [false] (a1 s0 (a1 s1 (a1 b0 trivial))) (ih20 _ _ _ h K q) (by kernel_rfl)

  · intro v10 v11 x0 x1 ds h K q
    rw [R3_8] at h
    by_cases b0 : (Decidable.decide (v11 < (↑(List.length (g6_0 (g5_0 x0) (g5_1 x0) (g5_2 x0))) : Int))) = true
    · rw [if_pos b0] at h
      exact AtV.go tabOk ext3Ok mixed false [3, 20, 10, 9, 12, 15, 14, 17, 30, 25, 28, 27, 34, 36, 39, 38, 42, 41] [] [0, 1, 5, 6, 7, 8, 10, 11] [] [true] (a1 b0 trivial) (ih10 _ _ _ _ _ h K q) (by kernel_rfl)
    · rw [if_neg b0] at h
      replace b0 := Bool.eq_false_iff.2 b0
      by_cases b1 : (v10 != (↑(List.length (g5_0 x0)) : Int)) = true
      · rw [if_pos b1] at h
        subst h
        exact AtV.ret Try.func3 tabOk ext3Ok mixed false [3, 20, 10, 9, 12, 15, 14, 17, 30, 25, 28, 27, 34, 36, 39, 38, 42, 41] tys3 [false, true] (a1 b0 (a1 b1 trivial)) (by kernel_rfl)
      · rw [if_neg b1] at h
        replace b1 := Bool.eq_false_iff.2 b1
        exact AtV.go tabOk ext3Ok mixed false [3, 20, 10, 9, 12, 15, 14, 17, 30, 25, 28, 27, 34, 36, 39, 38, 42, 41] [] [0, 1] [] [false, false] (a1 b0 (a1 b1 trivial)) (ih20 _ _ _ h K q) (by kernel_rfl)

  · intro x0 x1 ds h K q
    rw [R3_20] at h
    obtain ⟨s0, h⟩ := h
    obtain ⟨s1, h⟩ := h
    by_cases b0 : (g8_1 (g7_0 x1) (g7_1 x1) == 0) = true
    · rw [if_pos b0] at h
      by_cases b1 : (!g9_0 (g8_0 (g7_0 x1) (g7_1 x1)) (↑(List.length (g7_0 x1)) : Int)) = true
      · rw [if_pos b1] at h
        subst h
        exact AtV.ret Try.func3 tabOk ext3Ok mixed false [3, 20, 10, 9, 12, 15, 14, 17, 30, 25, 28, 27, 34, 36, 39, 38, 42, 41] tys3 [true, true] (a1 s0 (a1 s1 (a1 b0 (a1 trivial (a1 b1 trivial))))) (by kernel_rfl)
      · rw [if_neg b1] at h
        replace b1 := Bool.eq_false_iff.2 b1
        exact AtV.go tabOk ext3Ok mixed false [3, 20, 10, 9, 12, 15, 14, 17, 30, 25, 28, 27, 34, 36, 39, 38, 42, 41] [] [0, 13, 14, 15] [0, 1] [true, false] (a1 s0 (a1 s1 (a1 b0 (a1 trivial (a1 b1 trivial))))) (ih25 _ _ _ h K q) (by kernel_rfl)
    · rw [if_neg b0] at h
      replace b0 := Bool.eq_false_iff.2 b0
      exact AtV.go tabOk ext3Ok mixed false [3, 20, 10, 9, 12, 15, 14, 17, 30, 25, 28, 27, 34, 36, 39, 38, 42, 41] [] [0] [] [false] (a1 s0 (a1 s1 (a1 b0 trivial))) (ih30 _ _ h K q) (by kernel_rfl)

  · intro x0 x1 v10 v11 ds h K q
    rw [R3_10] at h
    obtain ⟨s0, s1, h⟩ := h
    by_cases b0 : (Decidable.decide ((↑(List.length (List.getD (g6_0 (g5_0 x0) (g5_1 x0) (g5_2 x0)) (Int.toNat v11) [])) : Int) < 2)) = true
    · rw [if_pos b0] at h
      subst h
      exact AtV.ret Try.func3 tabOk ext3Ok mixed false [3, 20, 10, 9, 12, 15, 14, 17, 30, 25, 28, 27, 34, 36, 39, 38, 42, 41] tys3 [true, true, true, true] (a1 s0 (a1 s1 (a1 b0 (a1 (rfl : Bool.true = Bool.true) (a1 (rfl : Bool.true = Bool.true) (a1 (rfl : Bool.true = Bool.true) trivial)))))) (by kernel_rfl)
    · rw [if_neg b0] at h
      replace b0 := Bool.eq_false_iff.2 b0
      obtain ⟨s2, s3, h⟩ := h
      by_cases b1 : (Decidable.decide ((↑(List.length (List.getD (g6_0 (g5_0 x0) (g5_1 x0) (g5_2 x0)) (Int.toNat v11) [])) : Int) > g5_1 x0)) = true
      · rw [if_pos b1] at h
        subst h
        exact AtV.ret Try.func3 tabOk ext3Ok mixed false [3, 20, 10, 9, 12, 15, 14, 17, 30, 25, 28, 27, 34, 36, 39, 38, 42, 41] tys3 [false, true, true, true] (a1 s0 (a1 s1 (a1 b0 (a1 s2 (a1 s3 (a1 b1 (a1 (rfl : Bool.true = Bool.true) (a1 (rfl : Bool.true = Bool.true) trivial)))))))) (by kernel_rfl)
      · rw [if_neg b1] at h
        replace b1 := Bool.eq_false_iff.2 b1
        obtain ⟨s4, s5, h⟩ := h
        obtain ⟨s6, h⟩ := h
        by_cases b2 : (!ByteArray.toList (List.getD (List.getD (g6_0 (g5_0 x0) (g5_1 x0) (g5_2 x0)) (Int.toNat v11) []) 0 ByteArray.empty) == ByteArray.toList (g5_2 x0)) = true
        · rw [if_pos b2] at h
          subst h
          exact AtV.ret Try.func3 tabOk ext3Ok mixed false [3, 20, 10, 9, 12, 15, 14, 17, 30, 25, 28, 27, 34, 36, 39, 38, 42, 41] tys3 [false, false, true, true] (a1 s0 (a1 s1 (a1 b0 (a1 s2 (a1 s3 (a1 b1 (a1 s4 (a1 s5 (a1 ((by decide) : (0 : Int) ≤ (0 : Int)) (a1 s6 (a1 b2 (a1 (rfl : Bool.true = Bool.true) trivial)))))))))))) (by kernel_rfl)
        · rw [if_neg b2] at h
          replace b2 := Bool.eq_false_iff.2 b2
          obtain ⟨s7, h⟩ := h
          by_cases b3 : (Decidable.decide (v11 + 1 < (↑(List.length (g6_0 (g5_0 x0) (g5_1 x0) (g5_2 x0))) : Int))) = true
          · rw [if_pos b3] at h
            obtain ⟨s8, s9, h⟩ := h
            by_cases b4 : ((↑(List.length (List.getD (g6_0 (g5_0 x0) (g5_1 x0) (g5_2 x0)) (Int.toNat v11) [])) : Int) != g5_1 x0) = true
            · rw [if_pos b4] at h
              subst h
              exact AtV.ret Try.func3 tabOk ext3Ok mixed false [3, 20, 10, 9, 12, 15, 14, 17, 30, 25, 28, 27, 34, 36, 39, 38, 42, 41] tys3 [false, false, false, true, true] (a1 s0 (a1 s1 (a1 b0 (a1 s2 (a1 s3 (a1 b1 (a1 s4 (a1 s5 (a1 ((by decide) : (0 : Int) ≤ (0 : Int)) (a1 s6 (a1 b2 (a1 s7 (a1 b3 (a1 s8 (a1 s9 (a1 b4 trivial)))))))))))))))) (by kernel_rfl)
            · rw [if_neg b4] at h
              replace b4 := Bool.eq_false_iff.2 b4
              exact AtV.go tabOk ext3Ok mixed false [3, 20, 10, 9, 12, 15, 14, 17, 30, 25, 28, 27, 34, 36, 39, 38, 42, 41] [] [0, 1, 5, 6, 7, 8, 10, 11, 58, 59, 60, 61, 62, 63, 64, 67, 68, 69, 70, 71, 72, 73, 74, 77, 78, 79, 80, 81, 82, 90] [] [false, false, false, true, false] (a1 s0 (a1 s1 (a1 b0 (a1 s2 (a1 s3 (a1 b1 (a1 s4 (a1 s5 (a1 ((by decide) : (0 : Int) ≤ (0 : Int)) (a1 s6 (a1 b2 (a1 s7 (a1 b3 (a1 s8 (a1 s9 (a1 b4 trivial)))))))))))))))) (ih12 _ _ _ _ _ _ h K q) (by kernel_rfl)
          · rw [if_neg b3] at h
            replace b3 := Bool.eq_false_iff.2 b3
            exact AtV.go tabOk ext3Ok mixed false [3, 20, 10, 9, 12, 15, 14, 17, 30, 25, 28, 27, 34, 36, 39, 38, 42, 41] [] [0, 1, 5, 6, 7, 8, 10, 11, 58, 59, 60, 61, 62, 63, 64, 67, 68, 69, 70, 71, 72, 73, 74, 77, 78, 79, 80, 81, 82, 90] [] [false, false, false, false, false] (a1 s0 (a1 s1 (a1 b0 (a1 s2 (a1 s3 (a1 b1 (a1 s4 (a1 s5 (a1 ((by decide) : (0 : Int) ≤ (0 : Int)) (a1 s6 (a1 b2 (a1 s7 (a1 b3 (a1 (rfl : Bool.false = Bool.false) trivial)))))))))))))) (ih12 _ _ _ _ _ _ h K q) (by kernel_rfl)

  · intro x0 x1 ds h K q
    rw [R3_25] at h
    exact AtV.go tabOk ext3Ok mixed false [3, 20, 10, 9, 12, 15, 14, 17, 30, 25, 28, 27, 34, 36, 39, 38, 42, 41] [] [0, 13, 14, 15, 17] [0, 1] [] trivial (ih26 _ _ _ _ h K q) (by kernel_rfl)

  · intro x0 ds h K q
    rw [R3_30] at h
    obtain ⟨s0, h⟩ := h
    by_cases b0 : (g12_1 (g11_0 x0) (g11_1 x0) != 0) = true
    · rw [if_pos b0] at h
      subst h
      exact AtV.ret Try.func3 tabOk ext3Ok mixed false [3, 20, 10, 9, 12, 15, 14, 17, 30, 25, 28, 27, 34, 36, 39, 38, 42, 41] tys3 [true] (a1 trivial (a1 s0 (a1 b0 trivial))) (by kernel_rfl)
    · rw [if_neg b0] at h
      replace b0 := Bool.eq_false_iff.2 b0
      exact AtV.go tabOk ext3Ok mixed false [3, 20, 10, 9, 12, 15, 14, 17, 30, 25, 28, 27, 34, 36, 39, 38, 42, 41] [] [18, 19, 20] [0, 1] [false] (a1 trivial (a1 s0 (a1 b0 trivial))) (ih34 _ _ h K q) (by kernel_rfl)

  · intro v90 x0 x1 v10 v11 ds h K q
    rw [R3_12] at h
    exact AtV.go tabOk ext3Ok mixed false [3, 20, 10, 9, 12, 15, 14, 17, 30, 25, 28, 27, 34, 36, 39, 38, 42, 41] [] [0, 1, 5, 6, 7, 8, 10, 11, 12, 58, 59, 60, 61, 62, 63, 64, 67, 68, 69, 70, 71, 72, 73, 74, 77, 78, 79, 80, 81, 82, 90] [] [] trivial (ih13 _ _ _ _ _ _ _ h K q) (by kernel_rfl)

  · intro v17 x0 x1 ds h K q
    rw [R3_26] at h
    by_cases b0 : (Decidable.decide (v17 < (↑(List.length (g7_0 x1)) : Int))) = true
    · rw [if_pos b0] at h
      exact AtV.go tabOk ext3Ok mixed false [3, 20, 10, 9, 12, 15, 14, 17, 30, 25, 28, 27, 34, 36, 39, 38, 42, 41] [] [0, 13, 14, 15, 17] [0, 1] [true] (a1 b0 trivial) (ih28 _ _ _ _ h K q) (by kernel_rfl)
    · rw [if_neg b0] at h
      replace b0 := Bool.eq_false_iff.2 b0
      exact AtV.go tabOk ext3Ok mixed false [3, 20, 10, 9, 12, 15, 14, 17, 30, 25, 28, 27, 34, 36, 39, 38, 42, 41] [] [0] [] [false] (a1 b0 trivial) (ih30 _ _ h K q) (by kernel_rfl)

  · intro x0 ds h K q
    rw [R3_34] at h
    by_cases b0 : ((↑(List.length (g12_0 (g11_0 x0) (g11_1 x0))) : Int) != (↑(List.length (g11_0 x0)) : Int)) = true
    · rw [if_pos b0] at h
      subst h
      exact AtV.ret Try.func3 tabOk ext3Ok mixed false [3, 20, 10, 9, 12, 15, 14, 17, 30, 25, 28, 27, 34, 36, 39, 38, 42, 41] tys3 [true] (a1 b0 trivial) (by kernel_rfl)
    · rw [if_neg b0] at h
      replace b0 := Bool.eq_false_iff.2 b0
      exact AtV.go tabOk ext3Ok mixed false [3, 20, 10, 9, 12, 15, 14, 17, 30, 25, 28, 27, 34, 36, 39, 38, 42, 41] [] [18, 19, 20] [0, 1] [false] (a1 b0 trivial) (ih36 _ _ h K q) (by kernel_rfl)

  · intro v10 v12 x0 x1 v11 v90 ds h K q
    rw [R3_13] at h
    obtain ⟨s0, s1, h⟩ := h
    by_cases b0 : (Decidable.decide (v12 < (↑(List.length (List.getD (g6_0 (g5_0 x0) (g5_1 x0) (g5_2 x0)) (Int.toNat v11) [])) : Int))) = true
    · rw [if_pos b0] at h
      exact AtV.go tabOk ext3Ok mixed false [3, 20, 10, 9, 12, 15, 14, 17, 30, 25, 28, 27, 34, 36, 39, 38, 42, 41] [] [0, 1, 5, 6, 7, 8, 10, 11, 12, 58, 59, 60, 61, 62, 63, 64, 67, 68, 69, 70, 71, 72, 73, 74, 77, 78, 79, 80, 81, 82, 90] [] [true] (a1 s0 (a1 s1 (a1 b0 trivial))) (ih15 _ _ _ _ _ _ _ h K q) (by kernel_rfl)
    · rw [if_neg b0] at h
      replace b0 := Bool.eq_false_iff.2 b0
      exact AtV.go tabOk ext3Ok mixed false [3, 20, 10, 9, 12, 15, 14, 17, 30, 25, 28, 27, 34, 36, 39, 38, 42, 41] [] [0, 1, 5, 6, 7, 8, 10, 11, 58, 59, 60, 61, 62, 63, 64, 67, 68, 69, 70, 71, 72, 73, 74, 77, 78, 79, 80, 81, 82, 90] [] [false] (a1 s0 (a1 s1 (a1 b0 trivial))) (ih9 _ _ _ _ _ _ h K q) (by kernel_rfl)

  · intro x0 x1 v17 ds h K q
    rw [R3_28] at h
    obtain ⟨s0, s1, h⟩ := h
    by_cases b0 : (ByteArray.toList (List.getD (g7_0 x1) (Int.toNat v17) ByteArray.empty) == ByteArray.toList (g7_1 x1)) = true
    · rw [if_pos b0] at h
      by_cases b1 : (!g10_0 (g8_0 (g7_0 x1) (g7_1 x1)) v17) = true
      · rw [if_pos b1] at h
        subst h
        exact AtV.ret Try.func3 tabOk ext3Ok mixed false [3, 20, 10, 9, 12, 15, 14, 17, 30, 25, 28, 27, 34, 36, 39, 38, 42, 41] tys3 [true, true] (a1 s0 (a1 s1 (a1 b0 (a1 trivial (a1 b1 trivial))))) (by kernel_rfl)
      · rw [if_neg b1] at h
        replace b1 := Bool.eq_false_iff.2 b1
        exact AtV.go tabOk ext3Ok mixed false [3, 20, 10, 9, 12, 15, 14, 17, 30, 25, 28, 27, 34, 36, 39, 38, 42, 41] [] [0, 13, 14, 15, 17] [0, 1] [true, false] (a1 s0 (a1 s1 (a1 b0 (a1 trivial (a1 b1 trivial))))) (ih27 _ _ _ _ h K q) (by kernel_rfl)
    · rw [if_neg b0] at h
      replace b0 := Bool.eq_false_iff.2 b0
      exact AtV.go tabOk ext3Ok mixed false [3, 20, 10, 9, 12, 15, 14, 17, 30, 25, 28, 27, 34, 36, 39, 38, 42, 41] [] [0, 13, 14, 15, 17] [0, 1] [false, false] (a1 s0 (a1 s1 (a1 b0 (a1 (rfl : Bool.false = Bool.false) trivial)))) (ih27 _ _ _ _ h K q) (by kernel_rfl)

  · intro x0 ds h K q
    rw [R3_36] at h
    exact AtV.go tabOk ext3Ok mixed false [3, 20, 10, 9, 12, 15, 14, 17, 30, 25, 28, 27, 34, 36, 39, 38, 42, 41] [] [18, 19, 20, 22] [0, 1] [] trivial (ih37 _ _ _ h K q) (by kernel_rfl)

  · intro x0 x1 v10 v11 v12 v90 ds h K q
    rw [R3_15] at h
    by_cases b0 : (Decidable.decide (v10 ≥ (↑(List.length (g5_0 x0)) : Int))) = true
    · rw [if_pos b0] at h
      subst h
      exact AtV.ret Try.func3 tabOk ext3Ok mixed false [3, 20, 10, 9, 12, 15, 14, 17, 30, 25, 28, 27, 34, 36, 39, 38, 42, 41] tys3 [true, true] (a1 b0 (a1 (rfl : Bool.true = Bool.true) trivial)) (by kernel_rfl)
    · rw [if_neg b0] at h
      replace b0 := Bool.eq_false_iff.2 b0
      obtain ⟨s0, s1, h⟩ := h
      obtain ⟨s2, s3, h⟩ := h
      obtain ⟨s4, s5, h⟩ := h
      by_cases b1 : (!ByteArray.toList (List.getD (List.getD (g6_0 (g5_0 x0) (g5_1 x0) (g5_2 x0)) (Int.toNat v11) []) (Int.toNat v12) ByteArray.empty) == ByteArray.toList (List.getD (g5_0 x0) (Int.toNat v10) ByteArray.empty)) = true
      · rw [if_pos b1] at h
        subst h
        exact AtV.ret Try.func3 tabOk ext3Ok mixed false [3, 20, 10, 9, 12, 15, 14, 17, 30, 25, 28, 27, 34, 36, 39, 38, 42, 41] tys3 [false, true] (a1 b0 (a1 s0 (a1 s1 (a1 s2 (a1 s3 (a1 s4 (a1 s5 (a1 b1 trivial)))))))) (by kernel_rfl)
      · rw [if_neg b1] at h
        replace b1 := Bool.eq_false_iff.2 b1
        exact AtV.go tabOk ext3Ok mixed false [3, 20, 10, 9, 12, 15, 14, 17, 30, 25, 28, 27, 34, 36, 39, 38, 42, 41] [] [0, 1, 5, 6, 7, 8, 10, 11, 12, 58, 59, 60, 61, 62, 63, 64, 67, 68, 69, 70, 71, 72, 73, 74, 77, 78, 79, 80, 81, 82, 90, 106, 107, 108, 109, 110, 111, 112, 113, 114, 115, 116, 117] [] [false, false] (a1 b0 (a1 s0 (a1 s1 (a1 s2 (a1 s3 (a1 s4 (a1 s5 (a1 b1 trivial)))))))) (ih17 _ _ _ _ _ _ _ h K q) (by kernel_rfl)

  · intro x0 x1 v10 v11 v90 ds h K q
    rw [R3_9] at h
    obtain ⟨s0, h⟩ := h
    exact AtV.go tabOk ext3Ok mixed false [3, 20, 10, 9, 12, 15, 14, 17, 30, 25, 28, 27, 34, 36, 39, 38, 42, 41] [] [0, 1, 5, 6, 7, 8, 10, 11] [] [] (a1 s0 trivial) (ih8 _ _ _ _ _ h K q) (by kernel_rfl)

  · intro x0 x1 v17 ds h K q
    rw [R3_27] at h
    obtain ⟨s0, h⟩ := h
    exact AtV.go tabOk ext3Ok mixed false [3, 20, 10, 9, 12, 15, 14, 17, 30, 25, 28, 27, 34, 36, 39, 38, 42, 41] [] [0, 13, 14, 15, 17] [0, 1] [] (a1 s0 trivial) (ih26 _ _ _ _ h K q) (by kernel_rfl)

  · intro v22 x0 ds h K q
    rw [R3_37] at h
    by_cases b0 : (Decidable.decide (v22 < (↑(List.length (g11_0 x0)) : Int))) = true
    · rw [if_pos b0] at h
      exact AtV.go tabOk ext3Ok mixed false [3, 20, 10, 9, 12, 15, 14, 17, 30, 25, 28, 27, 34, 36, 39, 38, 42, 41] [] [18, 19, 20, 22] [0, 1] [true] (a1 b0 trivial) (ih39 _ _ _ h K q) (by kernel_rfl)
    · rw [if_neg b0] at h
      replace b0 := Bool.eq_false_iff.2 b0
      subst h
      exact AtV.ret Try.func3 tabOk ext3Ok mixed false [3, 20, 10, 9, 12, 15, 14, 17, 30, 25, 28, 27, 34, 36, 39, 38, 42, 41] tys3 [false] (a1 b0 trivial) (by kernel_rfl)

  · intro x0 x1 v10 v11 v12 v90 ds h K q
    rw [R3_17] at h
    obtain ⟨s0, h⟩ := h
    exact AtV.go tabOk ext3Ok mixed false [3, 20, 10, 9, 12, 15, 14, 17, 30, 25, 28, 27, 34, 36, 39, 38, 42, 41] [] [0, 1, 5, 6, 7, 8, 10, 11, 12, 58, 59, 60, 61, 62, 63, 64, 67, 68, 69, 70, 71, 72, 73, 74, 77, 78, 79, 80, 81, 82, 90, 106, 107, 108, 109, 110, 111, 112, 113, 114, 115, 116, 117] [] [] (a1 s0 trivial) (ih14 _ _ _ _ _ _ _ h K q) (by kernel_rfl)

  · intro x0 v22 ds h K q
    rw [R3_39] at h
    exact AtV.go tabOk ext3Ok mixed false [3, 20, 10, 9, 12, 15, 14, 17, 30, 25, 28, 27, 34, 36, 39, 38, 42, 41] [] [18, 19, 20, 22, 23] [0, 1] [] trivial (ih40 _ _ _ _ h K q) (by kernel_rfl)

  · intro x0 x1 v10 v11 v12 v90 ds h K q
    rw [R3_14] at h
    obtain ⟨s0, h⟩ := h
    exact AtV.go tabOk ext3Ok mixed false [3, 20, 10, 9, 12, 15, 14, 17, 30, 25, 28, 27, 34, 36, 39, 38, 42, 41] [] [0, 1, 5, 6, 7, 8, 10, 11, 12, 58, 59, 60, 61, 62, 63, 64, 67, 68, 69, 70, 71, 72, 73, 74, 77, 78, 79, 80, 81, 82, 90] [] [] (a1 s0 trivial) (ih13 _ _ _ _ _ _ _ h K q) (by kernel_rfl)

  · intro v23 x0 v22 ds h K q
    rw [R3_40] at h
    by_cases b0 : (Decidable.decide (v23 < (↑(List.length (g11_0 x0)) : Int))) = true
    · rw [if_pos b0] at h
      exact AtV.go tabOk ext3Ok mixed false [3, 20, 10, 9, 12, 15, 14, 17, 30, 25, 28, 27, 34, 36, 39, 38, 42, 41] [] [18, 19, 20, 22, 23] [0, 1] [true] (a1 b0 trivial) (ih42 _ _ _ _ h K q) (by kernel_rfl)
    · rw [if_neg b0] at h
      replace b0 := Bool.eq_false_iff.2 b0
      obtain ⟨s0, s1, h⟩ := h
      by_cases b1 : (Decidable.decide ((↑(ByteArray.size (List.getD (g12_0 (g11_0 x0) (g11_1 x0)) (Int.toNat v22) ByteArray.empty)) : Int) > g11_1 x0)) = true
      · rw [if_pos b1] at h
        subst h
        exact AtV.ret Try.func3 tabOk ext3Ok mixed false [3, 20, 10, 9, 12, 15, 14, 17, 30, 25, 28, 27, 34, 36, 39, 38, 42, 41] tys3 [false, true] (a1 b0 (a1 s0 (a1 s1 (a1 b1 trivial)))) (by kernel_rfl)
      · rw [if_neg b1] at h
        replace b1 := Bool.eq_false_iff.2 b1
        exact AtV.go tabOk ext3Ok mixed false [3, 20, 10, 9, 12, 15, 14, 17, 30, 25, 28, 27, 34, 36, 39, 38, 42, 41] [] [18, 19, 20, 22] [0, 1] [false, false] (a1 b0 (a1 s0 (a1 s1 (a1 b1 trivial)))) (ih38 _ _ _ h K q) (by kernel_rfl)

  · intro x0 v22 v23 ds h K q
    rw [R3_42] at h
    obtain ⟨s0, s1, h⟩ := h
    obtain ⟨s2, s3, h⟩ := h
    by_cases b0 : (Decidable.decide (List.getD (g11_0 x0) (Int.toNat v22) 0 ≤ List.getD (g11_0 x0) (Int.toNat v23) 0)) = true
    · rw [if_pos b0] at h
      obtain ⟨s4, s5, h⟩ := h
      obtain ⟨s6, s7, h⟩ := h
      by_cases b1 : (Decidable.decide ((↑(ByteArray.size (List.getD (g12_0 (g11_0 x0) (g11_1 x0)) (Int.toNat v22) ByteArray.empty)) : Int) > (↑(ByteArray.size (List.getD (g12_0 (g11_0 x0) (g11_1 x0)) (Int.toNat v23) ByteArray.empty)) : Int))) = true
      · rw [if_pos b1] at h
        subst h
        exact AtV.ret Try.func3 tabOk ext3Ok mixed false [3, 20, 10, 9, 12, 15, 14, 17, 30, 25, 28, 27, 34, 36, 39, 38, 42, 41] tys3 [true, true] (a1 s0 (a1 s1 (a1 s2 (a1 s3 (a1 b0 (a1 s4 (a1 s5 (a1 s6 (a1 s7 (a1 b1 trivial)))))))))) (by kernel_rfl)
      · rw [if_neg b1] at h
        replace b1 := Bool.eq_false_iff.2 b1
        exact AtV.go tabOk ext3Ok mixed false [3, 20, 10, 9, 12, 15, 14, 17, 30, 25, 28, 27, 34, 36, 39, 38, 42, 41] [] [18, 19, 20, 22, 23] [0, 1] [true, false] (a1 s0 (a1 s1 (a1 s2 (a1 s3 (a1 b0 (a1 s4 (a1 s5 (a1 s6 (a1 s7 (a1 b1 trivial)))))))))) (ih41 _ _ _ _ h K q) (by kernel_rfl)
    · rw [if_neg b0] at h
      replace b0 := Bool.eq_false_iff.2 b0
      exact AtV.go tabOk ext3Ok mixed false [3, 20, 10, 9, 12, 15, 14, 17, 30, 25, 28, 27, 34, 36, 39, 38, 42, 41] [] [18, 19, 20, 22, 23] [0, 1] [false, false] (a1 s0 (a1 s1 (a1 s2 (a1 s3 (a1 b0 (a1 (rfl : Bool.false = Bool.false) trivial)))))) (ih41 _ _ _ _ h K q) (by kernel_rfl)

  · intro x0 v22 ds h K q
    rw [R3_38] at h
    obtain ⟨s0, h⟩ := h
    exact AtV.go tabOk ext3Ok mixed false [3, 20, 10, 9, 12, 15, 14, 17, 30, 25, 28, 27, 34, 36, 39, 38, 42, 41] [] [18, 19, 20, 22] [0, 1] [] (a1 s0 trivial) (ih37 _ _ _ h K q) (by kernel_rfl)

  · intro x0 v22 v23 ds h K q
    rw [R3_41] at h
    obtain ⟨s0, h⟩ := h
    exact AtV.go tabOk ext3Ok mixed false [3, 20, 10, 9, 12, 15, 14, 17, 30, 25, 28, 27, 34, 36, 39, 38, 42, 41] [] [18, 19, 20, 22, 23] [0, 1] [] (a1 s0 trivial) (ih40 _ _ _ _ h K q) (by kernel_rfl)



def g3_0 (x0 x1 : List Int) : Bool := true
def P3 (x0 x1 : List Int) : Prop := True

theorem r403 {x0 : List Int} {V : List Int} {w : Int} (e0 : g11_0 x0 = V) (e1 : g11_1 x0 = w) (hl : V.length ≤ 300) {B : List ByteArray} (eB : g12_0 V w = B) (hBl : B.length = V.length)
    {i : Nat} (hi : i < V.length) (hw : (((B.getD i ByteArray.empty).size : Nat) : Int) ≤ w) (hk : ∀ k, k < V.length → V.getD i 0 ≤ V.getD k 0 → (B.getD i ByteArray.empty).size ≤ (B.getD k ByteArray.empty).size) (M : Nat) (hn : R3_38 M x0 (i : Int) [⟨.bool, true⟩]) :
    ∀ (k v : Nat), v + k = V.length → R3_40 (3 * k + M + 1) (v : Int) x0 (i : Int) [⟨.bool, true⟩] := by
  intro k
  induction k with
  | zero =>
    intro v hv
    rw [show 3 * 0 + M + 1 = M + 1 by omega, R3_40, e0, e1, if_neg (by simp only [decide_eq_true_eq]; omega), eB]
    simp only [Int.toNat_natCast]
    refine ⟨by omega, by omega, ?_⟩
    rw [if_neg (by simp only [decide_eq_true_eq]; omega)]
    exact hn
  | succ k ih =>
    intro v hv
    have e3 : (v : Int) + 1 = ((v + 1 : Nat) : Int) := by omega
    have nx : R3_41 (3 * k + M + 1 + 1) x0 (i : Int) (v : Int) [⟨.bool, true⟩] := by
      rw [R3_41, e3]
      exact ⟨by rw [i64_iff]; omega, ih (v + 1) (by omega)⟩
    rw [show 3 * (k + 1) + M + 1 = 3 * k + M + 1 + 1 + 1 + 1 by omega, R3_40, e0, if_pos (by simp only [decide_eq_true_eq]; omega), R3_42, e0, e1, eB]
    simp only [Int.toNat_natCast]
    refine ⟨by omega, by omega, by omega, by omega, ?_⟩
    by_cases hc : V.getD i 0 ≤ V.getD v 0
    · have := hk v (by omega) hc
      rw [if_pos (decide_eq_true hc), if_neg (by simp only [decide_eq_true_eq]; omega)]
      exact ⟨by omega, by omega, by omega, by omega, nx⟩
    · rw [if_neg (by simp only [decide_eq_true_eq]; exact hc)]
      exact nx

theorem r373 {x0 : List Int} {V : List Int} {w : Int} (e0 : g11_0 x0 = V) (e1 : g11_1 x0 = w) (hl : V.length ≤ 300) {B : List ByteArray} (eB : g12_0 V w = B) (hBl : B.length = V.length)
    (hall : ∀ i, i < V.length → (((B.getD i ByteArray.empty).size : Nat) : Int) ≤ w ∧ ∀ k, k < V.length → V.getD i 0 ≤ V.getD k 0 → (B.getD i ByteArray.empty).size ≤ (B.getD k ByteArray.empty).size) :
    ∀ (k i : Nat), i + k = V.length → ∃ n, R3_37 n (i : Int) x0 [⟨.bool, true⟩] := by
  intro k
  induction k with
  | zero =>
    intro i hi
    refine ⟨0 + 1, ?_⟩
    rw [R3_37, e0, if_neg (by simp only [decide_eq_true_eq]; omega)]
  | succ k ih =>
    intro i hi
    have e3 : (i : Int) + 1 = ((i + 1 : Nat) : Int) := by omega
    obtain ⟨n, hn⟩ := ih (i + 1) (by omega)
    obtain ⟨h1, h2⟩ := hall i (by omega)
    have h38 : R3_38 (n + 1) x0 (i : Int) [⟨.bool, true⟩] := by
      rw [R3_38, e3]
      exact ⟨by rw [i64_iff]; omega, hn⟩
    have key := r403 e0 e1 hl eB hBl (by omega) h1 h2 (n + 1) h38 V.length 0 (by omega)
    refine ⟨3 * V.length + (n + 1) + 1 + 1 + 1, ?_⟩
    rw [R3_37, e0, if_pos (by simp only [decide_eq_true_eq]; omega), R3_39]
    exact key

theorem r303 (x0 : List Int) (hw : Wf (.sl (.int .u8)) x0) : ∃ n, R3_30 n x0 [⟨.bool, true⟩] := by
  obtain ⟨hq, _⟩ := q11 x0 (ex11 x0 hw)
  obtain ⟨V, e0⟩ : ∃ V, g11_0 x0 = V := ⟨_, rfl⟩
  obtain ⟨w, e1⟩ : ∃ w, g11_1 x0 = w := ⟨_, rfl⟩
  have hl : V.length ≤ 300 := by rw [← e0]; exact hq
  obtain ⟨h1, h2⟩ := bars_law V w
  have p12 : P12 V w := (show V.length ≤ 1048576 by omega)
  obtain ⟨B, eB⟩ : ∃ B, g12_0 V w = B := ⟨_, rfl⟩
  rw [eB] at h1 h2
  by_cases hc : g12_1 V w = 0
  · obtain ⟨l1, l2⟩ := h2 hc
    obtain ⟨n, hn⟩ := r373 e0 e1 hl eB l1 l2 V.length 0 (by omega)
    refine ⟨n + 1 + 1 + 1, ?_⟩
    rw [R3_30, e0, e1, hc, if_neg (by decide), R3_34, e0, e1, eB, l1, if_neg (by simp), R3_36]
    exact ⟨p12, hn⟩
  · have := h1 hc
    refine ⟨0 + 1, ?_⟩
    rw [R3_30, e0, e1, if_pos (by simpa using hc), eB, this]
    exact ⟨p12, rfl⟩

theorem r263 {x0 x1 : List Int} {L : List ByteArray} {w : ByteArray} (e0 : g7_0 x1 = L) (e1 : g7_1 x1 = w) (hl : L.length ≤ 1000) (hh : ∀ j, j < L.length → L.getD j ByteArray.empty = w → g10_0 (g8_0 L w) (j : Int) = true) (M : Nat) (hn : R3_30 M x0 [⟨.bool, true⟩]) :
    ∀ (k v : Nat), v + k = L.length → R3_26 (3 * k + M + 1) (v : Int) x0 x1 [⟨.bool, true⟩] := by
  intro k
  induction k with
  | zero =>
    intro v hv
    rw [show 3 * 0 + M + 1 = M + 1 by omega, R3_26, e0, if_neg (by simp only [decide_eq_true_eq]; omega)]
    exact hn
  | succ k ih =>
    intro v hv
    have e3 : (v : Int) + 1 = ((v + 1 : Nat) : Int) := by omega
    have nx : R3_27 (3 * k + M + 1 + 1) x0 x1 (v : Int) [⟨.bool, true⟩] := by
      rw [R3_27, e3]
      exact ⟨by rw [i64_iff]; omega, ih (v + 1) (by omega)⟩
    rw [show 3 * (k + 1) + M + 1 = 3 * k + M + 1 + 1 + 1 + 1 by omega, R3_26, e0, if_pos (by simp only [decide_eq_true_eq]; omega), R3_28, e0, e1]
    simp only [Int.toNat_natCast]
    refine ⟨by omega, by omega, ?_⟩
    by_cases hc : (ByteArray.toList (L.getD v ByteArray.empty) == ByteArray.toList w) = true
    · rw [if_pos hc, hh v (by omega) ((bytes_eq _ _).1 hc), if_neg (by decide)]
      exact nx
    · rw [if_neg hc]
      exact nx

theorem r203 (x0 x1 : List Int) (w0 : Wf (.sl (.int .u8)) x0) (w1 : Wf (.sl (.int .u8)) x1) : ∃ n, R3_20 n x0 x1 [⟨.bool, true⟩] := by
  obtain ⟨n, hn⟩ := r303 x0 w0
  have p14 : P14 (g13_0 x1) := (src_start w1).up (by decide)
  obtain ⟨s1, ⟨q1, q2⟩, _⟩ := q14 _ p14
  have s1 : SrcOk 1000 (u14_0 (g13_0 x1)) := s1
  obtain ⟨p16, s2, m2⟩ := text_ok s1 [ByteArray.mk #[97], ByteArray.mk #[99], ByteArray.mk #[49, 50], ByteArray.mk #[99, 99], ByteArray.mk #[], ByteArray.mk #[32], ByteArray.mk #[114, 111, 112, 101], ByteArray.mk #[113]] (by decide) (by decide)
  have p7 : P7 x1 := ⟨p14, p16, trivial⟩
  obtain ⟨L, e0⟩ : ∃ L, g7_0 x1 = L := ⟨_, rfl⟩
  obtain ⟨w, e1⟩ : ∃ w, g7_1 x1 = w := ⟨_, rfl⟩
  have hl : L.length ≤ 250 := by rw [← e0]; exact q1
  have hs : ∀ z ∈ L, z.size ≤ 200 := by rw [← e0]; exact q2
  have p8 : P8 L w := ⟨by omega, fun z hz => by have := hs z hz; omega⟩
  by_cases hc : g8_1 L w = 0
  · obtain ⟨h1, h2⟩ := find_law L w hc
    have key := r263 (x0 := x0) e0 e1 (by omega) h2 n hn L.length 0 (by omega)
    refine ⟨3 * L.length + n + 1 + 1 + 1, ?_⟩
    rw [R3_20, e0, e1, hc, if_pos (by decide), h1, if_neg (by decide), R3_25]
    exact ⟨p7, p8, key⟩
  · refine ⟨n + 1, ?_⟩
    rw [R3_20, e0, e1, if_neg (by simpa using hc)]
    exact ⟨p7, p8, hn⟩

theorem r133 {x0 x1 : List Int} {L : List ByteArray} {H : Int} {hd : ByteArray} (e0 : g5_0 x0 = L) (e1 : g5_1 x0 = H) (e2 : g5_2 x0 = hd) {G : List (List ByteArray)} (eG : g6_0 L H hd = G) (hl : L.length ≤ 1000)
    {i : Nat} (hi : i < G.length) {f s : Nat} (hg : G.getD i [] = hd :: (L.drop f).take s) {b : Bool} (c : Nat) (hc : ((L.drop f).take s).length = c) (M : Nat) (hn : R3_9 M x0 x1 ((f + c : Nat) : Int) (i : Int) b [⟨.bool, true⟩]) :
    ∀ (k j : Nat), j + k = c → R3_13 (4 * k + M + 1) ((f + j : Nat) : Int) ((1 + j : Nat) : Int) x0 x1 (i : Int) b [⟨.bool, true⟩] := by
  have hfc : f + c ≤ L.length ∨ c = 0 := by rw [List.length_take, List.length_drop] at hc; omega
  have hlen : (G.getD i []).length = c + 1 := by rw [hg, List.length_cons, hc]
  intro k
  induction k with
  | zero =>
    intro j hj
    have : j = c := by omega
    subst this
    rw [show 4 * 0 + M + 1 = M + 1 by omega, R3_13, e0, e1, e2, eG]
    simp only [Int.toNat_natCast]
    refine ⟨by omega, by omega, ?_⟩
    rw [if_neg (by simp only [decide_eq_true_eq]; omega)]
    exact hn
  | succ k ih =>
    intro j hj
    have e3 : ((f + j : Nat) : Int) + 1 = ((f + (j + 1) : Nat) : Int) := by omega
    have e4 : ((1 + j : Nat) : Int) + 1 = ((1 + (j + 1) : Nat) : Int) := by omega
    have hjc : j < c := by omega
    have hat : (G.getD i []).getD (1 + j) ByteArray.empty = L.getD (f + j) ByteArray.empty := by
      rw [hg, Nat.add_comm 1 j, List.getD_cons_succ, List.getD_eq_getElem?_getD, List.getD_eq_getElem?_getD, List.getElem?_take_of_lt (by rw [List.length_take] at hc; omega), List.getElem?_drop]
    rw [show 4 * (k + 1) + M + 1 = 4 * k + M + 1 + 1 + 1 + 1 + 1 by omega, R3_13, e0, e1, e2, eG]
    simp only [Int.toNat_natCast]
    refine ⟨by omega, by omega, ?_⟩
    have hq : ¬ (!ByteArray.toList ((G.getD i []).getD (1 + j) ByteArray.empty) == ByteArray.toList (L.getD (f + j) ByteArray.empty)) = true := by rw [hat, beq_self_eq_true]; decide
    rw [if_pos (by simp only [decide_eq_true_eq]; omega), R3_15, e0, e1, e2, eG]
    simp only [Int.toNat_natCast]
    rw [if_neg (by simp only [decide_eq_true_eq]; omega), if_neg hq, R3_17, e3, R3_14, e3, e4]
    exact ⟨by omega, by omega, by omega, by omega, by omega, by omega, by rw [i64_iff]; omega, by rw [i64_iff]; omega, ih (j + 1) (by omega)⟩

theorem r83 {x0 x1 : List Int} {L : List ByteArray} {H : Int} {hd : ByteArray} (e0 : g5_0 x0 = L) (e1 : g5_1 x0 = H) (e2 : g5_2 x0 = hd) {G : List (List ByteArray)} (eG : g6_0 L H hd = G) (hl : L.length ≤ 1000)
    {s : Nat} (hs : H = (s : Int) + 1) (h1 : 1 ≤ s) (h2 : s ≤ 199) (hGl : G.length ≤ 2000)
    (hrow : ∀ i, i < G.length → G.getD i [] = hd :: (L.drop (i * s)).take s ∧ i * s < L.length ∧ (i + 1 < G.length → (i + 1) * s < L.length)) (hend : L.length ≤ G.length * s) (M : Nat) (hn : R3_20 M x0 x1 [⟨.bool, true⟩]) :
    ∀ (k i : Nat), i + k = G.length → ∃ n, R3_8 n ((min L.length (i * s) : Nat) : Int) (i : Int) x0 x1 [⟨.bool, true⟩] := by
  intro k
  induction k with
  | zero =>
    intro i hi
    have : i = G.length := by omega
    subst this
    refine ⟨M + 1, ?_⟩
    rw [R3_8, e0, e1, e2, eG, if_neg (by simp only [decide_eq_true_eq]; omega), Nat.min_eq_left hend, if_neg (by simp)]
    exact hn
  | succ k ih =>
    intro i hi
    have hlt : i < G.length := by omega
    obtain ⟨n, hn⟩ := ih (i + 1) (by omega)
    obtain ⟨g1, g2, g3⟩ := hrow i hlt
    have e3 : (i : Int) + 1 = ((i + 1 : Nat) : Int) := by omega
    have hsu : (i + 1) * s = i * s + s := Nat.succ_mul i s
    have hc : ((L.drop (i * s)).take s).length = min s (L.length - i * s) := by rw [List.length_take, List.length_drop]
    have hmin : i * s + min s (L.length - i * s) = min L.length ((i + 1) * s) := by rw [hsu]; omega
    have h9 : ∀ b, R3_9 (n + 1) x0 x1 ((i * s + min s (L.length - i * s) : Nat) : Int) (i : Int) b [⟨.bool, true⟩] := fun b => by
      rw [R3_9, e3, hmin]
      exact ⟨by rw [i64_iff]; omega, hn⟩
    have h12 : ∀ b, R3_12 (4 * min s (L.length - i * s) + (n + 1) + 1 + 1) b x0 x1 ((i * s : Nat) : Int) (i : Int) [⟨.bool, true⟩] := fun b => by
      have := r133 e0 e1 e2 eG hl hlt g1 (b := b) (min s (L.length - i * s)) hc (n + 1) (h9 b) (min s (L.length - i * s)) 0 (by omega)
      rw [R3_12]
      exact this
    have hlen : (G.getD i []).length = min s (L.length - i * s) + 1 := by rw [g1, List.length_cons, hc]
    have h0 : (G.getD i []).getD 0 ByteArray.empty = hd := by rw [g1]; rfl
    refine ⟨4 * min s (L.length - i * s) + (n + 1) + 1 + 1 + 1 + 1, ?_⟩
    have em : min L.length (i * s) = i * s := Nat.min_eq_right (by omega)
    rw [em, R3_8, e0, e1, e2, eG, if_pos (by simp only [decide_eq_true_eq]; omega), R3_10, e0, e1, e2, eG, e3]
    simp only [Int.toNat_natCast]
    have hq : ¬ (!ByteArray.toList ((G.getD i []).getD 0 ByteArray.empty) == ByteArray.toList hd) = true := by rw [h0, beq_self_eq_true]; decide
    refine ⟨by omega, by omega, ?_⟩
    rw [if_neg (by simp only [decide_eq_true_eq]; omega)]
    refine ⟨by omega, by omega, ?_⟩
    rw [if_neg (by simp only [decide_eq_true_eq]; omega)]
    refine ⟨by omega, by omega, by omega, ?_⟩
    rw [if_neg hq]
    refine ⟨by rw [i64_iff]; omega, ?_⟩
    by_cases hm : i + 1 < G.length
    · have := g3 hm
      rw [if_pos (by simp only [decide_eq_true_eq]; omega)]
      refine ⟨by omega, by omega, ?_⟩
      have he : ¬ ((((G.getD i []).length : Nat) : Int) != H) = true := by
        rw [bne_iff_ne, ne_eq, Decidable.not_not]; omega
      rw [if_neg he]
      exact h12 _
    · rw [if_neg (by simp only [decide_eq_true_eq]; omega)]
      exact h12 _

theorem top3 (x0 x1 : List Int) (w0 : Wf (.sl (.int .u8)) x0) (w1 : Wf (.sl (.int .u8)) x1) : ∃ n, R3 n x0 x1 [⟨.bool, g3_0 x0 x1⟩] := by
  unfold g3_0
  obtain ⟨n, hn⟩ := r203 x0 x1 w0 w1
  have p14 : P14 (g13_0 x0) := (src_start w0).up (by decide)
  obtain ⟨s1, ⟨q1, q2⟩, _⟩ := q14 _ p14
  have s1 : SrcOk 1000 (u14_0 (g13_0 x0)) := s1
  obtain ⟨p15, s2, _⟩ := among_ok s1 [2, 3, 5, 200, 201, 1] (by decide) (by decide)
  obtain ⟨p16, _⟩ := text_ok s2 [ByteArray.mk #[104, 101, 97, 100], ByteArray.mk #[], ByteArray.mk #[10], ByteArray.mk #[80, 97, 103, 101]] (by decide) (by decide)
  have p5 : P5 x0 := ⟨p14, p15, p16, trivial⟩
  obtain ⟨L, e0⟩ : ∃ L, g5_0 x0 = L := ⟨_, rfl⟩
  obtain ⟨H, e1⟩ : ∃ L, g5_1 x0 = L := ⟨_, rfl⟩
  obtain ⟨hd, e2⟩ : ∃ L, g5_2 x0 = L := ⟨_, rfl⟩
  have hl : L.length ≤ 250 := by rw [← e0]; exact q1
  have p6 : P6 L H hd := (show L.length ≤ 1000 by omega)
  by_cases hc : g6_1 L H hd = 0
  · have hc' := hc
    unfold g6_1 at hc'
    split at hc'
    case isFalse => exact absurd hc' (by decide)
    rename_i v1
    split at hc'
    case isFalse => exact absurd hc' (by decide)
    rename_i v2
    split at hc'
    case isFalse => exact absurd hc' (by decide)
    rename_i v3
    have hb : 2 ≤ H ∧ H ≤ 200 := by
      unfold g18_0 at v2
      split at v2
      · rename_i h1; exact ⟨of_decide_eq_true h1, of_decide_eq_true v2⟩
      · cases v2
    obtain ⟨s, hs⟩ := Int.eq_ofNat_of_zero_le (show 0 ≤ H - 1 by omega)
    have eG : g6_0 L H hd = pgs6 L s hd (L.length + 1) 0 := by
      unfold g6_0
      rw [if_pos v1, if_pos v2, if_pos v3, hs, Int.toNat_natCast]
    have hend := pgs_end L s (by omega) hd (L.length + 1) 0 (by omega)
    have hrow := fun i h => pgs_get L s hd (L.length + 1) 0 i h
    obtain ⟨G, hG⟩ : ∃ G, pgs6 L s hd (L.length + 1) 0 = G := ⟨_, rfl⟩
    rw [hG] at eG hend hrow
    have hrow : ∀ i, i < G.length → G.getD i [] = hd :: (L.drop (i * s)).take s ∧ i * s < L.length ∧ (i + 1 < G.length → (i + 1) * s < L.length) := fun i h => by
      have := hrow i h
      rw [Nat.zero_add, Nat.zero_add] at this
      exact this
    rw [Nat.zero_add] at hend
    have hGl : G.length ≤ 2000 := by
      apply Classical.byContradiction
      intro hh
      have := (hrow 1999 (by omega)).2.1
      have h2 : 1999 * 1 ≤ 1999 * s := Nat.mul_le_mul_left _ (by omega)
      omega
    obtain ⟨m, hm⟩ := r83 (x1 := x1) e0 e1 e2 eG (by omega) (by omega) (by omega) (by omega) hGl hrow hend n hn G.length 0 (by omega)
    rw [Nat.zero_mul, Nat.min_zero] at hm
    refine ⟨m + 1 + 1, ?_⟩
    rw [R3]
    split
    · rfl
    split
    · rfl
    rw [R3_3, e0, e1, e2, hc, if_pos (by decide)]
    exact ⟨p5, p6, hm⟩
  · refine ⟨n + 1 + 1, ?_⟩
    rw [R3]
    split
    · rfl
    split
    · rfl
    rw [R3_3, e0, e1, e2, if_neg (by simpa using hc)]
    exact ⟨p5, p6, hn⟩

def S3 : Am.Spec := { sig := sig3, pre := fun ⟨x0, x1, _⟩ => P3 x0 x1, res := fun ⟨x0, x1, _⟩ => [⟨Ty.bool, g3_0 x0 x1⟩] }
theorem con3 : Contract Try.prog 3 S3 := contract_of Try.func3 hb3 (Nat.le_of_ble_eq_true (by kernel_rfl)) (fun ⟨x0, x1, _⟩ h hwf K q =>
  let ⟨n, hn⟩ := top3 x0 x1 hwf.1 hwf.2.1
  (snd3 n).1 x0 x1 _ hn K q)

end
end Go.Proofs.Ytldkifoapiianaa

/- The plain law of FnPages. -/
set_option linter.unusedVariables false
set_option linter.unusedSimpArgs false
set_option maxRecDepth 100000
namespace Go.Proofs.Ytldkifoapiianaa
open Go Go.Am Go.Proofs

theorem law3 (x0 x1 : List Int) (h0 : Wf (.sl (.int .u8)) x0) (h1 : Wf (.sl (.int .u8)) x1) : P3 x0 x1 ∧ g3_0 x0 x1 = true := ⟨trivial, rfl⟩

end Go.Proofs.Ytldkifoapiianaa
