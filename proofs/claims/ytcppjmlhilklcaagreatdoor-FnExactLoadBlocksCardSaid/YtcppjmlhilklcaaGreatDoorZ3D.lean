/- Several texts in one: the functions that this law reaches, and their laws. -/
import Derived.Test.YtcppjmlhilklcaaGreatDoorZ3A
import Derived.Test.YtcppjmlhilklcaaGreatDoorZ3B
import Derived.Test.YtcppjmlhilklcaaGreatDoorZ3C
import Derived.Lib.ItoaNum
import Derived.Lib.IndexAny
import Derived.Lib.IndexMore
import Derived.Lib.TrimByte
import Derived.Lib.ParseIntBCases

/- Function 9 (spec.l29Lines): its runs between cut points. Written by a program of this repo (gen). -/
set_option linter.unusedVariables false
set_option linter.unusedSimpArgs false
set_option maxRecDepth 100000
namespace Go.Proofs.YtcppjmlhilklcaaGreatDoor
open Go Go.Am Go.Proofs
def ext9 : Ext := [(24, S24)]
theorem call9_24 : Callable Tryz.prog 24 := ⟨Tryz.f24, Tryz.func24, by kernel_rfl, by kernel_rfl⟩
theorem ext9Ok : ExtOk Tryz.prog ext9 := ⟨⟨call9_24, con24⟩, trivial⟩
/-! Function 9. -/
noncomputable def b9 : Code := bodyOf Tryz.f9
theorem hb9 : Tryz.f9.body = some b9 := by kernel_rfl
def sig9 : List AT := [AT.v (Ty.str)]
def tys9 : List Ty := [Ty.sl Ty.str, Ty.bool]
def P9 (x0 : ByteArray) : Prop := ((P24 x0 10) ∧ ((InR IntKind.i64 ((↑(List.length (g24_0 x0 10)) : Int) - 1)) ∧ ((0 ≤ (↑(List.length (g24_0 x0 10)) : Int) - 1) ∧ ((↑(List.length (g24_0 x0 10)) : Int) - 1 ≤ (↑(List.length (g24_0 x0 10) - 0) : Int)) ∧ ((0 ≤ (↑(List.length (g24_0 x0 10)) : Int) - 1) ∧ ((↑(List.length (g24_0 x0 10)) : Int) - 1 < (↑(List.length (g24_0 x0 10)) : Int)) ∧ True))))
def g9_0 (x0 : ByteArray) : List ByteArray := List.drop 0 (List.take (0 + Int.toNat ((↑(List.length (g24_0 x0 10)) : Int) - 1)) (g24_0 x0 10))
def g9_1 (x0 : ByteArray) : Bool := ByteArray.toList (List.getD (g24_0 x0 10) (Int.toNat ((↑(List.length (g24_0 x0 10)) : Int) - 1)) ByteArray.empty) == ByteArray.toList (ByteArray.mk #[])
theorem p9_0 (x0 : ByteArray) : runF tab ext9 false 19 [] 2000 [] tys9 Tryz.f9.results [] [.code b9] (entE 0 0 sig9 (x0, ())) (entL sig9 (x0, ())) = some ([Dyn.mk (Ty.sl Ty.str) (List.drop 0 (List.take (0 + Int.toNat ((↑(List.length (g24_0 x0 10)) : Int) - 1)) (g24_0 x0 10))), Dyn.mk Ty.bool (ByteArray.toList (List.getD (g24_0 x0 10) (Int.toNat ((↑(List.length (g24_0 x0 10)) : Int) - 1)) ByteArray.empty) == ByteArray.toList (ByteArray.mk #[]))], [], [P24 x0 10, InR IntKind.i64 ((↑(List.length (g24_0 x0 10)) : Int) - 1), 0 ≤ (↑(List.length (g24_0 x0 10)) : Int) - 1, (↑(List.length (g24_0 x0 10)) : Int) - 1 ≤ (↑(List.length (g24_0 x0 10) - 0) : Int), 0 ≤ (↑(List.length (g24_0 x0 10)) : Int) - 1, (↑(List.length (g24_0 x0 10)) : Int) - 1 < (↑(List.length (g24_0 x0 10)) : Int)]) := by kernel_rfl
theorem at9 (x0 : ByteArray) (h : P9 x0) (w0 : World) (O : List Nat) (q : Nat → Value) : AtV Tryz.prog 9 (PostR [⟨Ty.sl Ty.str, g9_0 x0⟩, ⟨Ty.bool, g9_1 x0⟩] [] [] q w0 O) 19 w0 O q [] [.code b9] (entE 0 0 sig9 (x0, ())) (entL sig9 (x0, ())) := by
  unfold P9 at h
  unfold g9_0 g9_1
  obtain ⟨s0, h⟩ := h
  obtain ⟨s1, h⟩ := h
  obtain ⟨s2, s3, h⟩ := h
  obtain ⟨s4, s5, h⟩ := h
  exact AtV.fin Tryz.func9 tabOk ext9Ok mixed (p9_0 x0) ⟨s0, s1, s2, s3, s4, s5, trivial⟩

def S9 : Am.Spec := { sig := sig9, pre := fun ⟨x0, _⟩ => P9 x0, res := fun ⟨x0, _⟩ => [⟨Ty.sl Ty.str, g9_0 x0⟩, ⟨Ty.bool, g9_1 x0⟩] }
theorem con9 : Contract Tryz.prog 9 S9 := contract_of Tryz.func9 hb9 (Nat.le_of_ble_eq_true (by kernel_rfl)) (fun ⟨x0, _⟩ h _ w0 O q => at9 x0 h w0 O q)


end Go.Proofs.YtcppjmlhilklcaaGreatDoor

/- Function 28 (spec.l01Crc): its runs between cut points. Written by a program of this repo (gen). -/
set_option linter.unusedVariables false
set_option linter.unusedSimpArgs false
set_option maxRecDepth 100000
namespace Go.Proofs.YtcppjmlhilklcaaGreatDoor
open Go Go.Am Go.Proofs
def ext28 : Ext := []
theorem ext28Ok : ExtOk Tryz.prog ext28 := trivial
/-! Function 28. -/
noncomputable def b28 : Code := bodyOf Tryz.f28
theorem hb28 : Tryz.f28.body = some b28 := by kernel_rfl
def sig28 : List AT := [AT.v (Ty.str), AT.v (Ty.int IntKind.i64)]
def tys28 : List Ty := [Ty.int IntKind.i64]
def E28_2 (v5 : Int) (x0 : ByteArray) (x1 : Int) : Env := [(0, PV.a (Atom.val (Value.string x0))), (1, PV.a (Atom.val (Value.int IntKind.i64 x1))), (5, PV.a (Atom.val (Value.int IntKind.i64 v5)))]
def L28_2 (v5 : Int) (x0 : ByteArray) (x1 : Int) : Heap := []
def E28_6 (v1 : Int) (v6 : Int) (x0 : ByteArray) (v5 : Int) : Env := [(0, PV.a (Atom.val (Value.string x0))), (1, PV.a (Atom.val (Value.int IntKind.i64 v1))), (5, PV.a (Atom.val (Value.int IntKind.i64 v5))), (6, PV.a (Atom.val (Value.int IntKind.i64 v6)))]
def L28_6 (v1 : Int) (v6 : Int) (x0 : ByteArray) (v5 : Int) : Heap := []
mutual
def R28 : Nat → ByteArray → Int → List Dyn → Prop
  | 0, _, _, _ => False
  | n + 1, x0, x1, ds => (R28_2 n (0) (x0) (x1) ds)
def R28_2 : Nat → Int → ByteArray → Int → List Dyn → Prop
  | 0, _, _, _, _ => False
  | n + 1, v5, x0, x1, ds => (if (Decidable.decide (v5 < (↑(ByteArray.size x0) : Int))) = true then ((0 ≤ v5) ∧ (v5 < (↑(ByteArray.size x0) : Int)) ∧ ((InR IntKind.i64 (↑(UInt8.toNat (List.getD (Array.toList (ByteArray.data x0)) (Int.toNat v5) 0)) : Int)) ∧ (R28_6 n (IntKind.wrap IntKind.i64 (↑(BitVec.toNat (BitVec.ofInt 64 x1 ^^^ BitVec.ofInt 64 (IntKind.wrap IntKind.i64 ((↑(UInt8.toNat (List.getD (Array.toList (ByteArray.data x0)) (Int.toNat v5) 0)) : Int) * 256)))) : Int)) (0) (x0) (v5) ds))) else (ds = [Dyn.mk (Ty.int IntKind.i64) x1]))
def R28_6 : Nat → Int → Int → ByteArray → Int → List Dyn → Prop
  | 0, _, _, _, _, _ => False
  | n + 1, v1, v6, x0, v5, ds => (if (Decidable.decide (v6 < 8)) = true then (if (Decidable.decide (IntKind.wrap IntKind.i64 (v1 * 2) > 65535)) = true then ((InR IntKind.i64 (v6 + 1)) ∧ (R28_6 n (IntKind.wrap IntKind.i64 (↑(BitVec.toNat (BitVec.ofInt 64 (IntKind.wrap IntKind.i64 (↑(BitVec.toNat (BitVec.ofInt 64 (IntKind.wrap IntKind.i64 (v1 * 2)) &&& BitVec.ofInt 64 65535)) : Int)) ^^^ BitVec.ofInt 64 4129)) : Int)) (v6 + 1) (x0) (v5) ds)) else ((InR IntKind.i64 (v6 + 1)) ∧ (R28_6 n (IntKind.wrap IntKind.i64 (v1 * 2)) (v6 + 1) (x0) (v5) ds))) else ((InR IntKind.i64 (v5 + 1)) ∧ (R28_2 n (v5 + 1) (x0) (v1) ds)))
end
theorem p28_0 (x0 : ByteArray) (x1 : Int) : Am.runN tab ext28 false 32 [] 2000 [] [] [0, 1, 5] [] [] [.code b28] (entE 0 0 sig28 (x0, x1, ())) (entL sig28 (x0, x1, ())) = some (cutAt b28 2, E28_2 (0) (x0) (x1), L28_2 (0) (x0) (x1), []) := by kernel_rfl
theorem p28_1 (v5 : Int) (x0 : ByteArray) (x1 : Int) : Am.runN tab ext28 false 32 [] 2000 [] [] [0, 1, 5, 6] [] [true] (cutAt b28 2) (E28_2 v5 x0 x1) (L28_2 v5 x0 x1) = some (cutAt b28 6, E28_6 (IntKind.wrap IntKind.i64 (↑(BitVec.toNat (BitVec.ofInt 64 x1 ^^^ BitVec.ofInt 64 (IntKind.wrap IntKind.i64 ((↑(UInt8.toNat (List.getD (Array.toList (ByteArray.data x0)) (Int.toNat v5) 0)) : Int) * 256)))) : Int)) (0) (x0) (v5), L28_6 (IntKind.wrap IntKind.i64 (↑(BitVec.toNat (BitVec.ofInt 64 x1 ^^^ BitVec.ofInt 64 (IntKind.wrap IntKind.i64 ((↑(UInt8.toNat (List.getD (Array.toList (ByteArray.data x0)) (Int.toNat v5) 0)) : Int) * 256)))) : Int)) (0) (x0) (v5), [Decidable.decide (v5 < (↑(ByteArray.size x0) : Int)) = Bool.true, 0 ≤ v5, v5 < (↑(ByteArray.size x0) : Int), InR IntKind.i64 (↑(UInt8.toNat (List.getD (Array.toList (ByteArray.data x0)) (Int.toNat v5) 0)) : Int), (0 : Int) ≤ (8 : Int)]) := by kernel_rfl
theorem p28_2 (v5 : Int) (x0 : ByteArray) (x1 : Int) : runF tab ext28 false 32 [] 2000 [] tys28 Tryz.f28.results [false] (cutAt b28 2) (E28_2 v5 x0 x1) (L28_2 v5 x0 x1) = some ([Dyn.mk (Ty.int IntKind.i64) x1], [], [Decidable.decide (v5 < (↑(ByteArray.size x0) : Int)) = Bool.false]) := by kernel_rfl
theorem p28_3 (v1 : Int) (v6 : Int) (x0 : ByteArray) (v5 : Int) : Am.runN tab ext28 false 32 [] 2000 [] [] [0, 1, 5, 6] [] [true, true] (cutAt b28 6) (E28_6 v1 v6 x0 v5) (L28_6 v1 v6 x0 v5) = some (cutAt b28 6, E28_6 (IntKind.wrap IntKind.i64 (↑(BitVec.toNat (BitVec.ofInt 64 (IntKind.wrap IntKind.i64 (↑(BitVec.toNat (BitVec.ofInt 64 (IntKind.wrap IntKind.i64 (v1 * 2)) &&& BitVec.ofInt 64 65535)) : Int)) ^^^ BitVec.ofInt 64 4129)) : Int)) (v6 + 1) (x0) (v5), L28_6 (IntKind.wrap IntKind.i64 (↑(BitVec.toNat (BitVec.ofInt 64 (IntKind.wrap IntKind.i64 (↑(BitVec.toNat (BitVec.ofInt 64 (IntKind.wrap IntKind.i64 (v1 * 2)) &&& BitVec.ofInt 64 65535)) : Int)) ^^^ BitVec.ofInt 64 4129)) : Int)) (v6 + 1) (x0) (v5), [Decidable.decide (v6 < 8) = Bool.true, (0 : Int) ≤ (1 : Int), Decidable.decide (IntKind.wrap IntKind.i64 (v1 * 2) > 65535) = Bool.true, InR IntKind.i64 (v6 + 1)]) := by kernel_rfl
theorem p28_4 (v1 : Int) (v6 : Int) (x0 : ByteArray) (v5 : Int) : Am.runN tab ext28 false 32 [] 2000 [] [] [0, 1, 5, 6] [] [true, false] (cutAt b28 6) (E28_6 v1 v6 x0 v5) (L28_6 v1 v6 x0 v5) = some (cutAt b28 6, E28_6 (IntKind.wrap IntKind.i64 (v1 * 2)) (v6 + 1) (x0) (v5), L28_6 (IntKind.wrap IntKind.i64 (v1 * 2)) (v6 + 1) (x0) (v5), [Decidable.decide (v6 < 8) = Bool.true, (0 : Int) ≤ (1 : Int), Decidable.decide (IntKind.wrap IntKind.i64 (v1 * 2) > 65535) = Bool.false, InR IntKind.i64 (v6 + 1)]) := by kernel_rfl
theorem p28_5 (v1 : Int) (v6 : Int) (x0 : ByteArray) (v5 : Int) : Am.runN tab ext28 false 32 [] 2000 [] [] [0, 1, 5] [] [false] (cutAt b28 6) (E28_6 v1 v6 x0 v5) (L28_6 v1 v6 x0 v5) = some (cutAt b28 2, E28_2 (v5 + 1) (x0) (v1), L28_2 (v5 + 1) (x0) (v1), [Decidable.decide (v6 < 8) = Bool.false, InR IntKind.i64 (v5 + 1)]) := by kernel_rfl
theorem snd28 : ∀ n, (∀ (x0 : ByteArray) (x1 : Int) ds, R28 n x0 x1 ds → ∀ w0 O q, AtV Tryz.prog 28 (PostR ds [] [] q w0 O) 32 w0 O q [] [.code b28] (entE 0 0 sig28 (x0, x1, ())) (entL sig28 (x0, x1, ()))) ∧ (∀ (v5 : Int) (x0 : ByteArray) (x1 : Int) ds, R28_2 n v5 x0 x1 ds → ∀ w0 O q, AtV Tryz.prog 28 (PostR ds [] [] q w0 O) 32 w0 O q [] (cutAt b28 2) (E28_2 v5 x0 x1) (L28_2 v5 x0 x1)) ∧ (∀ (v1 : Int) (v6 : Int) (x0 : ByteArray) (v5 : Int) ds, R28_6 n v1 v6 x0 v5 ds → ∀ w0 O q, AtV Tryz.prog 28 (PostR ds [] [] q w0 O) 32 w0 O q [] (cutAt b28 6) (E28_6 v1 v6 x0 v5) (L28_6 v1 v6 x0 v5)) := by
  intro n
  induction n with
  | zero => exact ⟨fun _ _ _ h => by simp only [R28] at h, fun _ _ _ _ h => by simp only [R28_2] at h, fun _ _ _ _ _ h => by simp only [R28_6] at h⟩
  | succ n ih =>
  obtain ⟨ih, ih2, ih6⟩ := ih
  refine ⟨?_, ?_, ?_⟩
  · intro x0 x1 ds h w0 O q
    rw [R28] at h
    exact AtV.runN tabOk ext28Ok mixed (p28_0 x0 x1) trivial (ih2 _ _ _ _ h w0 O q)

  · intro v5 x0 x1 ds h w0 O q
    rw [R28_2] at h
    by_cases b0 : (Decidable.decide (v5 < (↑(ByteArray.size x0) : Int))) = true
    · rw [if_pos b0] at h
      obtain ⟨s0, s1, h⟩ := h
      obtain ⟨s2, h⟩ := h
      exact AtV.runN tabOk ext28Ok mixed (p28_1 v5 x0 x1) ⟨b0, s0, s1, s2, (by decide), trivial⟩ (ih6 _ _ _ _ _ h w0 O q)
    · rw [if_neg b0] at h
      replace b0 := Bool.eq_false_iff.2 b0
      subst h
      exact AtV.fin Tryz.func28 tabOk ext28Ok mixed (p28_2 v5 x0 x1) ⟨b0, trivial⟩

  · intro v1 v6 x0 v5 ds h w0 O q
    rw [R28_6] at h
    by_cases b0 : (Decidable.decide (v6 < 8)) = true
    · rw [if_pos b0] at h
      by_cases b1 : (Decidable.decide (IntKind.wrap IntKind.i64 (v1 * 2) > 65535)) = true
      · rw [if_pos b1] at h
        obtain ⟨s0, h⟩ := h
        exact AtV.runN tabOk ext28Ok mixed (p28_3 v1 v6 x0 v5) ⟨b0, (by decide), b1, s0, trivial⟩ (ih6 _ _ _ _ _ h w0 O q)
      · rw [if_neg b1] at h
        replace b1 := Bool.eq_false_iff.2 b1
        obtain ⟨s0, h⟩ := h
        exact AtV.runN tabOk ext28Ok mixed (p28_4 v1 v6 x0 v5) ⟨b0, (by decide), b1, s0, trivial⟩ (ih6 _ _ _ _ _ h w0 O q)
    · rw [if_neg b0] at h
      replace b0 := Bool.eq_false_iff.2 b0
      obtain ⟨s0, h⟩ := h
      exact AtV.runN tabOk ext28Ok mixed (p28_5 v1 v6 x0 v5) ⟨b0, s0, trivial⟩ (ih2 _ _ _ _ h w0 O q)



def bit28 (s : Int) : Int := if (Decidable.decide (IntKind.wrap IntKind.i64 (s * 2) > 65535)) = true then (IntKind.wrap IntKind.i64 (↑(BitVec.toNat (BitVec.ofInt 64 (IntKind.wrap IntKind.i64 (↑(BitVec.toNat (BitVec.ofInt 64 (IntKind.wrap IntKind.i64 (s * 2)) &&& BitVec.ofInt 64 65535)) : Int)) ^^^ BitVec.ofInt 64 4129)) : Int)) else (IntKind.wrap IntKind.i64 (s * 2))
def bits28 : Nat → Int → Int
  | 0, s => s
  | k + 1, s => bits28 k (bit28 s)
def byte28 (s c : Int) : Int := bits28 8 (IntKind.wrap IntKind.i64 (↑(BitVec.toNat (BitVec.ofInt 64 s ^^^ BitVec.ofInt 64 (IntKind.wrap IntKind.i64 (c * 256)))) : Int))
def g28_0 (x0 : ByteArray) (x1 : Int) : Int := (bytesOf x0).foldl byte28 x1
def P28 (x0 : ByteArray) (x1 : Int) : Prop := True

theorem inner28 (x0 : ByteArray) (hm : (bytesOf x0).length ≤ maxLen) (i n : Nat) (hi : i < (bytesOf x0).length) (ds : List Dyn) : ∀ (k j : Nat) (s : Int), j + k = 8 → R28_2 n ((i : Int) + 1) x0 (bits28 k s) ds → R28_6 (n + 1 + k) s (j : Int) x0 (i : Int) ds := by
  intro k
  induction k with
  | zero =>
    intro j s hj hr
    rw [R28_6, if_neg (by simp; omega)]
    exact ⟨inR_up hm hi, hr⟩
  | succ k ih =>
    intro j s hj hr
    have e2 : (j : Int) + 1 = ((j + 1 : Nat) : Int) := by omega
    rw [show n + 1 + (k + 1) = (n + 1 + k) + 1 by omega, R28_6, if_pos (by simp; omega)]
    unfold bits28 bit28 at hr
    by_cases hc : (Decidable.decide (IntKind.wrap IntKind.i64 (s * 2) > 65535)) = true
    · rw [if_pos hc] at hr ⊢
      rw [e2]
      exact ⟨by rw [i64_iff]; omega, ih (j + 1) _ (by omega) hr⟩
    · rw [if_neg hc] at hr ⊢
      rw [e2]
      exact ⟨by rw [i64_iff]; omega, ih (j + 1) _ (by omega) hr⟩

theorem run28 (x0 : ByteArray) (hm : x0.size ≤ maxLen) : ∀ (k i : Nat) (s : Int), i + k = x0.size → ∃ n, R28_2 n (i : Int) x0 s [⟨.int .i64, ((bytesOf x0).drop i).foldl byte28 s⟩] := by
  intro k
  have hl := bytesOf_length x0
  induction k with
  | zero =>
    intro i s hi
    refine ⟨1, ?_⟩
    rw [R28_2, if_neg (by simp; omega), List.drop_of_length_le (by omega)]
    rfl
  | succ k ih =>
    intro i s hi
    have hlt : i < (bytesOf x0).length := by omega
    have hcons := drop_get (bytesOf x0) i 0 hlt
    obtain ⟨n, hn⟩ := ih (i + 1) (byte28 s ((bytesOf x0).getD i 0)) (by omega)
    refine ⟨n + 1 + 8 + 1, ?_⟩
    have hb := bytesOf_range x0 _ (mem_getD (bytesOf x0) i 0 hlt)
    rw [R28_2, if_pos (by simp; omega)]
    simp only [Int.toNat_natCast, byte_get]
    rw [hcons, List.foldl_cons]
    exact ⟨by omega, by omega, by rw [i64_iff]; omega, inner28 x0 (by rw [hl]; exact hm) i n hlt _ 8 0 _ (by omega) hn⟩

theorem top28 (x0 : ByteArray) (x1 : Int) (hm : x0.size ≤ maxLen) : ∃ n, R28 n x0 x1 [⟨.int .i64, g28_0 x0 x1⟩] := by
  obtain ⟨n, hn⟩ := run28 x0 hm x0.size 0 x1 (by omega)
  refine ⟨n + 1, ?_⟩
  rw [R28]
  exact hn

def S28 : Am.Spec := { sig := sig28, pre := fun ⟨x0, x1, _⟩ => P28 x0 x1, res := fun ⟨x0, x1, _⟩ => [⟨Ty.int .i64, g28_0 x0 x1⟩] }
theorem con28 : Contract Tryz.prog 28 S28 := contract_of Tryz.func28 hb28 (Nat.le_of_ble_eq_true (by kernel_rfl)) (fun ⟨x0, x1, _⟩ h hwf w0 O q =>
  let ⟨n, hn⟩ := top28 x0 x1 hwf.1
  (snd28 n).1 x0 x1 _ hn w0 O q)

end Go.Proofs.YtcppjmlhilklcaaGreatDoor

/- Function 44 (spec.l01Dec): its runs between cut points. Written by a program of this repo (gen). -/
set_option linter.unusedVariables false
set_option linter.unusedSimpArgs false
set_option maxRecDepth 100000
namespace Go.Proofs.YtcppjmlhilklcaaGreatDoor
open Go Go.Am Go.Proofs
def ext44 : Ext := []
theorem ext44Ok : ExtOk Tryz.prog ext44 := trivial
/-! Function 44. -/
noncomputable def b44 : Code := bodyOf Tryz.f44
theorem hb44 : Tryz.f44.body = some b44 := by kernel_rfl
def sig44 : List AT := [AT.v (Ty.int IntKind.i64)]
def tys44 : List Ty := [Ty.str]
def E44_5 (v4 : Int) (h0 : List Int) (x0 : Int) : Env := [(0, PV.a (Atom.val (Value.int IntKind.i64 x0))), (3, PV.a (Atom.osl 0 Option.none)), (4, PV.a (Atom.val (Value.int IntKind.i64 v4)))]
def L44_5 (v4 : Int) (h0 : List Int) (x0 : Int) : Heap := [Option.some (Arr.mk (Ty.int IntKind.u8) h0 Bool.false)]
def E44_15 (v7 : Int) (h0 : List Int) (h1 : List Int) : Env := [(3, PV.a (Atom.osl 0 Option.none)), (6, PV.a (Atom.osl 1 Option.none)), (7, PV.a (Atom.val (Value.int IntKind.i64 v7)))]
def L44_15 (v7 : Int) (h0 : List Int) (h1 : List Int) : Heap := [Option.some (Arr.mk (Ty.int IntKind.u8) h0 Bool.false), Option.some (Arr.mk (Ty.int IntKind.u8) h1 Bool.false)]
mutual
def R44 : Nat → Int → List Dyn → Prop
  | 0, _, _ => False
  | n + 1, x0, ds => (if (x0 == 0) = true then (ds = [Dyn.mk Ty.str (ByteArray.mk #[48])]) else (R44_5 n (x0) ([]) (x0) ds))
def R44_5 : Nat → Int → List Int → Int → List Dyn → Prop
  | 0, _, _, _, _ => False
  | n + 1, v4, h0, x0, ds => (if (v4 != 0) = true then ((InR IntKind.i64 (Int.tmod v4 10)) ∧ (if (Decidable.decide (Int.tmod v4 10 < 0)) = true then ((InR IntKind.i64 (0 - Int.tmod v4 10)) ∧ ((InR IntKind.i64 (48 + (0 - Int.tmod v4 10))) ∧ ((InR IntKind.u8 (48 + (0 - Int.tmod v4 10))) ∧ (((List.length h0 + 1) * 1 ≤ 140737488355328) ∧ ((InR IntKind.i64 (Int.tdiv v4 10)) ∧ (R44_5 n (Int.tdiv v4 10) (h0 ++ [48 + (0 - Int.tmod v4 10)]) (x0) ds)))))) else ((InR IntKind.i64 (48 + Int.tmod v4 10)) ∧ ((InR IntKind.u8 (48 + Int.tmod v4 10)) ∧ (((List.length h0 + 1) * 1 ≤ 140737488355328) ∧ ((InR IntKind.i64 (Int.tdiv v4 10)) ∧ (R44_5 n (Int.tdiv v4 10) (h0 ++ [48 + Int.tmod v4 10]) (x0) ds))))))) else (if (Decidable.decide (x0 < 0)) = true then (((List.length h0 + 1) * 1 ≤ 140737488355328) ∧ ((InR IntKind.i64 ((↑(List.length (h0 ++ [45])) : Int) - 1)) ∧ (R44_15 n ((↑(List.length (h0 ++ [45])) : Int) - 1) (h0 ++ [45]) ([]) ds))) else ((InR IntKind.i64 ((↑(List.length h0) : Int) - 1)) ∧ (R44_15 n ((↑(List.length h0) : Int) - 1) (h0) ([]) ds))))
def R44_15 : Nat → Int → List Int → List Int → List Dyn → Prop
  | 0, _, _, _, _ => False
  | n + 1, v7, h0, h1, ds => (if (Decidable.decide (v7 ≥ 0)) = true then ((0 ≤ v7) ∧ (v7 < (↑(List.length h0) : Int)) ∧ (((List.length h1 + 1) * 1 ≤ 140737488355328) ∧ ((InR IntKind.i64 (v7 - 1)) ∧ (R44_15 n (v7 - 1) (h0) (h1 ++ [List.getD h0 (Int.toNat v7) 0]) ds)))) else (ds = [Dyn.mk Ty.str (bytesStr h1)]))
end
theorem p44_0 (x0 : Int) : runF tab ext44 false 50 [] 2000 [] tys44 Tryz.f44.results [true] [.code b44] (entE 0 0 sig44 (x0, ())) (entL sig44 (x0, ())) = some ([Dyn.mk Ty.str (ByteArray.mk #[48])], [], [(x0 == 0) = Bool.true]) := by kernel_rfl
theorem p44_1 (x0 : Int) : Am.runN tab ext44 false 50 [] 2000 [] [] [0, 3, 4] [0] [false] [.code b44] (entE 0 0 sig44 (x0, ())) (entL sig44 (x0, ())) = some (cutAt b44 5, E44_5 (x0) ([]) (x0), L44_5 (x0) ([]) (x0), [(x0 == 0) = Bool.false]) := by kernel_rfl
theorem p44_2 (v4 : Int) (h0 : List Int) (x0 : Int) : Am.runN tab ext44 false 50 [] 2000 [] [] [0, 3, 4] [0] [true, true] (cutAt b44 5) (E44_5 v4 h0 x0) (L44_5 v4 h0 x0) = some (cutAt b44 5, E44_5 (Int.tdiv v4 10) (h0 ++ [48 + (0 - Int.tmod v4 10)]) (x0), L44_5 (Int.tdiv v4 10) (h0 ++ [48 + (0 - Int.tmod v4 10)]) (x0), [(v4 != 0) = Bool.true, (10 : Int) ≠ (0 : Int), InR IntKind.i64 (Int.tmod v4 10), Decidable.decide (Int.tmod v4 10 < 0) = Bool.true, InR IntKind.i64 (0 - Int.tmod v4 10), InR IntKind.i64 (48 + (0 - Int.tmod v4 10)), InR IntKind.u8 (48 + (0 - Int.tmod v4 10)), (List.length h0 + 1) * 1 ≤ 140737488355328, (10 : Int) ≠ (0 : Int), InR IntKind.i64 (Int.tdiv v4 10)]) := by kernel_rfl
theorem p44_3 (v4 : Int) (h0 : List Int) (x0 : Int) : Am.runN tab ext44 false 50 [] 2000 [] [] [0, 3, 4] [0] [true, false] (cutAt b44 5) (E44_5 v4 h0 x0) (L44_5 v4 h0 x0) = some (cutAt b44 5, E44_5 (Int.tdiv v4 10) (h0 ++ [48 + Int.tmod v4 10]) (x0), L44_5 (Int.tdiv v4 10) (h0 ++ [48 + Int.tmod v4 10]) (x0), [(v4 != 0) = Bool.true, (10 : Int) ≠ (0 : Int), InR IntKind.i64 (Int.tmod v4 10), Decidable.decide (Int.tmod v4 10 < 0) = Bool.false, InR IntKind.i64 (48 + Int.tmod v4 10), InR IntKind.u8 (48 + Int.tmod v4 10), (List.length h0 + 1) * 1 ≤ 140737488355328, (10 : Int) ≠ (0 : Int), InR IntKind.i64 (Int.tdiv v4 10)]) := by kernel_rfl
theorem p44_4 (v4 : Int) (h0 : List Int) (x0 : Int) : Am.runN tab ext44 false 50 [] 2000 [] [] [3, 6, 7] [0, 2] [false, true] (cutAt b44 5) (E44_5 v4 h0 x0) (L44_5 v4 h0 x0) = some (cutAt b44 15, E44_15 ((↑(List.length (h0 ++ [45])) : Int) - 1) (h0 ++ [45]) ([]), L44_15 ((↑(List.length (h0 ++ [45])) : Int) - 1) (h0 ++ [45]) ([]), [(v4 != 0) = Bool.false, Decidable.decide (x0 < 0) = Bool.true, (List.length h0 + 1) * 1 ≤ 140737488355328, InR IntKind.i64 ((↑(List.length (h0 ++ [45])) : Int) - 1)]) := by kernel_rfl
theorem p44_5 (v4 : Int) (h0 : List Int) (x0 : Int) : Am.runN tab ext44 false 50 [] 2000 [] [] [3, 6, 7] [0, 1] [false, false] (cutAt b44 5) (E44_5 v4 h0 x0) (L44_5 v4 h0 x0) = some (cutAt b44 15, E44_15 ((↑(List.length h0) : Int) - 1) (h0) ([]), L44_15 ((↑(List.length h0) : Int) - 1) (h0) ([]), [(v4 != 0) = Bool.false, Decidable.decide (x0 < 0) = Bool.false, InR IntKind.i64 ((↑(List.length h0) : Int) - 1)]) := by kernel_rfl
theorem p44_6 (v7 : Int) (h0 : List Int) (h1 : List Int) : Am.runN tab ext44 false 50 [] 2000 [] [] [3, 6, 7] [0, 1] [true] (cutAt b44 15) (E44_15 v7 h0 h1) (L44_15 v7 h0 h1) = some (cutAt b44 15, E44_15 (v7 - 1) (h0) (h1 ++ [List.getD h0 (Int.toNat v7) 0]), L44_15 (v7 - 1) (h0) (h1 ++ [List.getD h0 (Int.toNat v7) 0]), [Decidable.decide (v7 ≥ 0) = Bool.true, 0 ≤ v7, v7 < (↑(List.length h0) : Int), (List.length h1 + 1) * 1 ≤ 140737488355328, InR IntKind.i64 (v7 - 1)]) := by kernel_rfl
theorem p44_7 (v7 : Int) (h0 : List Int) (h1 : List Int) : runF tab ext44 false 50 [] 2000 [] tys44 Tryz.f44.results [false] (cutAt b44 15) (E44_15 v7 h0 h1) (L44_15 v7 h0 h1) = some ([Dyn.mk Ty.str (bytesStr h1)], [], [Decidable.decide (v7 ≥ 0) = Bool.false]) := by kernel_rfl
theorem snd44 : ∀ n, (∀ (x0 : Int) ds, R44 n x0 ds → ∀ w0 O q, AtV Tryz.prog 44 (PostR ds [] [] q w0 O) 50 w0 O q [] [.code b44] (entE 0 0 sig44 (x0, ())) (entL sig44 (x0, ()))) ∧ (∀ (v4 : Int) (h0 : List Int) (x0 : Int) ds, R44_5 n v4 h0 x0 ds → ∀ w0 O q, AtV Tryz.prog 44 (PostR ds [] [] q w0 O) 50 w0 O q [] (cutAt b44 5) (E44_5 v4 h0 x0) (L44_5 v4 h0 x0)) ∧ (∀ (v7 : Int) (h0 : List Int) (h1 : List Int) ds, R44_15 n v7 h0 h1 ds → ∀ w0 O q, AtV Tryz.prog 44 (PostR ds [] [] q w0 O) 50 w0 O q [] (cutAt b44 15) (E44_15 v7 h0 h1) (L44_15 v7 h0 h1)) := by
  intro n
  induction n with
  | zero => exact ⟨fun _ _ h => by simp only [R44] at h, fun _ _ _ _ h => by simp only [R44_5] at h, fun _ _ _ _ h => by simp only [R44_15] at h⟩
  | succ n ih =>
  obtain ⟨ih, ih5, ih15⟩ := ih
  refine ⟨?_, ?_, ?_⟩
  · intro x0 ds h w0 O q
    rw [R44] at h
    by_cases b0 : (x0 == 0) = true
    · rw [if_pos b0] at h
      subst h
      exact AtV.fin Tryz.func44 tabOk ext44Ok mixed (p44_0 x0) ⟨b0, trivial⟩
    · rw [if_neg b0] at h
      replace b0 := Bool.eq_false_iff.2 b0
      exact AtV.runN tabOk ext44Ok mixed (p44_1 x0) ⟨b0, trivial⟩ (ih5 _ _ _ _ h w0 O q)

  · intro v4 h0 x0 ds h w0 O q
    rw [R44_5] at h
    by_cases b0 : (v4 != 0) = true
    · rw [if_pos b0] at h
      obtain ⟨s0, h⟩ := h
      by_cases b1 : (Decidable.decide (Int.tmod v4 10 < 0)) = true
      · rw [if_pos b1] at h
        obtain ⟨s1, h⟩ := h
        obtain ⟨s2, h⟩ := h
        obtain ⟨s3, h⟩ := h
        obtain ⟨s4, h⟩ := h
        obtain ⟨s5, h⟩ := h
        exact AtV.runN tabOk ext44Ok mixed (p44_2 v4 h0 x0) ⟨b0, (by decide), s0, b1, s1, s2, s3, s4, (by decide), s5, trivial⟩ (ih5 _ _ _ _ h w0 O q)
      · rw [if_neg b1] at h
        replace b1 := Bool.eq_false_iff.2 b1
        obtain ⟨s1, h⟩ := h
        obtain ⟨s2, h⟩ := h
        obtain ⟨s3, h⟩ := h
        obtain ⟨s4, h⟩ := h
        exact AtV.runN tabOk ext44Ok mixed (p44_3 v4 h0 x0) ⟨b0, (by decide), s0, b1, s1, s2, s3, (by decide), s4, trivial⟩ (ih5 _ _ _ _ h w0 O q)
    · rw [if_neg b0] at h
      replace b0 := Bool.eq_false_iff.2 b0
      by_cases b1 : (Decidable.decide (x0 < 0)) = true
      · rw [if_pos b1] at h
        obtain ⟨s0, h⟩ := h
        obtain ⟨s1, h⟩ := h
        exact AtV.runN tabOk ext44Ok mixed (p44_4 v4 h0 x0) ⟨b0, b1, s0, s1, trivial⟩ (ih15 _ _ _ _ h w0 O q)
      · rw [if_neg b1] at h
        replace b1 := Bool.eq_false_iff.2 b1
        obtain ⟨s0, h⟩ := h
        exact AtV.runN tabOk ext44Ok mixed (p44_5 v4 h0 x0) ⟨b0, b1, s0, trivial⟩ (ih15 _ _ _ _ h w0 O q)

  · intro v7 h0 h1 ds h w0 O q
    rw [R44_15] at h
    by_cases b0 : (Decidable.decide (v7 ≥ 0)) = true
    · rw [if_pos b0] at h
      obtain ⟨s0, s1, h⟩ := h
      obtain ⟨s2, h⟩ := h
      obtain ⟨s3, h⟩ := h
      exact AtV.runN tabOk ext44Ok mixed (p44_6 v7 h0 h1) ⟨b0, s0, s1, s2, s3, trivial⟩ (ih15 _ _ _ _ h w0 O q)
    · rw [if_neg b0] at h
      replace b0 := Bool.eq_false_iff.2 b0
      subst h
      exact AtV.fin Tryz.func44 tabOk ext44Ok mixed (p44_7 v7 h0 h1) ⟨b0, trivial⟩



def g44_0 (x0 : Int) : ByteArray := numB x0
def P44 (x0 : Int) : Prop := True

theorem bstr44 (xs : List Int) : bytesStr xs = ⟨⟨xs.map fun n => UInt8.ofNat n.toNat⟩⟩ := by
  have key : ∀ (xs : List Int) (s : ByteArray), (xs.foldl (fun r n => r.push (UInt8.ofNat n.toNat)) s).data.toList = s.data.toList ++ xs.map fun n => UInt8.ofNat n.toNat := by
    intro xs
    induction xs with
    | nil => intro s; simp
    | cons a r ih =>
      intro s
      rw [List.foldl_cons, ih]
      show (s.data.push _).toList ++ _ = _
      rw [Array.toList_push]
      simp
  apply ByteArray.ext
  apply Array.ext'
  have := key xs ByteArray.empty
  unfold bytesStr
  rw [this]
  rfl
theorem bstrB44 (l : List UInt8) : bytesStr (l.map fun b => (b.toNat : Int)) = ⟨⟨l⟩⟩ := by
  rw [bstr44, List.map_map]
  congr 2
  conv => rhs; rw [← List.map_id l]
  refine List.map_congr_left fun b _ => ?_
  show UInt8.ofNat ((b.toNat : Int)).toNat = b
  rw [Int.toNat_natCast, UInt8.ofNat_toNat]

/-- The digits, the last ahead. -/
def rd44 (m : Nat) : List Int := if h : m = 0 then [] else ((48 + m % 10 : Nat) : Int) :: rd44 (m / 10)
termination_by m
decreasing_by omega
theorem rd044 : rd44 0 = [] := by rw [rd44, dif_pos rfl]
theorem rds44 {m : Nat} (h : m ≠ 0) : rd44 m = ((48 + m % 10 : Nat) : Int) :: rd44 (m / 10) := by rw [rd44, dif_neg h]
theorem rdl44 : ∀ (k m : Nat), m < 10 ^ k → (rd44 m).length ≤ k
  | 0, m, h => by obtain rfl : m = 0 := by simpa using h
                  rw [rd044]; exact Nat.le_refl _
  | k + 1, m, h => by
    by_cases h0 : m = 0
    · rw [h0, rd044]; exact Nat.zero_le _
    · rw [rds44 h0, List.length_cons]
      have := rdl44 k (m / 10) (by rw [Nat.pow_succ] at h; omega)
      omega
theorem rdd44 (m : Nat) (h : m ≠ 0) : bytesStr (rd44 m).reverse = ⟨⟨Lib.decDigits m⟩⟩ := by
  have key : ∀ m : Nat, m ≠ 0 → (rd44 m).reverse = (Lib.decDigits m).map fun b => (b.toNat : Int) := by
    intro m
    induction m using Nat.strongRecOn with
    | _ m ih =>
      intro h
      rw [rds44 h, List.reverse_cons, Lib.decDigits]
      have e : (UInt8.ofNat (48 + m % 10)).toNat = 48 + m % 10 := by rw [UInt8.toNat_ofNat']; omega
      split
      · rename_i hs
        rw [show m / 10 = 0 by omega, rd044]
        have e' : (UInt8.ofNat (48 + m)).toNat = 48 + m % 10 := by rw [UInt8.toNat_ofNat']; omega
        rw [List.map_singleton, e']
        rfl
      · rw [ih (m / 10) (by omega) (by omega), List.map_append, List.map_singleton, e]
  rw [key m h]
  exact bstrB44 _

theorem back44 (h0 : List Int) : ∀ (j : Nat) (h1 : List Int), j ≤ h0.length → h1.length + j ≤ 64 → R44_15 (j + 1) ((j : Int) - 1) h0 h1 [⟨.str, bytesStr (h1 ++ (h0.take j).reverse)⟩]
  | 0, h1, _, _ => by
    rw [R44_15, if_neg (by decide)]
    simp
  | j + 1, h1, hj, hl => by
    have ih := back44 h0 j (h1 ++ [h0.getD j 0]) (by omega) (by rw [List.length_append, List.length_singleton]; omega)
    have e : ((j + 1 : Nat) : Int) - 1 = (j : Int) := by omega
    rw [R44_15, e, if_pos (by simp only [decide_eq_true_eq]; omega), Int.toNat_natCast]
    refine ⟨by omega, by omega, by omega, by rw [i64_iff]; omega, ?_⟩
    have et : (h0.take (j + 1)).reverse = h0.getD j 0 :: (h0.take j).reverse := by
      have hlt : j < h0.length := by omega
      rw [List.take_add_one, List.getElem?_eq_getElem hlt, List.reverse_append, List.getD_eq_getElem?_getD, List.getElem?_eq_getElem hlt]
      rfl
    rw [et]
    rw [List.append_assoc] at ih
    exact ih

/-- The last part, from the digits on. -/
theorem last44 (x0 : Int) (h0 : List Int) (hl : h0.length ≤ 20) : R44_5 ((if x0 < 0 then h0.length + 1 else h0.length) + 1 + 1) 0 h0 x0 [⟨.str, bytesStr ((if x0 < 0 then h0 ++ [45] else h0)).reverse⟩] := by
  rw [R44_5, if_neg (by decide)]
  by_cases hx : x0 < 0
  · have b := back44 (h0 ++ [45]) (h0.length + 1) [] (by rw [List.length_append, List.length_singleton]; omega) (by simp; omega)
    have e : (h0 ++ [(45 : Int)]).length = h0.length + 1 := by rw [List.length_append, List.length_singleton]
    rw [List.take_of_length_le (by omega)] at b
    simp only [hx, decide_true, if_true]
    rw [e]
    exact ⟨by omega, by rw [i64_iff]; omega, b⟩
  · have b := back44 h0 h0.length [] (Nat.le_refl _) (by simp; omega)
    rw [List.take_of_length_le (Nat.le_refl _)] at b
    simp only [hx, decide_false, Bool.false_eq_true, if_false]
    exact ⟨by rw [i64_iff]; omega, b⟩

theorem run44 (x0 : Int) (ds : List Dyn) (F : List Int) (K : Nat) (hF : R44_5 K 0 F x0 ds) : ∀ (m : Nat) (v : Int) (h0 : List Int), (v = (m : Int) ∨ v = -(m : Int)) → m ≤ 9223372036854775808 → InR .i64 v → h0.length + (rd44 m).length ≤ 20 → h0 ++ rd44 m = F → R44_5 ((rd44 m).length + K) v h0 x0 ds := by
  intro m
  induction m using Nat.strongRecOn with
  | _ m ih =>
    intro v h0 hv hm hi hl he
    by_cases h : m = 0
    · subst h
      obtain rfl : v = 0 := by omega
      rw [rd044] at he ⊢
      rw [List.append_nil] at he
      rw [he, List.length_nil, Nat.zero_add]
      exact hF
    · have hr := rds44 h
      rw [hr] at he hl ⊢
      rw [List.length_cons] at hl ⊢
      have hne : (v != 0) = true := by
        have : v ≠ 0 := by omega
        simpa using this
      rw [i64_iff] at hi
      have e1 : (rd44 (m / 10)).length + 1 + K = ((rd44 (m / 10)).length + K) + 1 := by omega
      have next : ∀ v', (v' = ((m / 10 : Nat) : Int) ∨ v' = -((m / 10 : Nat) : Int)) → R44_5 ((rd44 (m / 10)).length + K) v' (h0 ++ [((48 + m % 10 : Nat) : Int)]) x0 ds := fun v' hv' =>
        ih (m / 10) (by omega) v' _ hv' (by omega) (by rw [i64_iff]; omega) (by rw [List.length_append, List.length_singleton]; omega) (by rw [List.append_assoc]; exact he)
      rw [e1, R44_5, if_pos hne]
      rcases hv with rfl | rfl
      · have t1 : Int.tmod (m : Int) 10 = ((m % 10 : Nat) : Int) := rfl
        have t2 : Int.tdiv (m : Int) 10 = ((m / 10 : Nat) : Int) := rfl
        rw [t1, t2]
        refine ⟨by rw [i64_iff]; omega, ?_⟩
        rw [if_neg (by simp only [decide_eq_true_eq]; omega)]
        have e2 : 48 + ((m % 10 : Nat) : Int) = ((48 + m % 10 : Nat) : Int) := by omega
        rw [e2]
        exact ⟨by rw [i64_iff]; omega, by rw [u8_iff]; omega, by omega, by rw [i64_iff]; omega, next _ (.inl rfl)⟩
      · have t1 : Int.tmod (-(m : Int)) 10 = -((m % 10 : Nat) : Int) := by rw [Int.neg_tmod]; rfl
        have t2 : Int.tdiv (-(m : Int)) 10 = -((m / 10 : Nat) : Int) := by rw [Int.neg_tdiv]; rfl
        rw [t1, t2]
        refine ⟨by rw [i64_iff]; omega, ?_⟩
        by_cases hz : m % 10 = 0
        · rw [if_neg (by simp only [decide_eq_true_eq]; omega)]
          have e2 : 48 + -((m % 10 : Nat) : Int) = ((48 + m % 10 : Nat) : Int) := by omega
          rw [e2]
          exact ⟨by rw [i64_iff]; omega, by rw [u8_iff]; omega, by omega, by rw [i64_iff]; omega, next _ (.inr rfl)⟩
        · rw [if_pos (by simp only [decide_eq_true_eq]; omega)]
          have e2 : 48 + (0 - -((m % 10 : Nat) : Int)) = ((48 + m % 10 : Nat) : Int) := by omega
          rw [e2]
          exact ⟨by rw [i64_iff]; omega, by rw [i64_iff]; omega, by rw [u8_iff]; omega, by omega, by rw [i64_iff]; omega, next _ (.inr rfl)⟩

theorem top44 (x0 : Int) (hi : InR .i64 x0) : ∃ n, R44 n x0 [⟨.str, g44_0 x0⟩] := by
  unfold g44_0 numB Lib.itoa
  by_cases h : x0 = 0
  · subst h
    refine ⟨1, ?_⟩
    rw [R44, if_pos (by rfl), if_neg (by decide)]
    have e : Lib.decDigits (Int.toNat 0) = [48] := by rw [Lib.decDigits, dif_pos (by decide)]; rfl
    rw [e]
  · have hi' := hi
    rw [i64_iff] at hi'
    have hn : x0.natAbs ≠ 0 := by omega
    have hl := rdl44 19 x0.natAbs (by omega)
    refine ⟨(rd44 x0.natAbs).length + ((if x0 < 0 then (rd44 x0.natAbs).length + 1 else (rd44 x0.natAbs).length) + 1 + 1) + 1, ?_⟩
    rw [R44, if_neg (by simpa using h)]
    have hlast := last44 x0 (rd44 x0.natAbs) (by omega)
    have hrun := run44 x0 _ (rd44 x0.natAbs) _ hlast x0.natAbs x0 [] (by omega) (by omega) hi (by simp; omega) rfl
    have e : bytesStr (if x0 < 0 then rd44 x0.natAbs ++ [45] else rd44 x0.natAbs).reverse = ⟨(if x0 < 0 then 45 :: Lib.decDigits x0.natAbs else Lib.decDigits x0.toNat).toArray⟩ := by
      by_cases hx : x0 < 0
      · rw [if_pos hx, if_pos hx, List.reverse_append]
        show bytesStr ((45 : Int) :: (rd44 x0.natAbs).reverse) = _
        have := rdd44 x0.natAbs hn
        have e0 : bytesStr ((45 : Int) :: (rd44 x0.natAbs).reverse) = ⟨⟨45 :: (bytesStr (rd44 x0.natAbs).reverse).data.toList⟩⟩ := by rw [bstr44, bstr44]; rfl
        rw [e0, this]
      · rw [if_neg hx, if_neg hx, rdd44 x0.natAbs hn, show x0.natAbs = x0.toNat by omega]
    rw [e] at hrun
    exact hrun

def S44 : Am.Spec := { sig := sig44, pre := fun ⟨x0, _⟩ => P44 x0, res := fun ⟨x0, _⟩ => [⟨.str, g44_0 x0⟩] }
theorem con44 : Contract Tryz.prog 44 S44 := contract_of Tryz.func44 hb44 (Nat.le_of_ble_eq_true (by kernel_rfl)) (fun ⟨x0, _⟩ h hwf w0 O q => by
  obtain ⟨n, hn⟩ := top44 x0 hwf.1
  exact (snd44 n).1 x0 _ hn w0 O q)

end Go.Proofs.YtcppjmlhilklcaaGreatDoor

/- Function 27 (spec.l29Five): its runs between cut points. Written by a program of this repo (gen). -/
set_option linter.unusedVariables false
set_option linter.unusedSimpArgs false
set_option maxRecDepth 100000
namespace Go.Proofs.YtcppjmlhilklcaaGreatDoor
open Go Go.Am Go.Proofs
def ext27 : Ext := [(44, S44)]
theorem call27_44 : Callable Tryz.prog 44 := ⟨Tryz.f44, Tryz.func44, by kernel_rfl, by kernel_rfl⟩
theorem ext27Ok : ExtOk Tryz.prog ext27 := ⟨⟨call27_44, con44⟩, trivial⟩
/-! Function 27. -/
noncomputable def b27 : Code := bodyOf Tryz.f27
theorem hb27 : Tryz.f27.body = some b27 := by kernel_rfl
def sig27 : List AT := [AT.v (Ty.int IntKind.i64)]
def tys27 : List Ty := [Ty.str]
def E27_2 (v3 : ByteArray) : Env := [(3, PV.a (Atom.val (Value.string v3)))]
def L27_2 (v3 : ByteArray) : Heap := []
mutual
def R27 : Nat → Int → List Dyn → Prop
  | 0, _, _ => False
  | n + 1, x0, ds => (R27_2 n (g44_0 x0) ds)
def R27_2 : Nat → ByteArray → List Dyn → Prop
  | 0, _, _ => False
  | n + 1, v3, ds => (if (Decidable.decide ((↑(ByteArray.size v3) : Int) < 5)) = true then ((1 + ByteArray.size v3 ≤ 9223372036854775807) ∧ (R27_2 n (ByteArray.mk #[48] ++ v3) ds)) else (ds = [Dyn.mk Ty.str v3]))
end
theorem p27_0 (x0 : Int) : Am.runN tab ext27 false 12 [] 2000 [] [] [3] [] [] [.code b27] (entE 0 0 sig27 (x0, ())) (entL sig27 (x0, ())) = some (cutAt b27 2, E27_2 (g44_0 x0), L27_2 (g44_0 x0), [True]) := by kernel_rfl
theorem p27_1 (v3 : ByteArray) : Am.runN tab ext27 false 12 [] 2000 [] [] [3] [] [true] (cutAt b27 2) (E27_2 v3) (L27_2 v3) = some (cutAt b27 2, E27_2 (ByteArray.mk #[48] ++ v3), L27_2 (ByteArray.mk #[48] ++ v3), [Decidable.decide ((↑(ByteArray.size v3) : Int) < 5) = Bool.true, 1 + ByteArray.size v3 ≤ 9223372036854775807]) := by kernel_rfl
theorem p27_2 (v3 : ByteArray) : runF tab ext27 false 12 [] 2000 [] tys27 Tryz.f27.results [false] (cutAt b27 2) (E27_2 v3) (L27_2 v3) = some ([Dyn.mk Ty.str v3], [], [Decidable.decide ((↑(ByteArray.size v3) : Int) < 5) = Bool.false]) := by kernel_rfl
theorem snd27 : ∀ n, (∀ (x0 : Int) ds, R27 n x0 ds → ∀ w0 O q, AtV Tryz.prog 27 (PostR ds [] [] q w0 O) 12 w0 O q [] [.code b27] (entE 0 0 sig27 (x0, ())) (entL sig27 (x0, ()))) ∧ (∀ (v3 : ByteArray) ds, R27_2 n v3 ds → ∀ w0 O q, AtV Tryz.prog 27 (PostR ds [] [] q w0 O) 12 w0 O q [] (cutAt b27 2) (E27_2 v3) (L27_2 v3)) := by
  intro n
  induction n with
  | zero => exact ⟨fun _ _ h => by simp only [R27] at h, fun _ _ h => by simp only [R27_2] at h⟩
  | succ n ih =>
  obtain ⟨ih, ih2⟩ := ih
  refine ⟨?_, ?_⟩
  · intro x0 ds h w0 O q
    rw [R27] at h
    exact AtV.runN tabOk ext27Ok mixed (p27_0 x0) ⟨trivial, trivial⟩ (ih2 _ _ h w0 O q)

  · intro v3 ds h w0 O q
    rw [R27_2] at h
    by_cases b0 : (Decidable.decide ((↑(ByteArray.size v3) : Int) < 5)) = true
    · rw [if_pos b0] at h
      obtain ⟨s0, h⟩ := h
      exact AtV.runN tabOk ext27Ok mixed (p27_1 v3) ⟨b0, s0, trivial⟩ (ih2 _ _ h w0 O q)
    · rw [if_neg b0] at h
      replace b0 := Bool.eq_false_iff.2 b0
      subst h
      exact AtV.fin Tryz.func27 tabOk ext27Ok mixed (p27_2 v3) ⟨b0, trivial⟩



def f527 : Nat → ByteArray → ByteArray
  | 0, s => s
  | k + 1, s => if s.size < 5 then f527 k (ByteArray.mk #[48] ++ s) else s
def g27_0 (x0 : Int) : ByteArray := f527 5 (g44_0 x0)
def P27 (x0 : Int) : Prop := True

theorem run27 : ∀ (k : Nat) (s : ByteArray), 5 ≤ s.size + k → R27_2 (k + 1) s [⟨.str, f527 k s⟩] := by
  intro k
  have i48 : (ByteArray.mk #[48]).size = 1 := rfl
  induction k with
  | zero =>
    intro s h
    rw [R27_2, if_neg (by simp; omega)]
    rfl
  | succ k ih =>
    intro s h
    rw [R27_2]
    unfold f527
    by_cases hc : s.size < 5
    · rw [if_pos (by simp; omega), if_pos hc]
      exact ⟨by omega, ih _ (by rw [ByteArray.size_append, i48]; omega)⟩
    · rw [if_neg (by simp; omega), if_neg hc]

theorem top27 (x0 : Int) : R27 7 x0 [⟨.str, g27_0 x0⟩] := by
  rw [R27]
  exact run27 5 _ (by omega)

def S27 : Am.Spec := { sig := sig27, pre := fun ⟨x0, _⟩ => P27 x0, res := fun ⟨x0, _⟩ => [⟨Ty.str, g27_0 x0⟩] }
theorem con27 : Contract Tryz.prog 27 S27 := contract_of Tryz.func27 hb27 (Nat.le_of_ble_eq_true (by kernel_rfl)) (fun ⟨x0, _⟩ h hwf w0 O q =>
  (snd27 _).1 x0 _ (top27 x0) w0 O q)

end Go.Proofs.YtcppjmlhilklcaaGreatDoor

/- Function 62 (spec.l01Small): its runs between cut points. Written by a program of this repo (gen). -/
set_option linter.unusedVariables false
set_option linter.unusedSimpArgs false
set_option maxRecDepth 100000
namespace Go.Proofs.YtcppjmlhilklcaaGreatDoor
open Go Go.Am Go.Proofs
def ext62 : Ext := []
theorem ext62Ok : ExtOk Tryz.prog ext62 := trivial
/-! Function 62. -/
noncomputable def b62 : Code := bodyOf Tryz.f62
theorem hb62 : Tryz.f62.body = some b62 := by kernel_rfl
def sig62 : List AT := [AT.v (Ty.int IntKind.u8)]
def tys62 : List Ty := [Ty.bool]
def P62 (x0 : Int) : Prop := True
def g62_0 (x0 : Int) : Bool := (if (Decidable.decide (x0 ≥ 97)) = true then Decidable.decide (x0 ≤ 122) else Bool.false)
theorem p62_0 (x0 : Int) : runF tab ext62 false 9 [] 2000 [] tys62 Tryz.f62.results [true] [.code b62] (entE 0 0 sig62 (x0, ())) (entL sig62 (x0, ())) = some ([Dyn.mk Ty.bool (Decidable.decide (x0 ≤ 122))], [], [Decidable.decide (x0 ≥ 97) = Bool.true]) := by kernel_rfl
theorem p62_1 (x0 : Int) : runF tab ext62 false 9 [] 2000 [] tys62 Tryz.f62.results [false] [.code b62] (entE 0 0 sig62 (x0, ())) (entL sig62 (x0, ())) = some ([Dyn.mk Ty.bool Bool.false], [], [Decidable.decide (x0 ≥ 97) = Bool.false]) := by kernel_rfl
theorem at62 (x0 : Int) (h : P62 x0) (w0 : World) (O : List Nat) (q : Nat → Value) : AtV Tryz.prog 62 (PostR [⟨Ty.bool, g62_0 x0⟩] [] [] q w0 O) 9 w0 O q [] [.code b62] (entE 0 0 sig62 (x0, ())) (entL sig62 (x0, ())) := by
  unfold P62 at h
  unfold g62_0
  by_cases b0 : (Decidable.decide (x0 ≥ 97)) = true
  · try simp only [if_pos b0] at h ⊢
    exact AtV.fin Tryz.func62 tabOk ext62Ok mixed (p62_0 x0) ⟨b0, trivial⟩
  · try simp only [if_neg b0] at h ⊢
    replace b0 := Bool.eq_false_iff.2 b0
    exact AtV.fin Tryz.func62 tabOk ext62Ok mixed (p62_1 x0) ⟨b0, trivial⟩

def S62 : Am.Spec := { sig := sig62, pre := fun ⟨x0, _⟩ => P62 x0, res := fun ⟨x0, _⟩ => [⟨Ty.bool, g62_0 x0⟩] }
theorem con62 : Contract Tryz.prog 62 S62 := contract_of Tryz.func62 hb62 (Nat.le_of_ble_eq_true (by kernel_rfl)) (fun ⟨x0, _⟩ h _ w0 O q => at62 x0 h w0 O q)


end Go.Proofs.YtcppjmlhilklcaaGreatDoor

/- Function 45 (spec.l01Name): its runs between cut points. Written by a program of this repo (gen). -/
set_option linter.unusedVariables false
set_option linter.unusedSimpArgs false
set_option maxRecDepth 100000
namespace Go.Proofs.YtcppjmlhilklcaaGreatDoor
open Go Go.Am Go.Proofs
def ext45 : Ext := [(62, S62), (43, S43)]
theorem call45_62 : Callable Tryz.prog 62 := ⟨Tryz.f62, Tryz.func62, by kernel_rfl, by kernel_rfl⟩
theorem call45_43 : Callable Tryz.prog 43 := ⟨Tryz.f43, Tryz.func43, by kernel_rfl, by kernel_rfl⟩
theorem ext45Ok : ExtOk Tryz.prog ext45 := ⟨⟨call45_62, con62⟩, ⟨call45_43, con43⟩, trivial⟩
/-! Function 45. -/
noncomputable def b45 : Code := bodyOf Tryz.f45
theorem hb45 : Tryz.f45.body = some b45 := by kernel_rfl
def sig45 : List AT := [AT.v (Ty.str)]
def tys45 : List Ty := [Ty.bool]
def E45_4 (v3 : Int) (x0 : ByteArray) : Env := [(0, PV.a (Atom.val (Value.string x0))), (3, PV.a (Atom.val (Value.int IntKind.i64 v3)))]
def L45_4 (v3 : Int) (x0 : ByteArray) : Heap := []
mutual
def R45 : Nat → ByteArray → List Dyn → Prop
  | 0, _, _ => False
  | n + 1, x0, ds => (if (ByteArray.toList x0 == ByteArray.toList (ByteArray.mk #[])) = true then (ds = [Dyn.mk Ty.bool Bool.false]) else (if (Decidable.decide ((↑(ByteArray.size x0) : Int) > 10)) = true then (ds = [Dyn.mk Ty.bool Bool.false]) else ((0 < (↑(ByteArray.size x0) : Int)) ∧ (if (!g62_0 (↑(UInt8.toNat (List.getD (Array.toList (ByteArray.data x0)) 0 0)) : Int)) = true then (ds = [Dyn.mk Ty.bool Bool.false]) else (R45_4 n (0) (x0) ds)))))
def R45_4 : Nat → Int → ByteArray → List Dyn → Prop
  | 0, _, _, _ => False
  | n + 1, v3, x0, ds => (if (Decidable.decide (v3 < (↑(ByteArray.size x0) : Int))) = true then ((0 ≤ v3) ∧ (v3 < (↑(ByteArray.size x0) : Int)) ∧ (if (!g62_0 (↑(UInt8.toNat (List.getD (Array.toList (ByteArray.data x0)) (Int.toNat v3) 0)) : Int)) = true then ((0 ≤ v3) ∧ (v3 < (↑(ByteArray.size x0) : Int)) ∧ (if (!g43_0 (↑(UInt8.toNat (List.getD (Array.toList (ByteArray.data x0)) (Int.toNat v3) 0)) : Int)) = true then (ds = [Dyn.mk Ty.bool Bool.false]) else ((InR IntKind.i64 (v3 + 1)) ∧ (R45_4 n (v3 + 1) (x0) ds)))) else ((InR IntKind.i64 (v3 + 1)) ∧ (R45_4 n (v3 + 1) (x0) ds)))) else (ds = [Dyn.mk Ty.bool Bool.true]))
end
theorem p45_0 (x0 : ByteArray) : runF tab ext45 false 35 [] 2000 [] tys45 Tryz.f45.results [true, true, true] [.code b45] (entE 0 0 sig45 (x0, ())) (entL sig45 (x0, ())) = some ([Dyn.mk Ty.bool Bool.false], [], [(ByteArray.toList x0 == ByteArray.toList (ByteArray.mk #[])) = Bool.true, Bool.true = Bool.true, Bool.true = Bool.true]) := by kernel_rfl
theorem p45_1 (x0 : ByteArray) : runF tab ext45 false 35 [] 2000 [] tys45 Tryz.f45.results [false, true, true] [.code b45] (entE 0 0 sig45 (x0, ())) (entL sig45 (x0, ())) = some ([Dyn.mk Ty.bool Bool.false], [], [(ByteArray.toList x0 == ByteArray.toList (ByteArray.mk #[])) = Bool.false, Decidable.decide ((↑(ByteArray.size x0) : Int) > 10) = Bool.true, Bool.true = Bool.true]) := by kernel_rfl
theorem p45_2 (x0 : ByteArray) : runF tab ext45 false 35 [] 2000 [] tys45 Tryz.f45.results [false, false, true] [.code b45] (entE 0 0 sig45 (x0, ())) (entL sig45 (x0, ())) = some ([Dyn.mk Ty.bool Bool.false], [], [(ByteArray.toList x0 == ByteArray.toList (ByteArray.mk #[])) = Bool.false, Decidable.decide ((↑(ByteArray.size x0) : Int) > 10) = Bool.false, (0 : Int) ≤ (0 : Int), 0 < (↑(ByteArray.size x0) : Int), True, (!g62_0 (↑(UInt8.toNat (List.getD (Array.toList (ByteArray.data x0)) 0 0)) : Int)) = Bool.true]) := by kernel_rfl
theorem p45_3 (x0 : ByteArray) : Am.runN tab ext45 false 35 [] 2000 [] [] [0, 3] [] [false, false, false] [.code b45] (entE 0 0 sig45 (x0, ())) (entL sig45 (x0, ())) = some (cutAt b45 4, E45_4 (0) (x0), L45_4 (0) (x0), [(ByteArray.toList x0 == ByteArray.toList (ByteArray.mk #[])) = Bool.false, Decidable.decide ((↑(ByteArray.size x0) : Int) > 10) = Bool.false, (0 : Int) ≤ (0 : Int), 0 < (↑(ByteArray.size x0) : Int), True, (!g62_0 (↑(UInt8.toNat (List.getD (Array.toList (ByteArray.data x0)) 0 0)) : Int)) = Bool.false]) := by kernel_rfl
theorem p45_4 (v3 : Int) (x0 : ByteArray) : runF tab ext45 false 35 [] 2000 [] tys45 Tryz.f45.results [true, true, true] (cutAt b45 4) (E45_4 v3 x0) (L45_4 v3 x0) = some ([Dyn.mk Ty.bool Bool.false], [], [Decidable.decide (v3 < (↑(ByteArray.size x0) : Int)) = Bool.true, 0 ≤ v3, v3 < (↑(ByteArray.size x0) : Int), True, (!g62_0 (↑(UInt8.toNat (List.getD (Array.toList (ByteArray.data x0)) (Int.toNat v3) 0)) : Int)) = Bool.true, 0 ≤ v3, v3 < (↑(ByteArray.size x0) : Int), True, (!g43_0 (↑(UInt8.toNat (List.getD (Array.toList (ByteArray.data x0)) (Int.toNat v3) 0)) : Int)) = Bool.true]) := by kernel_rfl
theorem p45_5 (v3 : Int) (x0 : ByteArray) : Am.runN tab ext45 false 35 [] 2000 [] [] [0, 3] [] [true, true, false] (cutAt b45 4) (E45_4 v3 x0) (L45_4 v3 x0) = some (cutAt b45 4, E45_4 (v3 + 1) (x0), L45_4 (v3 + 1) (x0), [Decidable.decide (v3 < (↑(ByteArray.size x0) : Int)) = Bool.true, 0 ≤ v3, v3 < (↑(ByteArray.size x0) : Int), True, (!g62_0 (↑(UInt8.toNat (List.getD (Array.toList (ByteArray.data x0)) (Int.toNat v3) 0)) : Int)) = Bool.true, 0 ≤ v3, v3 < (↑(ByteArray.size x0) : Int), True, (!g43_0 (↑(UInt8.toNat (List.getD (Array.toList (ByteArray.data x0)) (Int.toNat v3) 0)) : Int)) = Bool.false, InR IntKind.i64 (v3 + 1)]) := by kernel_rfl
theorem p45_6 (v3 : Int) (x0 : ByteArray) : Am.runN tab ext45 false 35 [] 2000 [] [] [0, 3] [] [true, false, false] (cutAt b45 4) (E45_4 v3 x0) (L45_4 v3 x0) = some (cutAt b45 4, E45_4 (v3 + 1) (x0), L45_4 (v3 + 1) (x0), [Decidable.decide (v3 < (↑(ByteArray.size x0) : Int)) = Bool.true, 0 ≤ v3, v3 < (↑(ByteArray.size x0) : Int), True, (!g62_0 (↑(UInt8.toNat (List.getD (Array.toList (ByteArray.data x0)) (Int.toNat v3) 0)) : Int)) = Bool.false, Bool.false = Bool.false, InR IntKind.i64 (v3 + 1)]) := by kernel_rfl
theorem p45_7 (v3 : Int) (x0 : ByteArray) : runF tab ext45 false 35 [] 2000 [] tys45 Tryz.f45.results [false] (cutAt b45 4) (E45_4 v3 x0) (L45_4 v3 x0) = some ([Dyn.mk Ty.bool Bool.true], [], [Decidable.decide (v3 < (↑(ByteArray.size x0) : Int)) = Bool.false]) := by kernel_rfl
theorem snd45 : ∀ n, (∀ (x0 : ByteArray) ds, R45 n x0 ds → ∀ w0 O q, AtV Tryz.prog 45 (PostR ds [] [] q w0 O) 35 w0 O q [] [.code b45] (entE 0 0 sig45 (x0, ())) (entL sig45 (x0, ()))) ∧ (∀ (v3 : Int) (x0 : ByteArray) ds, R45_4 n v3 x0 ds → ∀ w0 O q, AtV Tryz.prog 45 (PostR ds [] [] q w0 O) 35 w0 O q [] (cutAt b45 4) (E45_4 v3 x0) (L45_4 v3 x0)) := by
  intro n
  induction n with
  | zero => exact ⟨fun _ _ h => by simp only [R45] at h, fun _ _ _ h => by simp only [R45_4] at h⟩
  | succ n ih =>
  obtain ⟨ih, ih4⟩ := ih
  refine ⟨?_, ?_⟩
  · intro x0 ds h w0 O q
    rw [R45] at h
    by_cases b0 : (ByteArray.toList x0 == ByteArray.toList (ByteArray.mk #[])) = true
    · rw [if_pos b0] at h
      subst h
      exact AtV.fin Tryz.func45 tabOk ext45Ok mixed (p45_0 x0) ⟨b0, rfl, rfl, trivial⟩
    · rw [if_neg b0] at h
      replace b0 := Bool.eq_false_iff.2 b0
      by_cases b1 : (Decidable.decide ((↑(ByteArray.size x0) : Int) > 10)) = true
      · rw [if_pos b1] at h
        subst h
        exact AtV.fin Tryz.func45 tabOk ext45Ok mixed (p45_1 x0) ⟨b0, b1, rfl, trivial⟩
      · rw [if_neg b1] at h
        replace b1 := Bool.eq_false_iff.2 b1
        obtain ⟨s0, h⟩ := h
        by_cases b2 : (!g62_0 (↑(UInt8.toNat (List.getD (Array.toList (ByteArray.data x0)) 0 0)) : Int)) = true
        · rw [if_pos b2] at h
          subst h
          exact AtV.fin Tryz.func45 tabOk ext45Ok mixed (p45_2 x0) ⟨b0, b1, (by decide), s0, trivial, b2, trivial⟩
        · rw [if_neg b2] at h
          replace b2 := Bool.eq_false_iff.2 b2
          exact AtV.runN tabOk ext45Ok mixed (p45_3 x0) ⟨b0, b1, (by decide), s0, trivial, b2, trivial⟩ (ih4 _ _ _ h w0 O q)

  · intro v3 x0 ds h w0 O q
    rw [R45_4] at h
    by_cases b0 : (Decidable.decide (v3 < (↑(ByteArray.size x0) : Int))) = true
    · rw [if_pos b0] at h
      obtain ⟨s0, s1, h⟩ := h
      by_cases b1 : (!g62_0 (↑(UInt8.toNat (List.getD (Array.toList (ByteArray.data x0)) (Int.toNat v3) 0)) : Int)) = true
      · rw [if_pos b1] at h
        obtain ⟨s2, s3, h⟩ := h
        by_cases b2 : (!g43_0 (↑(UInt8.toNat (List.getD (Array.toList (ByteArray.data x0)) (Int.toNat v3) 0)) : Int)) = true
        · rw [if_pos b2] at h
          subst h
          exact AtV.fin Tryz.func45 tabOk ext45Ok mixed (p45_4 v3 x0) ⟨b0, s0, s1, trivial, b1, s2, s3, trivial, b2, trivial⟩
        · rw [if_neg b2] at h
          replace b2 := Bool.eq_false_iff.2 b2
          obtain ⟨s4, h⟩ := h
          exact AtV.runN tabOk ext45Ok mixed (p45_5 v3 x0) ⟨b0, s0, s1, trivial, b1, s2, s3, trivial, b2, s4, trivial⟩ (ih4 _ _ _ h w0 O q)
      · rw [if_neg b1] at h
        replace b1 := Bool.eq_false_iff.2 b1
        obtain ⟨s2, h⟩ := h
        exact AtV.runN tabOk ext45Ok mixed (p45_6 v3 x0) ⟨b0, s0, s1, trivial, b1, rfl, s2, trivial⟩ (ih4 _ _ _ h w0 O q)
    · rw [if_neg b0] at h
      replace b0 := Bool.eq_false_iff.2 b0
      subst h
      exact AtV.fin Tryz.func45 tabOk ext45Ok mixed (p45_7 v3 x0) ⟨b0, trivial⟩



def g45_0 (x0 : ByteArray) : Bool := decide (1 ≤ x0.size) && decide (x0.size ≤ 10) && g62_0 ((bytesOf x0).getD 0 0) && (bytesOf x0).all fun b => g62_0 b || g43_0 b
def P45 (x0 : ByteArray) : Prop := True

theorem top45 (x0 : ByteArray) (hw : Wf .str x0) : R45 (x0.size + 1 + 1) x0 [⟨.bool, g45_0 x0⟩] := by
  have hl := bytesOf_length x0
  rw [R45]
  by_cases h0 : x0 = ByteArray.mk #[]
  · rw [if_pos ((bytes_eq _ _).2 h0)]
    subst h0
    rfl
  · rw [if_neg (fun h => h0 ((bytes_eq _ _).1 h))]
    have hs : 1 ≤ x0.size := by
      rcases Nat.lt_or_ge 0 x0.size with h | h
      · exact h
      · exact absurd (bytesOf_inj (s := x0) (t := ByteArray.mk #[]) (List.eq_nil_of_length_eq_zero (by rw [hl]; omega))) h0
    by_cases h1 : (x0.size : Int) > 10
    · rw [if_pos (by simpa using h1)]
      have : ¬ x0.size ≤ 10 := by omega
      simp [g45_0, this]
    · rw [if_neg (by simpa using h1)]
      refine ⟨by omega, ?_⟩
      rw [byte_get]
      cases h2 : g62_0 ((bytesOf x0).getD 0 0) with
      | false =>
        rw [if_pos (by simp)]
        simp [g45_0, h2, -List.getD_eq_getElem?_getD]
      | true =>
        rw [if_neg (by simp)]
        have key := loop_test (bytesOf x0) 0 (fun b => g62_0 b || g43_0 b) [(⟨.bool, false⟩ : Dyn)] [⟨.bool, true⟩] (fun n i ds => R45_4 n i x0 ds) (fun n => ?_) (fun n i hi hok ds hr => ?_) (fun n i hi hok => ?_)
        · rw [hl] at key
          have e : g45_0 x0 = (bytesOf x0).all fun b => g62_0 b || g43_0 b := by
            have : x0.size ≤ 10 := by omega
            unfold g45_0
            simp only [hs, this, decide_true, Bool.true_and, h2]
          rw [e]
          cases h : (bytesOf x0).all fun b => g62_0 b || g43_0 b with
          | true => rw [if_pos h] at key; exact key
          | false => rw [if_neg (by rw [h]; simp)] at key; exact key
        · show R45_4 (n + 1) ((bytesOf x0).length : Int) x0 _
          rw [R45_4, hl, if_neg (by simp)]
        · rw [R45_4, if_pos (by simp; omega)]
          simp only [Int.toNat_natCast, byte_get]
          generalize (bytesOf x0).getD i 0 = c at *
          refine ⟨by omega, by omega, ?_⟩
          have hu := inR_up (xs := bytesOf x0) (by rw [hl]; exact hw) hi
          cases h3 : g62_0 c with
          | true => rw [if_neg (by simp)]; exact ⟨hu, hr⟩
          | false =>
            rw [if_pos (by simp)]
            rw [h3, Bool.false_or] at hok
            refine ⟨by omega, by omega, ?_⟩
            rw [if_neg (by rw [hok]; simp)]
            exact ⟨hu, hr⟩
        · simp only [Bool.or_eq_false_iff] at hok
          rw [R45_4, if_pos (by simp; omega)]
          simp only [Int.toNat_natCast, byte_get]
          refine ⟨by omega, by omega, ?_⟩
          rw [if_pos (by rw [hok.1]; rfl)]
          refine ⟨by omega, by omega, ?_⟩
          rw [if_pos (by rw [hok.2]; rfl)] <;> trivial

def S45 : Am.Spec := { sig := sig45, pre := fun ⟨x0, _⟩ => P45 x0, res := fun ⟨x0, _⟩ => [⟨Ty.bool, g45_0 x0⟩] }
theorem con45 : Contract Tryz.prog 45 S45 := contract_of Tryz.func45 hb45 (Nat.le_of_ble_eq_true (by kernel_rfl)) (fun ⟨x0, _⟩ h hwf w0 O q =>
  (snd45 _).1 x0 _ (top45 x0 hwf.1) w0 O q)

end Go.Proofs.YtcppjmlhilklcaaGreatDoor

/- Function 29 (spec.l29One): its runs between cut points. Written by a program of this repo (gen). -/
set_option linter.unusedVariables false
set_option linter.unusedSimpArgs false
set_option maxRecDepth 100000
namespace Go.Proofs.YtcppjmlhilklcaaGreatDoor
open Go Go.Am Go.Proofs
def ext29 : Ext := [(45, S45)]
theorem call29_45 : Callable Tryz.prog 45 := ⟨Tryz.f45, Tryz.func45, by kernel_rfl, by kernel_rfl⟩
theorem ext29Ok : ExtOk Tryz.prog ext29 := ⟨⟨call29_45, con45⟩, trivial⟩
/-! Function 29. -/
noncomputable def b29 : Code := bodyOf Tryz.f29
theorem hb29 : Tryz.f29.body = some b29 := by kernel_rfl
def sig29 : List AT := [AT.p (Ty.cons Ty.str (Ty.cons Ty.str (Ty.cons Ty.str Ty.unit)))]
def tys29 : List Ty := [Ty.bool]
def E29_2 (v3 : Int) (x0 : ByteArray × ByteArray × ByteArray × Unit) : Env := [(0, PV.a (Atom.ptr (Ty.cons Ty.str (Ty.cons Ty.str (Ty.cons Ty.str Ty.unit))) x0)), (3, PV.a (Atom.val (Value.int IntKind.i64 v3)))]
def L29_2 (v3 : Int) (x0 : ByteArray × ByteArray × ByteArray × Unit) : Heap := []
mutual
def R29 : Nat → ByteArray × ByteArray × ByteArray × Unit → List Dyn → Prop
  | 0, _, _ => False
  | n + 1, x0, ds => (R29_2 n (0) (x0) ds)
def R29_2 : Nat → Int → ByteArray × ByteArray × ByteArray × Unit → List Dyn → Prop
  | 0, _, _, _ => False
  | n + 1, v3, x0, ds => (if (Decidable.decide (v3 < (↑(ByteArray.size (Prod.fst (Prod.snd (Prod.snd x0)))) : Int))) = true then ((0 ≤ v3) ∧ (v3 < (↑(ByteArray.size (Prod.fst (Prod.snd (Prod.snd x0)))) : Int)) ∧ (if ((↑(UInt8.toNat (List.getD (Array.toList (ByteArray.data (Prod.fst (Prod.snd (Prod.snd x0))))) (Int.toNat v3) 0)) : Int) == 10) = true then (ds = [Dyn.mk Ty.bool Bool.false]) else ((InR IntKind.i64 (v3 + 1)) ∧ (R29_2 n (v3 + 1) (x0) ds)))) else (if (g45_0 (Prod.fst x0)) = true then (if (g45_0 (Prod.fst (Prod.snd x0))) = true then (ds = [Dyn.mk Ty.bool (Decidable.decide ((↑(ByteArray.size (Prod.fst (Prod.snd (Prod.snd x0)))) : Int) ≤ 400))]) else (ds = [Dyn.mk Ty.bool Bool.false])) else (ds = [Dyn.mk Ty.bool Bool.false])))
end
theorem p29_0 (x0 : ByteArray × ByteArray × ByteArray × Unit) : Am.runN tab ext29 false 40 [] 2000 [] [] [0, 3] [] [] [.code b29] (entE 0 0 sig29 (x0, ())) (entL sig29 (x0, ())) = some (cutAt b29 2, E29_2 (0) (x0), L29_2 (0) (x0), []) := by kernel_rfl
theorem p29_1 (v3 : Int) (x0 : ByteArray × ByteArray × ByteArray × Unit) : runF tab ext29 false 40 [] 2000 [] tys29 Tryz.f29.results [true, true] (cutAt b29 2) (E29_2 v3 x0) (L29_2 v3 x0) = some ([Dyn.mk Ty.bool Bool.false], [], [Decidable.decide (v3 < (↑(ByteArray.size (Prod.fst (Prod.snd (Prod.snd x0)))) : Int)) = Bool.true, 0 ≤ v3, v3 < (↑(ByteArray.size (Prod.fst (Prod.snd (Prod.snd x0)))) : Int), ((↑(UInt8.toNat (List.getD (Array.toList (ByteArray.data (Prod.fst (Prod.snd (Prod.snd x0))))) (Int.toNat v3) 0)) : Int) == 10) = Bool.true]) := by kernel_rfl
theorem p29_2 (v3 : Int) (x0 : ByteArray × ByteArray × ByteArray × Unit) : Am.runN tab ext29 false 40 [] 2000 [] [] [0, 3] [] [true, false] (cutAt b29 2) (E29_2 v3 x0) (L29_2 v3 x0) = some (cutAt b29 2, E29_2 (v3 + 1) (x0), L29_2 (v3 + 1) (x0), [Decidable.decide (v3 < (↑(ByteArray.size (Prod.fst (Prod.snd (Prod.snd x0)))) : Int)) = Bool.true, 0 ≤ v3, v3 < (↑(ByteArray.size (Prod.fst (Prod.snd (Prod.snd x0)))) : Int), ((↑(UInt8.toNat (List.getD (Array.toList (ByteArray.data (Prod.fst (Prod.snd (Prod.snd x0))))) (Int.toNat v3) 0)) : Int) == 10) = Bool.false, InR IntKind.i64 (v3 + 1)]) := by kernel_rfl
theorem p29_3 (v3 : Int) (x0 : ByteArray × ByteArray × ByteArray × Unit) : runF tab ext29 false 40 [] 2000 [] tys29 Tryz.f29.results [false, true, true] (cutAt b29 2) (E29_2 v3 x0) (L29_2 v3 x0) = some ([Dyn.mk Ty.bool (Decidable.decide ((↑(ByteArray.size (Prod.fst (Prod.snd (Prod.snd x0)))) : Int) ≤ 400))], [], [Decidable.decide (v3 < (↑(ByteArray.size (Prod.fst (Prod.snd (Prod.snd x0)))) : Int)) = Bool.false, True, g45_0 (Prod.fst x0) = Bool.true, True, g45_0 (Prod.fst (Prod.snd x0)) = Bool.true]) := by kernel_rfl
theorem p29_4 (v3 : Int) (x0 : ByteArray × ByteArray × ByteArray × Unit) : runF tab ext29 false 40 [] 2000 [] tys29 Tryz.f29.results [false, true, false] (cutAt b29 2) (E29_2 v3 x0) (L29_2 v3 x0) = some ([Dyn.mk Ty.bool Bool.false], [], [Decidable.decide (v3 < (↑(ByteArray.size (Prod.fst (Prod.snd (Prod.snd x0)))) : Int)) = Bool.false, True, g45_0 (Prod.fst x0) = Bool.true, True, g45_0 (Prod.fst (Prod.snd x0)) = Bool.false]) := by kernel_rfl
theorem p29_5 (v3 : Int) (x0 : ByteArray × ByteArray × ByteArray × Unit) : runF tab ext29 false 40 [] 2000 [] tys29 Tryz.f29.results [false, false, false] (cutAt b29 2) (E29_2 v3 x0) (L29_2 v3 x0) = some ([Dyn.mk Ty.bool Bool.false], [], [Decidable.decide (v3 < (↑(ByteArray.size (Prod.fst (Prod.snd (Prod.snd x0)))) : Int)) = Bool.false, True, g45_0 (Prod.fst x0) = Bool.false, Bool.false = Bool.false]) := by kernel_rfl
theorem snd29 : ∀ n, (∀ (x0 : ByteArray × ByteArray × ByteArray × Unit) ds, R29 n x0 ds → ∀ w0 O q, AtV Tryz.prog 29 (PostR ds [] [] q w0 O) 40 w0 O q [] [.code b29] (entE 0 0 sig29 (x0, ())) (entL sig29 (x0, ()))) ∧ (∀ (v3 : Int) (x0 : ByteArray × ByteArray × ByteArray × Unit) ds, R29_2 n v3 x0 ds → ∀ w0 O q, AtV Tryz.prog 29 (PostR ds [] [] q w0 O) 40 w0 O q [] (cutAt b29 2) (E29_2 v3 x0) (L29_2 v3 x0)) := by
  intro n
  induction n with
  | zero => exact ⟨fun _ _ h => by simp only [R29] at h, fun _ _ _ h => by simp only [R29_2] at h⟩
  | succ n ih =>
  obtain ⟨ih, ih2⟩ := ih
  refine ⟨?_, ?_⟩
  · intro x0 ds h w0 O q
    rw [R29] at h
    exact AtV.runN tabOk ext29Ok mixed (p29_0 x0) trivial (ih2 _ _ _ h w0 O q)

  · intro v3 x0 ds h w0 O q
    rw [R29_2] at h
    by_cases b0 : (Decidable.decide (v3 < (↑(ByteArray.size (Prod.fst (Prod.snd (Prod.snd x0)))) : Int))) = true
    · rw [if_pos b0] at h
      obtain ⟨s0, s1, h⟩ := h
      by_cases b1 : ((↑(UInt8.toNat (List.getD (Array.toList (ByteArray.data (Prod.fst (Prod.snd (Prod.snd x0))))) (Int.toNat v3) 0)) : Int) == 10) = true
      · rw [if_pos b1] at h
        subst h
        exact AtV.fin Tryz.func29 tabOk ext29Ok mixed (p29_1 v3 x0) ⟨b0, s0, s1, b1, trivial⟩
      · rw [if_neg b1] at h
        replace b1 := Bool.eq_false_iff.2 b1
        obtain ⟨s2, h⟩ := h
        exact AtV.runN tabOk ext29Ok mixed (p29_2 v3 x0) ⟨b0, s0, s1, b1, s2, trivial⟩ (ih2 _ _ _ h w0 O q)
    · rw [if_neg b0] at h
      replace b0 := Bool.eq_false_iff.2 b0
      by_cases b1 : (g45_0 (Prod.fst x0)) = true
      · rw [if_pos b1] at h
        by_cases b2 : (g45_0 (Prod.fst (Prod.snd x0))) = true
        · rw [if_pos b2] at h
          subst h
          exact AtV.fin Tryz.func29 tabOk ext29Ok mixed (p29_3 v3 x0) ⟨b0, trivial, b1, trivial, b2, trivial⟩
        · rw [if_neg b2] at h
          replace b2 := Bool.eq_false_iff.2 b2
          subst h
          exact AtV.fin Tryz.func29 tabOk ext29Ok mixed (p29_4 v3 x0) ⟨b0, trivial, b1, trivial, b2, trivial⟩
      · rw [if_neg b1] at h
        replace b1 := Bool.eq_false_iff.2 b1
        subst h
        exact AtV.fin Tryz.func29 tabOk ext29Ok mixed (p29_5 v3 x0) ⟨b0, trivial, b1, rfl, trivial⟩



def g29_0 (x0 : ByteArray × ByteArray × ByteArray × Unit) : Bool := (bytesOf x0.2.2.1).all (fun b => !(b == 10)) && g45_0 x0.1 && g45_0 x0.2.1 && decide (x0.2.2.1.size ≤ 400)
def P29 (x0 : ByteArray × ByteArray × ByteArray × Unit) : Prop := True

theorem top29 (x0 : ByteArray × ByteArray × ByteArray × Unit) (hw : Wf (.cons .str (.cons .str (.cons .str .unit))) x0) : R29 (x0.2.2.1.size + 1 + 1) x0 [⟨.bool, g29_0 x0⟩] := by
  have hl := bytesOf_length x0.2.2.1
  have hw3 : Wf .str x0.2.2.1 := hw.2.2.1
  rw [R29]
  have key := loop_test (bytesOf x0.2.2.1) 0 (fun b => !(b == 10)) [(⟨.bool, false⟩ : Dyn)] [⟨.bool, g45_0 x0.1 && g45_0 x0.2.1 && decide (x0.2.2.1.size ≤ 400)⟩] (fun n i ds => R29_2 n i x0 ds) (fun n => ?_) (fun n i hi hok ds hr => ?_) (fun n i hi hok => ?_)
  · rw [hl] at key
    unfold g29_0
    cases h : (bytesOf x0.2.2.1).all fun b => !(b == 10) with
    | true => rw [if_pos h] at key; simpa using key
    | false => rw [if_neg (by rw [h]; simp)] at key; simpa using key
  · show R29_2 (n + 1) ((bytesOf x0.2.2.1).length : Int) x0 _
    rw [R29_2, hl, if_neg (by simp)]
    have hc : decide ((x0.2.2.1.size : Int) ≤ 400) = decide (x0.2.2.1.size ≤ 400) := by
      congr 1; exact propext ⟨fun h => by omega, fun h => by omega⟩
    rw [hc]
    cases g45_0 x0.1 <;> cases g45_0 x0.2.1 <;> simp
  · rw [R29_2, if_pos (by simp; omega)]
    simp only [Int.toNat_natCast, byte_get]
    refine ⟨by omega, by omega, ?_⟩
    rw [if_neg (by intro h; rw [h] at hok; cases hok)]
    exact ⟨inR_up (xs := bytesOf x0.2.2.1) (by rw [hl]; exact hw3) hi, hr⟩
  · rw [R29_2, if_pos (by simp; omega)]
    simp only [Int.toNat_natCast, byte_get]
    refine ⟨by omega, by omega, ?_⟩
    rw [if_pos (by rw [Bool.not_eq_false'] at hok; exact hok)] <;> trivial

def S29 : Am.Spec := { sig := sig29, pre := fun ⟨x0, _⟩ => P29 x0, res := fun ⟨x0, _⟩ => [⟨Ty.bool, g29_0 x0⟩] }
theorem con29 : Contract Tryz.prog 29 S29 := contract_of Tryz.func29 hb29 (Nat.le_of_ble_eq_true (by kernel_rfl)) (fun ⟨x0, _⟩ h hwf w0 O q =>
  (snd29 _).1 x0 _ (top29 x0 hwf.1) w0 O q)

end Go.Proofs.YtcppjmlhilklcaaGreatDoor

/- Function 11 (spec.l29Parse): its runs between cut points. Written by a program of this repo (gen). -/
set_option linter.unusedVariables false
set_option linter.unusedSimpArgs false
set_option maxRecDepth 100000
namespace Go.Proofs.YtcppjmlhilklcaaGreatDoor
open Go Go.Am Go.Proofs
def ext11 : Ext := [(28, S28), (27, S27), (29, S29)]
theorem call11_28 : Callable Tryz.prog 28 := ⟨Tryz.f28, Tryz.func28, by kernel_rfl, by kernel_rfl⟩
theorem call11_27 : Callable Tryz.prog 27 := ⟨Tryz.f27, Tryz.func27, by kernel_rfl, by kernel_rfl⟩
theorem call11_29 : Callable Tryz.prog 29 := ⟨Tryz.f29, Tryz.func29, by kernel_rfl, by kernel_rfl⟩
theorem ext11Ok : ExtOk Tryz.prog ext11 := ⟨⟨call11_28, con28⟩, ⟨call11_27, con27⟩, ⟨call11_29, con29⟩, trivial⟩
/-! Function 11. -/
noncomputable def b11 : Code := bodyOf Tryz.f11
theorem hb11 : Tryz.f11.body = some b11 := by kernel_rfl
def sig11 : List AT := [AT.v (Ty.str)]
def tys11 : List Ty := [Ty.cons Ty.str (Ty.cons Ty.str (Ty.cons Ty.str Ty.unit)), Ty.int IntKind.i64]
def E11_7 (v5 : Int) (x0 : ByteArray) : Env := [(2, PV.a (Atom.optr 0 0 [])), (4, PV.a (Atom.val (Value.string (ByteArray.extract x0 6 (Int.toNat (↑(ByteArray.size x0) : Int)))))), (5, PV.a (Atom.val (Value.int IntKind.i64 v5)))]
def L11_7 (v5 : Int) (x0 : ByteArray) : Heap := [Option.some (Arr.mk (Ty.cons Ty.str (Ty.cons Ty.str (Ty.cons Ty.str Ty.unit))) [(ByteArray.empty, ByteArray.empty, ByteArray.empty, ())] Bool.true)]
def E11_10 (v6 : Int) (x0 : ByteArray) (v5 : Int) : Env := [(2, PV.a (Atom.optr 0 0 [])), (4, PV.a (Atom.val (Value.string (ByteArray.extract x0 6 (Int.toNat (↑(ByteArray.size x0) : Int)))))), (5, PV.a (Atom.val (Value.int IntKind.i64 v5))), (6, PV.a (Atom.val (Value.int IntKind.i64 v6)))]
def L11_10 (v6 : Int) (x0 : ByteArray) (v5 : Int) : Heap := [Option.some (Arr.mk (Ty.cons Ty.str (Ty.cons Ty.str (Ty.cons Ty.str Ty.unit))) [(ByteArray.empty, ByteArray.empty, ByteArray.empty, ())] Bool.true)]
mutual
def R11 : Nat → ByteArray → List Dyn → Prop
  | 0, _, _ => False
  | n + 1, x0, ds => (if (Decidable.decide ((↑(ByteArray.size x0) : Int) < 6)) = true then (ds = [Dyn.mk (Ty.cons Ty.str (Ty.cons Ty.str (Ty.cons Ty.str Ty.unit))) (ByteArray.empty, ByteArray.empty, ByteArray.empty, ()), Dyn.mk (Ty.int IntKind.i64) 9]) else ((5 < (↑(ByteArray.size x0) : Int)) ∧ (if ((↑(UInt8.toNat (List.getD (Array.toList (ByteArray.data x0)) 5 0)) : Int) != 32) = true then (ds = [Dyn.mk (Ty.cons Ty.str (Ty.cons Ty.str (Ty.cons Ty.str Ty.unit))) (ByteArray.empty, ByteArray.empty, ByteArray.empty, ()), Dyn.mk (Ty.int IntKind.i64) 9]) else ((6 ≤ (↑(ByteArray.size x0) : Int)) ∧ ((5 ≤ (↑(ByteArray.size x0) : Int)) ∧ (if (!ByteArray.toList (ByteArray.extract x0 0 5) == ByteArray.toList (g27_0 (g28_0 (ByteArray.extract x0 6 (Int.toNat (↑(ByteArray.size x0) : Int))) 65535))) = true then (ds = [Dyn.mk (Ty.cons Ty.str (Ty.cons Ty.str (Ty.cons Ty.str Ty.unit))) (ByteArray.empty, ByteArray.empty, ByteArray.empty, ()), Dyn.mk (Ty.int IntKind.i64) 10]) else (R11_7 n (0) (x0) ds)))))))
def R11_7 : Nat → Int → ByteArray → List Dyn → Prop
  | 0, _, _, _ => False
  | n + 1, v5, x0, ds => (if (Decidable.decide (v5 < (↑(ByteArray.size (ByteArray.extract x0 6 (Int.toNat (↑(ByteArray.size x0) : Int)))) : Int))) = true then ((0 ≤ v5) ∧ (v5 < (↑(ByteArray.size (ByteArray.extract x0 6 (Int.toNat (↑(ByteArray.size x0) : Int)))) : Int)) ∧ (if ((↑(UInt8.toNat (List.getD (Array.toList (ByteArray.data (ByteArray.extract x0 6 (Int.toNat (↑(ByteArray.size x0) : Int))))) (Int.toNat v5) 0)) : Int) != 32) = true then ((InR IntKind.i64 (v5 + 1)) ∧ (R11_7 n (v5 + 1) (x0) ds)) else ((InR IntKind.i64 (v5 + 1)) ∧ (R11_10 n (v5 + 1) (x0) (v5) ds)))) else ((InR IntKind.i64 (v5 + 1)) ∧ (R11_10 n (v5 + 1) (x0) (v5) ds)))
def R11_10 : Nat → Int → ByteArray → Int → List Dyn → Prop
  | 0, _, _, _, _ => False
  | n + 1, v6, x0, v5, ds => (if (Decidable.decide (v6 < (↑(ByteArray.size (ByteArray.extract x0 6 (Int.toNat (↑(ByteArray.size x0) : Int)))) : Int))) = true then ((0 ≤ v6) ∧ (v6 < (↑(ByteArray.size (ByteArray.extract x0 6 (Int.toNat (↑(ByteArray.size x0) : Int)))) : Int)) ∧ (if ((↑(UInt8.toNat (List.getD (Array.toList (ByteArray.data (ByteArray.extract x0 6 (Int.toNat (↑(ByteArray.size x0) : Int))))) (Int.toNat v6) 0)) : Int) != 32) = true then ((InR IntKind.i64 (v6 + 1)) ∧ (R11_10 n (v6 + 1) (x0) (v5) ds)) else (if (Decidable.decide (v6 ≥ (↑(ByteArray.size (ByteArray.extract x0 6 (Int.toNat (↑(ByteArray.size x0) : Int)))) : Int))) = true then (ds = [Dyn.mk (Ty.cons Ty.str (Ty.cons Ty.str (Ty.cons Ty.str Ty.unit))) (ByteArray.empty, ByteArray.empty, ByteArray.empty, ()), Dyn.mk (Ty.int IntKind.i64) 9]) else ((0 ≤ v5) ∧ (v5 ≤ (↑(ByteArray.size (ByteArray.extract x0 6 (Int.toNat (↑(ByteArray.size x0) : Int)))) : Int)) ∧ ((InR IntKind.i64 (v5 + 1)) ∧ ((0 ≤ v5 + 1) ∧ (v5 + 1 ≤ v6) ∧ (v6 ≤ (↑(ByteArray.size (ByteArray.extract x0 6 (Int.toNat (↑(ByteArray.size x0) : Int)))) : Int)) ∧ ((InR IntKind.i64 (v6 + 1)) ∧ ((0 ≤ v6 + 1) ∧ (v6 + 1 ≤ (↑(ByteArray.size (ByteArray.extract x0 6 (Int.toNat (↑(ByteArray.size x0) : Int)))) : Int)) ∧ (if (!g29_0 (ByteArray.extract (ByteArray.extract x0 6 (Int.toNat (↑(ByteArray.size x0) : Int))) 0 (Int.toNat v5), ByteArray.extract (ByteArray.extract x0 6 (Int.toNat (↑(ByteArray.size x0) : Int))) (Int.toNat (v5 + 1)) (Int.toNat v6), ByteArray.extract (ByteArray.extract x0 6 (Int.toNat (↑(ByteArray.size x0) : Int))) (Int.toNat (v6 + 1)) (Int.toNat (↑(ByteArray.size (ByteArray.extract x0 6 (Int.toNat (↑(ByteArray.size x0) : Int)))) : Int)), ())) = true then (ds = [Dyn.mk (Ty.cons Ty.str (Ty.cons Ty.str (Ty.cons Ty.str Ty.unit))) (ByteArray.empty, ByteArray.empty, ByteArray.empty, ()), Dyn.mk (Ty.int IntKind.i64) 9]) else (ds = [Dyn.mk (Ty.cons Ty.str (Ty.cons Ty.str (Ty.cons Ty.str Ty.unit))) (ByteArray.extract (ByteArray.extract x0 6 (Int.toNat (↑(ByteArray.size x0) : Int))) 0 (Int.toNat v5), ByteArray.extract (ByteArray.extract x0 6 (Int.toNat (↑(ByteArray.size x0) : Int))) (Int.toNat (v5 + 1)) (Int.toNat v6), ByteArray.extract (ByteArray.extract x0 6 (Int.toNat (↑(ByteArray.size x0) : Int))) (Int.toNat (v6 + 1)) (Int.toNat (↑(ByteArray.size (ByteArray.extract x0 6 (Int.toNat (↑(ByteArray.size x0) : Int)))) : Int)), ()), Dyn.mk (Ty.int IntKind.i64) 0])))))))))) else (if (Decidable.decide (v6 ≥ (↑(ByteArray.size (ByteArray.extract x0 6 (Int.toNat (↑(ByteArray.size x0) : Int)))) : Int))) = true then (ds = [Dyn.mk (Ty.cons Ty.str (Ty.cons Ty.str (Ty.cons Ty.str Ty.unit))) (ByteArray.empty, ByteArray.empty, ByteArray.empty, ()), Dyn.mk (Ty.int IntKind.i64) 9]) else ((0 ≤ v5) ∧ (v5 ≤ (↑(ByteArray.size (ByteArray.extract x0 6 (Int.toNat (↑(ByteArray.size x0) : Int)))) : Int)) ∧ ((InR IntKind.i64 (v5 + 1)) ∧ ((0 ≤ v5 + 1) ∧ (v5 + 1 ≤ v6) ∧ (v6 ≤ (↑(ByteArray.size (ByteArray.extract x0 6 (Int.toNat (↑(ByteArray.size x0) : Int)))) : Int)) ∧ ((InR IntKind.i64 (v6 + 1)) ∧ ((0 ≤ v6 + 1) ∧ (v6 + 1 ≤ (↑(ByteArray.size (ByteArray.extract x0 6 (Int.toNat (↑(ByteArray.size x0) : Int)))) : Int)) ∧ (if (!g29_0 (ByteArray.extract (ByteArray.extract x0 6 (Int.toNat (↑(ByteArray.size x0) : Int))) 0 (Int.toNat v5), ByteArray.extract (ByteArray.extract x0 6 (Int.toNat (↑(ByteArray.size x0) : Int))) (Int.toNat (v5 + 1)) (Int.toNat v6), ByteArray.extract (ByteArray.extract x0 6 (Int.toNat (↑(ByteArray.size x0) : Int))) (Int.toNat (v6 + 1)) (Int.toNat (↑(ByteArray.size (ByteArray.extract x0 6 (Int.toNat (↑(ByteArray.size x0) : Int)))) : Int)), ())) = true then (ds = [Dyn.mk (Ty.cons Ty.str (Ty.cons Ty.str (Ty.cons Ty.str Ty.unit))) (ByteArray.empty, ByteArray.empty, ByteArray.empty, ()), Dyn.mk (Ty.int IntKind.i64) 9]) else (ds = [Dyn.mk (Ty.cons Ty.str (Ty.cons Ty.str (Ty.cons Ty.str Ty.unit))) (ByteArray.extract (ByteArray.extract x0 6 (Int.toNat (↑(ByteArray.size x0) : Int))) 0 (Int.toNat v5), ByteArray.extract (ByteArray.extract x0 6 (Int.toNat (↑(ByteArray.size x0) : Int))) (Int.toNat (v5 + 1)) (Int.toNat v6), ByteArray.extract (ByteArray.extract x0 6 (Int.toNat (↑(ByteArray.size x0) : Int))) (Int.toNat (v6 + 1)) (Int.toNat (↑(ByteArray.size (ByteArray.extract x0 6 (Int.toNat (↑(ByteArray.size x0) : Int)))) : Int)), ()), Dyn.mk (Ty.int IntKind.i64) 0])))))))))
end
theorem p11_0 (x0 : ByteArray) : runF tab ext11 false 74 [] 2000 [] tys11 Tryz.f11.results [true, true] [.code b11] (entE 0 0 sig11 (x0, ())) (entL sig11 (x0, ())) = some ([Dyn.mk (Ty.cons Ty.str (Ty.cons Ty.str (Ty.cons Ty.str Ty.unit))) (ByteArray.empty, ByteArray.empty, ByteArray.empty, ()), Dyn.mk (Ty.int IntKind.i64) 9], [], [Decidable.decide ((↑(ByteArray.size x0) : Int) < 6) = Bool.true, Bool.true = Bool.true]) := by kernel_rfl
theorem p11_1 (x0 : ByteArray) : runF tab ext11 false 74 [] 2000 [] tys11 Tryz.f11.results [false, true] [.code b11] (entE 0 0 sig11 (x0, ())) (entL sig11 (x0, ())) = some ([Dyn.mk (Ty.cons Ty.str (Ty.cons Ty.str (Ty.cons Ty.str Ty.unit))) (ByteArray.empty, ByteArray.empty, ByteArray.empty, ()), Dyn.mk (Ty.int IntKind.i64) 9], [], [Decidable.decide ((↑(ByteArray.size x0) : Int) < 6) = Bool.false, (0 : Int) ≤ (5 : Int), 5 < (↑(ByteArray.size x0) : Int), ((↑(UInt8.toNat (List.getD (Array.toList (ByteArray.data x0)) 5 0)) : Int) != 32) = Bool.true]) := by kernel_rfl
theorem p11_2 (x0 : ByteArray) : runF tab ext11 false 74 [] 2000 [] tys11 Tryz.f11.results [false, false, true] [.code b11] (entE 0 0 sig11 (x0, ())) (entL sig11 (x0, ())) = some ([Dyn.mk (Ty.cons Ty.str (Ty.cons Ty.str (Ty.cons Ty.str Ty.unit))) (ByteArray.empty, ByteArray.empty, ByteArray.empty, ()), Dyn.mk (Ty.int IntKind.i64) 10], [], [Decidable.decide ((↑(ByteArray.size x0) : Int) < 6) = Bool.false, (0 : Int) ≤ (5 : Int), 5 < (↑(ByteArray.size x0) : Int), ((↑(UInt8.toNat (List.getD (Array.toList (ByteArray.data x0)) 5 0)) : Int) != 32) = Bool.false, (0 : Int) ≤ (6 : Int), 6 ≤ (↑(ByteArray.size x0) : Int), (0 : Int) ≤ (5 : Int), 5 ≤ (↑(ByteArray.size x0) : Int), True, True, (!ByteArray.toList (ByteArray.extract x0 0 5) == ByteArray.toList (g27_0 (g28_0 (ByteArray.extract x0 6 (Int.toNat (↑(ByteArray.size x0) : Int))) 65535))) = Bool.true]) := by kernel_rfl
theorem p11_3 (x0 : ByteArray) : Am.runN tab ext11 false 74 [] 2000 [] [] [2, 4, 5] [0] [false, false, false] [.code b11] (entE 0 0 sig11 (x0, ())) (entL sig11 (x0, ())) = some (cutAt b11 7, E11_7 (0) (x0), L11_7 (0) (x0), [Decidable.decide ((↑(ByteArray.size x0) : Int) < 6) = Bool.false, (0 : Int) ≤ (5 : Int), 5 < (↑(ByteArray.size x0) : Int), ((↑(UInt8.toNat (List.getD (Array.toList (ByteArray.data x0)) 5 0)) : Int) != 32) = Bool.false, (0 : Int) ≤ (6 : Int), 6 ≤ (↑(ByteArray.size x0) : Int), (0 : Int) ≤ (5 : Int), 5 ≤ (↑(ByteArray.size x0) : Int), True, True, (!ByteArray.toList (ByteArray.extract x0 0 5) == ByteArray.toList (g27_0 (g28_0 (ByteArray.extract x0 6 (Int.toNat (↑(ByteArray.size x0) : Int))) 65535))) = Bool.false]) := by kernel_rfl
theorem p11_4 (v5 : Int) (x0 : ByteArray) : Am.runN tab ext11 false 74 [] 2000 [] [] [2, 4, 5] [0] [true, true] (cutAt b11 7) (E11_7 v5 x0) (L11_7 v5 x0) = some (cutAt b11 7, E11_7 (v5 + 1) (x0), L11_7 (v5 + 1) (x0), [Decidable.decide (v5 < (↑(ByteArray.size (ByteArray.extract x0 6 (Int.toNat (↑(ByteArray.size x0) : Int)))) : Int)) = Bool.true, 0 ≤ v5, v5 < (↑(ByteArray.size (ByteArray.extract x0 6 (Int.toNat (↑(ByteArray.size x0) : Int)))) : Int), ((↑(UInt8.toNat (List.getD (Array.toList (ByteArray.data (ByteArray.extract x0 6 (Int.toNat (↑(ByteArray.size x0) : Int))))) (Int.toNat v5) 0)) : Int) != 32) = Bool.true, InR IntKind.i64 (v5 + 1)]) := by kernel_rfl
theorem p11_5 (v5 : Int) (x0 : ByteArray) : Am.runN tab ext11 false 74 [] 2000 [] [] [2, 4, 5, 6] [0] [true, false] (cutAt b11 7) (E11_7 v5 x0) (L11_7 v5 x0) = some (cutAt b11 10, E11_10 (v5 + 1) (x0) (v5), L11_10 (v5 + 1) (x0) (v5), [Decidable.decide (v5 < (↑(ByteArray.size (ByteArray.extract x0 6 (Int.toNat (↑(ByteArray.size x0) : Int)))) : Int)) = Bool.true, 0 ≤ v5, v5 < (↑(ByteArray.size (ByteArray.extract x0 6 (Int.toNat (↑(ByteArray.size x0) : Int)))) : Int), ((↑(UInt8.toNat (List.getD (Array.toList (ByteArray.data (ByteArray.extract x0 6 (Int.toNat (↑(ByteArray.size x0) : Int))))) (Int.toNat v5) 0)) : Int) != 32) = Bool.false, InR IntKind.i64 (v5 + 1)]) := by kernel_rfl
theorem p11_6 (v5 : Int) (x0 : ByteArray) : Am.runN tab ext11 false 74 [] 2000 [] [] [2, 4, 5, 6] [0] [false, false] (cutAt b11 7) (E11_7 v5 x0) (L11_7 v5 x0) = some (cutAt b11 10, E11_10 (v5 + 1) (x0) (v5), L11_10 (v5 + 1) (x0) (v5), [Decidable.decide (v5 < (↑(ByteArray.size (ByteArray.extract x0 6 (Int.toNat (↑(ByteArray.size x0) : Int)))) : Int)) = Bool.false, Bool.false = Bool.false, InR IntKind.i64 (v5 + 1)]) := by kernel_rfl
theorem p11_7 (v6 : Int) (x0 : ByteArray) (v5 : Int) : Am.runN tab ext11 false 74 [] 2000 [] [] [2, 4, 5, 6] [0] [true, true] (cutAt b11 10) (E11_10 v6 x0 v5) (L11_10 v6 x0 v5) = some (cutAt b11 10, E11_10 (v6 + 1) (x0) (v5), L11_10 (v6 + 1) (x0) (v5), [Decidable.decide (v6 < (↑(ByteArray.size (ByteArray.extract x0 6 (Int.toNat (↑(ByteArray.size x0) : Int)))) : Int)) = Bool.true, 0 ≤ v6, v6 < (↑(ByteArray.size (ByteArray.extract x0 6 (Int.toNat (↑(ByteArray.size x0) : Int)))) : Int), ((↑(UInt8.toNat (List.getD (Array.toList (ByteArray.data (ByteArray.extract x0 6 (Int.toNat (↑(ByteArray.size x0) : Int))))) (Int.toNat v6) 0)) : Int) != 32) = Bool.true, InR IntKind.i64 (v6 + 1)]) := by kernel_rfl
theorem p11_8 (v6 : Int) (x0 : ByteArray) (v5 : Int) : runF tab ext11 false 74 [] 2000 [] tys11 Tryz.f11.results [true, false, true] (cutAt b11 10) (E11_10 v6 x0 v5) (L11_10 v6 x0 v5) = some ([Dyn.mk (Ty.cons Ty.str (Ty.cons Ty.str (Ty.cons Ty.str Ty.unit))) (ByteArray.empty, ByteArray.empty, ByteArray.empty, ()), Dyn.mk (Ty.int IntKind.i64) 9], [], [Decidable.decide (v6 < (↑(ByteArray.size (ByteArray.extract x0 6 (Int.toNat (↑(ByteArray.size x0) : Int)))) : Int)) = Bool.true, 0 ≤ v6, v6 < (↑(ByteArray.size (ByteArray.extract x0 6 (Int.toNat (↑(ByteArray.size x0) : Int)))) : Int), ((↑(UInt8.toNat (List.getD (Array.toList (ByteArray.data (ByteArray.extract x0 6 (Int.toNat (↑(ByteArray.size x0) : Int))))) (Int.toNat v6) 0)) : Int) != 32) = Bool.false, Decidable.decide (v6 ≥ (↑(ByteArray.size (ByteArray.extract x0 6 (Int.toNat (↑(ByteArray.size x0) : Int)))) : Int)) = Bool.true]) := by kernel_rfl
theorem p11_9 (v6 : Int) (x0 : ByteArray) (v5 : Int) : runF tab ext11 false 74 [] 2000 [] tys11 Tryz.f11.results [true, false, false, true] (cutAt b11 10) (E11_10 v6 x0 v5) (L11_10 v6 x0 v5) = some ([Dyn.mk (Ty.cons Ty.str (Ty.cons Ty.str (Ty.cons Ty.str Ty.unit))) (ByteArray.empty, ByteArray.empty, ByteArray.empty, ()), Dyn.mk (Ty.int IntKind.i64) 9], [], [Decidable.decide (v6 < (↑(ByteArray.size (ByteArray.extract x0 6 (Int.toNat (↑(ByteArray.size x0) : Int)))) : Int)) = Bool.true, 0 ≤ v6, v6 < (↑(ByteArray.size (ByteArray.extract x0 6 (Int.toNat (↑(ByteArray.size x0) : Int)))) : Int), ((↑(UInt8.toNat (List.getD (Array.toList (ByteArray.data (ByteArray.extract x0 6 (Int.toNat (↑(ByteArray.size x0) : Int))))) (Int.toNat v6) 0)) : Int) != 32) = Bool.false, Decidable.decide (v6 ≥ (↑(ByteArray.size (ByteArray.extract x0 6 (Int.toNat (↑(ByteArray.size x0) : Int)))) : Int)) = Bool.false, 0 ≤ v5, v5 ≤ (↑(ByteArray.size (ByteArray.extract x0 6 (Int.toNat (↑(ByteArray.size x0) : Int)))) : Int), InR IntKind.i64 (v5 + 1), 0 ≤ v5 + 1, v5 + 1 ≤ v6, v6 ≤ (↑(ByteArray.size (ByteArray.extract x0 6 (Int.toNat (↑(ByteArray.size x0) : Int)))) : Int), InR IntKind.i64 (v6 + 1), 0 ≤ v6 + 1, v6 + 1 ≤ (↑(ByteArray.size (ByteArray.extract x0 6 (Int.toNat (↑(ByteArray.size x0) : Int)))) : Int), True, (!g29_0 (ByteArray.extract (ByteArray.extract x0 6 (Int.toNat (↑(ByteArray.size x0) : Int))) 0 (Int.toNat v5), ByteArray.extract (ByteArray.extract x0 6 (Int.toNat (↑(ByteArray.size x0) : Int))) (Int.toNat (v5 + 1)) (Int.toNat v6), ByteArray.extract (ByteArray.extract x0 6 (Int.toNat (↑(ByteArray.size x0) : Int))) (Int.toNat (v6 + 1)) (Int.toNat (↑(ByteArray.size (ByteArray.extract x0 6 (Int.toNat (↑(ByteArray.size x0) : Int)))) : Int)), ())) = Bool.true]) := by kernel_rfl
theorem p11_10 (v6 : Int) (x0 : ByteArray) (v5 : Int) : runF tab ext11 false 74 [] 2000 [] tys11 Tryz.f11.results [true, false, false, false] (cutAt b11 10) (E11_10 v6 x0 v5) (L11_10 v6 x0 v5) = some ([Dyn.mk (Ty.cons Ty.str (Ty.cons Ty.str (Ty.cons Ty.str Ty.unit))) (ByteArray.extract (ByteArray.extract x0 6 (Int.toNat (↑(ByteArray.size x0) : Int))) 0 (Int.toNat v5), ByteArray.extract (ByteArray.extract x0 6 (Int.toNat (↑(ByteArray.size x0) : Int))) (Int.toNat (v5 + 1)) (Int.toNat v6), ByteArray.extract (ByteArray.extract x0 6 (Int.toNat (↑(ByteArray.size x0) : Int))) (Int.toNat (v6 + 1)) (Int.toNat (↑(ByteArray.size (ByteArray.extract x0 6 (Int.toNat (↑(ByteArray.size x0) : Int)))) : Int)), ()), Dyn.mk (Ty.int IntKind.i64) 0], [], [Decidable.decide (v6 < (↑(ByteArray.size (ByteArray.extract x0 6 (Int.toNat (↑(ByteArray.size x0) : Int)))) : Int)) = Bool.true, 0 ≤ v6, v6 < (↑(ByteArray.size (ByteArray.extract x0 6 (Int.toNat (↑(ByteArray.size x0) : Int)))) : Int), ((↑(UInt8.toNat (List.getD (Array.toList (ByteArray.data (ByteArray.extract x0 6 (Int.toNat (↑(ByteArray.size x0) : Int))))) (Int.toNat v6) 0)) : Int) != 32) = Bool.false, Decidable.decide (v6 ≥ (↑(ByteArray.size (ByteArray.extract x0 6 (Int.toNat (↑(ByteArray.size x0) : Int)))) : Int)) = Bool.false, 0 ≤ v5, v5 ≤ (↑(ByteArray.size (ByteArray.extract x0 6 (Int.toNat (↑(ByteArray.size x0) : Int)))) : Int), InR IntKind.i64 (v5 + 1), 0 ≤ v5 + 1, v5 + 1 ≤ v6, v6 ≤ (↑(ByteArray.size (ByteArray.extract x0 6 (Int.toNat (↑(ByteArray.size x0) : Int)))) : Int), InR IntKind.i64 (v6 + 1), 0 ≤ v6 + 1, v6 + 1 ≤ (↑(ByteArray.size (ByteArray.extract x0 6 (Int.toNat (↑(ByteArray.size x0) : Int)))) : Int), True, (!g29_0 (ByteArray.extract (ByteArray.extract x0 6 (Int.toNat (↑(ByteArray.size x0) : Int))) 0 (Int.toNat v5), ByteArray.extract (ByteArray.extract x0 6 (Int.toNat (↑(ByteArray.size x0) : Int))) (Int.toNat (v5 + 1)) (Int.toNat v6), ByteArray.extract (ByteArray.extract x0 6 (Int.toNat (↑(ByteArray.size x0) : Int))) (Int.toNat (v6 + 1)) (Int.toNat (↑(ByteArray.size (ByteArray.extract x0 6 (Int.toNat (↑(ByteArray.size x0) : Int)))) : Int)), ())) = Bool.false]) := by kernel_rfl
theorem p11_11 (v6 : Int) (x0 : ByteArray) (v5 : Int) : runF tab ext11 false 74 [] 2000 [] tys11 Tryz.f11.results [false, false, true] (cutAt b11 10) (E11_10 v6 x0 v5) (L11_10 v6 x0 v5) = some ([Dyn.mk (Ty.cons Ty.str (Ty.cons Ty.str (Ty.cons Ty.str Ty.unit))) (ByteArray.empty, ByteArray.empty, ByteArray.empty, ()), Dyn.mk (Ty.int IntKind.i64) 9], [], [Decidable.decide (v6 < (↑(ByteArray.size (ByteArray.extract x0 6 (Int.toNat (↑(ByteArray.size x0) : Int)))) : Int)) = Bool.false, Bool.false = Bool.false, Decidable.decide (v6 ≥ (↑(ByteArray.size (ByteArray.extract x0 6 (Int.toNat (↑(ByteArray.size x0) : Int)))) : Int)) = Bool.true]) := by kernel_rfl
theorem p11_12 (v6 : Int) (x0 : ByteArray) (v5 : Int) : runF tab ext11 false 74 [] 2000 [] tys11 Tryz.f11.results [false, false, false, true] (cutAt b11 10) (E11_10 v6 x0 v5) (L11_10 v6 x0 v5) = some ([Dyn.mk (Ty.cons Ty.str (Ty.cons Ty.str (Ty.cons Ty.str Ty.unit))) (ByteArray.empty, ByteArray.empty, ByteArray.empty, ()), Dyn.mk (Ty.int IntKind.i64) 9], [], [Decidable.decide (v6 < (↑(ByteArray.size (ByteArray.extract x0 6 (Int.toNat (↑(ByteArray.size x0) : Int)))) : Int)) = Bool.false, Bool.false = Bool.false, Decidable.decide (v6 ≥ (↑(ByteArray.size (ByteArray.extract x0 6 (Int.toNat (↑(ByteArray.size x0) : Int)))) : Int)) = Bool.false, 0 ≤ v5, v5 ≤ (↑(ByteArray.size (ByteArray.extract x0 6 (Int.toNat (↑(ByteArray.size x0) : Int)))) : Int), InR IntKind.i64 (v5 + 1), 0 ≤ v5 + 1, v5 + 1 ≤ v6, v6 ≤ (↑(ByteArray.size (ByteArray.extract x0 6 (Int.toNat (↑(ByteArray.size x0) : Int)))) : Int), InR IntKind.i64 (v6 + 1), 0 ≤ v6 + 1, v6 + 1 ≤ (↑(ByteArray.size (ByteArray.extract x0 6 (Int.toNat (↑(ByteArray.size x0) : Int)))) : Int), True, (!g29_0 (ByteArray.extract (ByteArray.extract x0 6 (Int.toNat (↑(ByteArray.size x0) : Int))) 0 (Int.toNat v5), ByteArray.extract (ByteArray.extract x0 6 (Int.toNat (↑(ByteArray.size x0) : Int))) (Int.toNat (v5 + 1)) (Int.toNat v6), ByteArray.extract (ByteArray.extract x0 6 (Int.toNat (↑(ByteArray.size x0) : Int))) (Int.toNat (v6 + 1)) (Int.toNat (↑(ByteArray.size (ByteArray.extract x0 6 (Int.toNat (↑(ByteArray.size x0) : Int)))) : Int)), ())) = Bool.true]) := by kernel_rfl
theorem p11_13 (v6 : Int) (x0 : ByteArray) (v5 : Int) : runF tab ext11 false 74 [] 2000 [] tys11 Tryz.f11.results [false, false, false, false] (cutAt b11 10) (E11_10 v6 x0 v5) (L11_10 v6 x0 v5) = some ([Dyn.mk (Ty.cons Ty.str (Ty.cons Ty.str (Ty.cons Ty.str Ty.unit))) (ByteArray.extract (ByteArray.extract x0 6 (Int.toNat (↑(ByteArray.size x0) : Int))) 0 (Int.toNat v5), ByteArray.extract (ByteArray.extract x0 6 (Int.toNat (↑(ByteArray.size x0) : Int))) (Int.toNat (v5 + 1)) (Int.toNat v6), ByteArray.extract (ByteArray.extract x0 6 (Int.toNat (↑(ByteArray.size x0) : Int))) (Int.toNat (v6 + 1)) (Int.toNat (↑(ByteArray.size (ByteArray.extract x0 6 (Int.toNat (↑(ByteArray.size x0) : Int)))) : Int)), ()), Dyn.mk (Ty.int IntKind.i64) 0], [], [Decidable.decide (v6 < (↑(ByteArray.size (ByteArray.extract x0 6 (Int.toNat (↑(ByteArray.size x0) : Int)))) : Int)) = Bool.false, Bool.false = Bool.false, Decidable.decide (v6 ≥ (↑(ByteArray.size (ByteArray.extract x0 6 (Int.toNat (↑(ByteArray.size x0) : Int)))) : Int)) = Bool.false, 0 ≤ v5, v5 ≤ (↑(ByteArray.size (ByteArray.extract x0 6 (Int.toNat (↑(ByteArray.size x0) : Int)))) : Int), InR IntKind.i64 (v5 + 1), 0 ≤ v5 + 1, v5 + 1 ≤ v6, v6 ≤ (↑(ByteArray.size (ByteArray.extract x0 6 (Int.toNat (↑(ByteArray.size x0) : Int)))) : Int), InR IntKind.i64 (v6 + 1), 0 ≤ v6 + 1, v6 + 1 ≤ (↑(ByteArray.size (ByteArray.extract x0 6 (Int.toNat (↑(ByteArray.size x0) : Int)))) : Int), True, (!g29_0 (ByteArray.extract (ByteArray.extract x0 6 (Int.toNat (↑(ByteArray.size x0) : Int))) 0 (Int.toNat v5), ByteArray.extract (ByteArray.extract x0 6 (Int.toNat (↑(ByteArray.size x0) : Int))) (Int.toNat (v5 + 1)) (Int.toNat v6), ByteArray.extract (ByteArray.extract x0 6 (Int.toNat (↑(ByteArray.size x0) : Int))) (Int.toNat (v6 + 1)) (Int.toNat (↑(ByteArray.size (ByteArray.extract x0 6 (Int.toNat (↑(ByteArray.size x0) : Int)))) : Int)), ())) = Bool.false]) := by kernel_rfl
theorem snd11 : ∀ n, (∀ (x0 : ByteArray) ds, R11 n x0 ds → ∀ w0 O q, AtV Tryz.prog 11 (PostR ds [] [] q w0 O) 74 w0 O q [] [.code b11] (entE 0 0 sig11 (x0, ())) (entL sig11 (x0, ()))) ∧ (∀ (v5 : Int) (x0 : ByteArray) ds, R11_7 n v5 x0 ds → ∀ w0 O q, AtV Tryz.prog 11 (PostR ds [] [] q w0 O) 74 w0 O q [] (cutAt b11 7) (E11_7 v5 x0) (L11_7 v5 x0)) ∧ (∀ (v6 : Int) (x0 : ByteArray) (v5 : Int) ds, R11_10 n v6 x0 v5 ds → ∀ w0 O q, AtV Tryz.prog 11 (PostR ds [] [] q w0 O) 74 w0 O q [] (cutAt b11 10) (E11_10 v6 x0 v5) (L11_10 v6 x0 v5)) := by
  intro n
  induction n with
  | zero => exact ⟨fun _ _ h => by simp only [R11] at h, fun _ _ _ h => by simp only [R11_7] at h, fun _ _ _ _ h => by simp only [R11_10] at h⟩
  | succ n ih =>
  obtain ⟨ih, ih7, ih10⟩ := ih
  refine ⟨?_, ?_, ?_⟩
  · intro x0 ds h w0 O q
    rw [R11] at h
    by_cases b0 : (Decidable.decide ((↑(ByteArray.size x0) : Int) < 6)) = true
    · rw [if_pos b0] at h
      subst h
      exact AtV.fin Tryz.func11 tabOk ext11Ok mixed (p11_0 x0) ⟨b0, rfl, trivial⟩
    · rw [if_neg b0] at h
      replace b0 := Bool.eq_false_iff.2 b0
      obtain ⟨s0, h⟩ := h
      by_cases b1 : ((↑(UInt8.toNat (List.getD (Array.toList (ByteArray.data x0)) 5 0)) : Int) != 32) = true
      · rw [if_pos b1] at h
        subst h
        exact AtV.fin Tryz.func11 tabOk ext11Ok mixed (p11_1 x0) ⟨b0, (by decide), s0, b1, trivial⟩
      · rw [if_neg b1] at h
        replace b1 := Bool.eq_false_iff.2 b1
        obtain ⟨s1, h⟩ := h
        obtain ⟨s2, h⟩ := h
        by_cases b2 : (!ByteArray.toList (ByteArray.extract x0 0 5) == ByteArray.toList (g27_0 (g28_0 (ByteArray.extract x0 6 (Int.toNat (↑(ByteArray.size x0) : Int))) 65535))) = true
        · rw [if_pos b2] at h
          subst h
          exact AtV.fin Tryz.func11 tabOk ext11Ok mixed (p11_2 x0) ⟨b0, (by decide), s0, b1, (by decide), s1, (by decide), s2, trivial, trivial, b2, trivial⟩
        · rw [if_neg b2] at h
          replace b2 := Bool.eq_false_iff.2 b2
          exact AtV.runN tabOk ext11Ok mixed (p11_3 x0) ⟨b0, (by decide), s0, b1, (by decide), s1, (by decide), s2, trivial, trivial, b2, trivial⟩ (ih7 _ _ _ h w0 O q)

  · intro v5 x0 ds h w0 O q
    rw [R11_7] at h
    by_cases b0 : (Decidable.decide (v5 < (↑(ByteArray.size (ByteArray.extract x0 6 (Int.toNat (↑(ByteArray.size x0) : Int)))) : Int))) = true
    · rw [if_pos b0] at h
      obtain ⟨s0, s1, h⟩ := h
      by_cases b1 : ((↑(UInt8.toNat (List.getD (Array.toList (ByteArray.data (ByteArray.extract x0 6 (Int.toNat (↑(ByteArray.size x0) : Int))))) (Int.toNat v5) 0)) : Int) != 32) = true
      · rw [if_pos b1] at h
        obtain ⟨s2, h⟩ := h
        exact AtV.runN tabOk ext11Ok mixed (p11_4 v5 x0) ⟨b0, s0, s1, b1, s2, trivial⟩ (ih7 _ _ _ h w0 O q)
      · rw [if_neg b1] at h
        replace b1 := Bool.eq_false_iff.2 b1
        obtain ⟨s2, h⟩ := h
        exact AtV.runN tabOk ext11Ok mixed (p11_5 v5 x0) ⟨b0, s0, s1, b1, s2, trivial⟩ (ih10 _ _ _ _ h w0 O q)
    · rw [if_neg b0] at h
      replace b0 := Bool.eq_false_iff.2 b0
      obtain ⟨s0, h⟩ := h
      exact AtV.runN tabOk ext11Ok mixed (p11_6 v5 x0) ⟨b0, rfl, s0, trivial⟩ (ih10 _ _ _ _ h w0 O q)

  · intro v6 x0 v5 ds h w0 O q
    rw [R11_10] at h
    by_cases b0 : (Decidable.decide (v6 < (↑(ByteArray.size (ByteArray.extract x0 6 (Int.toNat (↑(ByteArray.size x0) : Int)))) : Int))) = true
    · rw [if_pos b0] at h
      obtain ⟨s0, s1, h⟩ := h
      by_cases b1 : ((↑(UInt8.toNat (List.getD (Array.toList (ByteArray.data (ByteArray.extract x0 6 (Int.toNat (↑(ByteArray.size x0) : Int))))) (Int.toNat v6) 0)) : Int) != 32) = true
      · rw [if_pos b1] at h
        obtain ⟨s2, h⟩ := h
        exact AtV.runN tabOk ext11Ok mixed (p11_7 v6 x0 v5) ⟨b0, s0, s1, b1, s2, trivial⟩ (ih10 _ _ _ _ h w0 O q)
      · rw [if_neg b1] at h
        replace b1 := Bool.eq_false_iff.2 b1
        by_cases b2 : (Decidable.decide (v6 ≥ (↑(ByteArray.size (ByteArray.extract x0 6 (Int.toNat (↑(ByteArray.size x0) : Int)))) : Int))) = true
        · rw [if_pos b2] at h
          subst h
          exact AtV.fin Tryz.func11 tabOk ext11Ok mixed (p11_8 v6 x0 v5) ⟨b0, s0, s1, b1, b2, trivial⟩
        · rw [if_neg b2] at h
          replace b2 := Bool.eq_false_iff.2 b2
          obtain ⟨s2, s3, h⟩ := h
          obtain ⟨s4, h⟩ := h
          obtain ⟨s5, s6, s7, h⟩ := h
          obtain ⟨s8, h⟩ := h
          obtain ⟨s9, s10, h⟩ := h
          by_cases b3 : (!g29_0 (ByteArray.extract (ByteArray.extract x0 6 (Int.toNat (↑(ByteArray.size x0) : Int))) 0 (Int.toNat v5), ByteArray.extract (ByteArray.extract x0 6 (Int.toNat (↑(ByteArray.size x0) : Int))) (Int.toNat (v5 + 1)) (Int.toNat v6), ByteArray.extract (ByteArray.extract x0 6 (Int.toNat (↑(ByteArray.size x0) : Int))) (Int.toNat (v6 + 1)) (Int.toNat (↑(ByteArray.size (ByteArray.extract x0 6 (Int.toNat (↑(ByteArray.size x0) : Int)))) : Int)), ())) = true
          · rw [if_pos b3] at h
            subst h
            exact AtV.fin Tryz.func11 tabOk ext11Ok mixed (p11_9 v6 x0 v5) ⟨b0, s0, s1, b1, b2, s2, s3, s4, s5, s6, s7, s8, s9, s10, trivial, b3, trivial⟩
          · rw [if_neg b3] at h
            replace b3 := Bool.eq_false_iff.2 b3
            subst h
            exact AtV.fin Tryz.func11 tabOk ext11Ok mixed (p11_10 v6 x0 v5) ⟨b0, s0, s1, b1, b2, s2, s3, s4, s5, s6, s7, s8, s9, s10, trivial, b3, trivial⟩
    · rw [if_neg b0] at h
      replace b0 := Bool.eq_false_iff.2 b0
      by_cases b1 : (Decidable.decide (v6 ≥ (↑(ByteArray.size (ByteArray.extract x0 6 (Int.toNat (↑(ByteArray.size x0) : Int)))) : Int))) = true
      · rw [if_pos b1] at h
        subst h
        exact AtV.fin Tryz.func11 tabOk ext11Ok mixed (p11_11 v6 x0 v5) ⟨b0, rfl, b1, trivial⟩
      · rw [if_neg b1] at h
        replace b1 := Bool.eq_false_iff.2 b1
        obtain ⟨s0, s1, h⟩ := h
        obtain ⟨s2, h⟩ := h
        obtain ⟨s3, s4, s5, h⟩ := h
        obtain ⟨s6, h⟩ := h
        obtain ⟨s7, s8, h⟩ := h
        by_cases b2 : (!g29_0 (ByteArray.extract (ByteArray.extract x0 6 (Int.toNat (↑(ByteArray.size x0) : Int))) 0 (Int.toNat v5), ByteArray.extract (ByteArray.extract x0 6 (Int.toNat (↑(ByteArray.size x0) : Int))) (Int.toNat (v5 + 1)) (Int.toNat v6), ByteArray.extract (ByteArray.extract x0 6 (Int.toNat (↑(ByteArray.size x0) : Int))) (Int.toNat (v6 + 1)) (Int.toNat (↑(ByteArray.size (ByteArray.extract x0 6 (Int.toNat (↑(ByteArray.size x0) : Int)))) : Int)), ())) = true
        · rw [if_pos b2] at h
          subst h
          exact AtV.fin Tryz.func11 tabOk ext11Ok mixed (p11_12 v6 x0 v5) ⟨b0, rfl, b1, s0, s1, s2, s3, s4, s5, s6, s7, s8, trivial, b2, trivial⟩
        · rw [if_neg b2] at h
          replace b2 := Bool.eq_false_iff.2 b2
          subst h
          exact AtV.fin Tryz.func11 tabOk ext11Ok mixed (p11_13 v6 x0 v5) ⟨b0, rfl, b1, s0, s1, s2, s3, s4, s5, s6, s7, s8, trivial, b2, trivial⟩



/-- How many bytes stand ahead of the next blank. -/
def nx11 : List UInt8 → Nat
  | [] => 0
  | b :: r => if b.toNat = 32 then 0 else nx11 r + 1
def rs11 (x0 : ByteArray) : ByteArray := ByteArray.extract x0 6 x0.size
def blk11 (r : ByteArray) (i k : Nat) : (ByteArray × ByteArray × ByteArray × Unit) := (ByteArray.extract r 0 i, ByteArray.extract r (i + 1) k, ByteArray.extract r (k + 1) r.size, ())
def ok11 (r : ByteArray) (i k : Nat) : Bool := decide (k < r.size) && g29_0 (blk11 r i k)
def fb11 (r : ByteArray) (i k : Nat) : (ByteArray × ByteArray × ByteArray × Unit) := if ok11 r i k = true then blk11 r i k else (ByteArray.empty, ByteArray.empty, ByteArray.empty, ())
def fc11 (r : ByteArray) (i k : Nat) : Int := if ok11 r i k = true then 0 else 9
def at11 (r : ByteArray) : Nat := nx11 r.data.toList
def to11 (r : ByteArray) : Nat := at11 r + 1 + nx11 (r.data.toList.drop (at11 r + 1))
def sum11 (x0 : ByteArray) : Bool := (!ByteArray.toList (ByteArray.extract x0 0 5) == ByteArray.toList (g27_0 (g28_0 (rs11 x0) 65535)))
def g11_0 (x0 : ByteArray) : (ByteArray × ByteArray × ByteArray × Unit) := if x0.size < 6 then (ByteArray.empty, ByteArray.empty, ByteArray.empty, ()) else if (x0.data.toList.getD 5 0).toNat ≠ 32 then (ByteArray.empty, ByteArray.empty, ByteArray.empty, ()) else if sum11 x0 = true then (ByteArray.empty, ByteArray.empty, ByteArray.empty, ()) else fb11 (rs11 x0) (at11 (rs11 x0)) (to11 (rs11 x0))
def g11_1 (x0 : ByteArray) : Int := if x0.size < 6 then 9 else if (x0.data.toList.getD 5 0).toNat ≠ 32 then 9 else if sum11 x0 = true then 10 else fc11 (rs11 x0) (at11 (rs11 x0)) (to11 (rs11 x0))
def P11 (x0 : ByteArray) : Prop := True

theorem end11 (r : ByteArray) (hr : r.size ≤ 9223372036854775801) (i k : Nat) (hi : i ≤ r.size) (hik : i + 1 ≤ k) (ds : List Dyn) (hd : ds = [⟨(.cons .str (.cons .str (.cons .str .unit))), fb11 r i k⟩, ⟨.int .i64, fc11 r i k⟩]) :
    (if (Decidable.decide ((k : Int) ≥ (r.size : Int))) = true then (ds = [Dyn.mk (.cons .str (.cons .str (.cons .str .unit))) (ByteArray.empty, ByteArray.empty, ByteArray.empty, ()), Dyn.mk (Ty.int IntKind.i64) 9]) else ((0 ≤ (i : Int)) ∧ ((i : Int) ≤ (r.size : Int)) ∧ ((InR IntKind.i64 ((i : Int) + 1)) ∧ ((0 ≤ (i : Int) + 1) ∧ ((i : Int) + 1 ≤ (k : Int)) ∧ ((k : Int) ≤ (r.size : Int)) ∧ ((InR IntKind.i64 ((k : Int) + 1)) ∧ ((0 ≤ (k : Int) + 1) ∧ ((k : Int) + 1 ≤ (r.size : Int)) ∧ (if (!g29_0 (ByteArray.extract r 0 i, ByteArray.extract r (Int.toNat ((i : Int) + 1)) k, ByteArray.extract r (Int.toNat ((k : Int) + 1)) r.size, ())) = true then (ds = [Dyn.mk (.cons .str (.cons .str (.cons .str .unit))) (ByteArray.empty, ByteArray.empty, ByteArray.empty, ()), Dyn.mk (Ty.int IntKind.i64) 9]) else (ds = [Dyn.mk (.cons .str (.cons .str (.cons .str .unit))) (ByteArray.extract r 0 i, ByteArray.extract r (Int.toNat ((i : Int) + 1)) k, ByteArray.extract r (Int.toNat ((k : Int) + 1)) r.size, ()), Dyn.mk (Ty.int IntKind.i64) 0])))))))) := by
  have e1 : Int.toNat ((i : Int) + 1) = i + 1 := by omega
  have e2 : Int.toNat ((k : Int) + 1) = k + 1 := by omega
  rw [e1, e2]
  unfold fb11 fc11 ok11 at hd
  by_cases hk : k < r.size
  · rw [if_neg (by simp; omega)]
    refine ⟨by omega, by omega, by rw [i64_iff]; omega, by omega, by omega, by omega, by rw [i64_iff]; omega, by omega, by omega, ?_⟩
    change if (!g29_0 (blk11 r i k)) = true then ds = [Dyn.mk (.cons .str (.cons .str (.cons .str .unit))) (ByteArray.empty, ByteArray.empty, ByteArray.empty, ()), Dyn.mk (Ty.int IntKind.i64) 9] else ds = [Dyn.mk (.cons .str (.cons .str (.cons .str .unit))) (blk11 r i k), Dyn.mk (Ty.int IntKind.i64) 0]
    rw [decide_eq_true hk, Bool.true_and] at hd
    cases hb : g29_0 (blk11 r i k) with
    | true => rw [hb] at hd; simpa using hd
    | false => rw [hb] at hd; simpa using hd
  · rw [if_pos (by simp; omega)]
    rw [decide_eq_false hk, Bool.false_and] at hd
    simpa using hd

theorem byte11 {b : UInt8} : (((b.toNat : Nat) : Int) != 32) = true ↔ b.toNat ≠ 32 := by
  rw [bne_iff_ne]
  constructor
  · intro h e; apply h; rw [e]; rfl
  · intro h e; apply h; omega

theorem runB11 (x0 : ByteArray) (hr : (rs11 x0).size ≤ 9223372036854775801) (i : Nat) (hi : i ≤ (rs11 x0).size) : ∀ (f k : Nat), i + 1 ≤ k → k ≤ (rs11 x0).size + 1 → (rs11 x0).size ≤ f + k →
    R11_10 (f + 1) (k : Int) x0 (i : Int) [⟨(.cons .str (.cons .str (.cons .str .unit))), fb11 (rs11 x0) i (k + nx11 ((rs11 x0).data.toList.drop k))⟩, ⟨.int .i64, fc11 (rs11 x0) i (k + nx11 ((rs11 x0).data.toList.drop k))⟩] := by
  have hll : (rs11 x0).data.toList.length = (rs11 x0).size := rfl
  have e0 : ByteArray.extract x0 6 x0.size = rs11 x0 := rfl
  intro f
  induction f with
  | zero =>
    intro k hk hk2 hf
    rw [R11_10]
    simp only [Int.toNat_natCast, e0]
    rw [if_neg (by simp; omega), List.drop_of_length_le (by omega)]
    exact end11 _ hr i k hi hk _ rfl
  | succ f ih =>
    intro k hk hk2 hf
    rw [R11_10]
    simp only [Int.toNat_natCast, e0]
    by_cases hlt : k < (rs11 x0).size
    · rw [if_pos (by simp; omega)]
      refine ⟨by omega, by omega, ?_⟩
      rw [drop_get (rs11 x0).data.toList k 0 (by omega)]
      by_cases hb : ((rs11 x0).data.toList.getD k 0).toNat = 32
      · rw [if_neg (by rw [byte11]; exact fun h => h hb)]
        unfold nx11
        rw [if_pos hb]
        exact end11 _ hr i k hi hk _ rfl
      · rw [if_pos (by rw [byte11]; exact hb)]
        unfold nx11
        rw [if_neg hb]
        have e1 : (k : Int) + 1 = ((k + 1 : Nat) : Int) := by omega
        have e2 : k + (nx11 (List.drop (k + 1) (rs11 x0).data.toList) + 1) = k + 1 + nx11 (List.drop (k + 1) (rs11 x0).data.toList) := by omega
        rw [e1, e2]
        exact ⟨by rw [i64_iff]; omega, ih (k + 1) (by omega) (by omega) (by omega)⟩
    · rw [if_neg (by simp; omega), List.drop_of_length_le (by omega)]
      exact end11 _ hr i k hi hk _ rfl

theorem runA11 (x0 : ByteArray) (hr : (rs11 x0).size ≤ 9223372036854775801) : ∀ (j i : Nat), i + j = (rs11 x0).size →
    R11_7 (j + 1 + ((rs11 x0).size + 1)) (i : Int) x0 [⟨(.cons .str (.cons .str (.cons .str .unit))), fb11 (rs11 x0) (i + nx11 ((rs11 x0).data.toList.drop i)) (i + nx11 ((rs11 x0).data.toList.drop i) + 1 + nx11 ((rs11 x0).data.toList.drop (i + nx11 ((rs11 x0).data.toList.drop i) + 1)))⟩, ⟨.int .i64, fc11 (rs11 x0) (i + nx11 ((rs11 x0).data.toList.drop i)) (i + nx11 ((rs11 x0).data.toList.drop i) + 1 + nx11 ((rs11 x0).data.toList.drop (i + nx11 ((rs11 x0).data.toList.drop i) + 1)))⟩] := by
  have hll : (rs11 x0).data.toList.length = (rs11 x0).size := rfl
  have e0 : ByteArray.extract x0 6 x0.size = rs11 x0 := rfl
  intro j
  induction j with
  | zero =>
    intro i hi
    rw [show 0 + 1 + ((rs11 x0).size + 1) = ((rs11 x0).size + 1) + 1 by omega, R11_7]
    simp only [Int.toNat_natCast, e0]
    rw [if_neg (by simp; omega), List.drop_of_length_le (show (rs11 x0).data.toList.length ≤ i by omega)]
    have e1 : (i : Int) + 1 = ((i + 1 : Nat) : Int) := by omega
    rw [e1]
    exact ⟨by rw [i64_iff]; omega, runB11 x0 hr i (by omega) _ (i + 1) (by omega) (by omega) (by omega)⟩
  | succ j ih =>
    intro i hi
    rw [show j + 1 + 1 + ((rs11 x0).size + 1) = (j + 1 + ((rs11 x0).size + 1)) + 1 by omega, R11_7]
    simp only [Int.toNat_natCast, e0]
    have e1 : (i : Int) + 1 = ((i + 1 : Nat) : Int) := by omega
    rw [if_pos (by simp; omega)]
    refine ⟨by omega, by omega, ?_⟩
    rw [drop_get (rs11 x0).data.toList i 0 (by omega)]
    by_cases hb : ((rs11 x0).data.toList.getD i 0).toNat = 32
    · rw [if_neg (by rw [byte11]; exact fun h => h hb)]
      have en : nx11 ((rs11 x0).data.toList.getD i 0 :: List.drop (i + 1) (rs11 x0).data.toList) = 0 := by unfold nx11; rw [if_pos hb]
      rw [en, e1]
      exact ⟨by rw [i64_iff]; omega, by rw [show j + 1 + ((rs11 x0).size + 1) = (j + 1 + (rs11 x0).size) + 1 by omega]; exact runB11 x0 hr i (by omega) _ (i + 1) (by omega) (by omega) (by omega)⟩
    · rw [if_pos (by rw [byte11]; exact hb)]
      have en : nx11 ((rs11 x0).data.toList.getD i 0 :: List.drop (i + 1) (rs11 x0).data.toList) = nx11 (List.drop (i + 1) (rs11 x0).data.toList) + 1 := by
        conv => lhs; unfold nx11
        rw [if_neg hb]
      rw [en, e1, show i + (nx11 (List.drop (i + 1) (rs11 x0).data.toList) + 1) = i + 1 + nx11 (List.drop (i + 1) (rs11 x0).data.toList) by omega]
      exact ⟨by rw [i64_iff]; omega, ih (i + 1) (by omega)⟩

theorem top11 (x0 : ByteArray) (hm : x0.size ≤ maxLen) : ∃ n, R11 n x0 [⟨(.cons .str (.cons .str (.cons .str .unit))), g11_0 x0⟩, ⟨.int .i64, g11_1 x0⟩] := by
  have e0 : ByteArray.extract x0 6 x0.size = rs11 x0 := rfl
  have hr : (rs11 x0).size ≤ 9223372036854775801 := by
    have hm' : x0.size ≤ 9223372036854775807 := hm
    have es : (rs11 x0).size = min x0.size x0.size - 6 := ByteArray.size_extract
    rw [es, Nat.min_self]; omega
  refine ⟨((rs11 x0).size + 1 + ((rs11 x0).size + 1)) + 1, ?_⟩
  rw [R11]
  simp only [Int.toNat_natCast, e0]
  unfold g11_0 g11_1
  by_cases h1 : x0.size < 6
  · rw [if_pos (by simp; omega), if_pos h1, if_pos h1]
  · rw [if_neg (by simp; omega), if_neg h1, if_neg h1]
    refine ⟨by omega, ?_⟩
    by_cases h2 : (x0.data.toList.getD 5 0).toNat = 32
    · rw [if_neg (by rw [byte11]; exact fun h => h h2), if_neg (show ¬ ((x0.data.toList.getD 5 0).toNat ≠ 32) from fun h => h h2), if_neg (show ¬ ((x0.data.toList.getD 5 0).toNat ≠ 32) from fun h => h h2)]
      refine ⟨by omega, by omega, ?_⟩
      by_cases h3 : sum11 x0 = true
      · have h3' : (!ByteArray.toList (ByteArray.extract x0 0 5) == ByteArray.toList (g27_0 (g28_0 (rs11 x0) 65535))) = true := h3
        rw [if_pos h3, if_pos h3, if_pos h3']
      · have h3' : ¬ (!ByteArray.toList (ByteArray.extract x0 0 5) == ByteArray.toList (g27_0 (g28_0 (rs11 x0) 65535))) = true := h3
        rw [if_neg h3, if_neg h3, if_neg h3']
        have := runA11 x0 hr (rs11 x0).size 0 (by omega)
        simp only [Nat.zero_add, List.drop_zero] at this
        exact this
    · rw [if_pos (by rw [byte11]; exact h2), if_pos h2, if_pos h2]

def S11 : Am.Spec := { sig := sig11, pre := fun ⟨x0, _⟩ => P11 x0, res := fun ⟨x0, _⟩ => [⟨(.cons .str (.cons .str (.cons .str .unit))), g11_0 x0⟩, ⟨.int .i64, g11_1 x0⟩] }
theorem con11 : Contract Tryz.prog 11 S11 := contract_of Tryz.func11 hb11 (Nat.le_of_ble_eq_true (by kernel_rfl)) (fun ⟨x0, _⟩ h hwf w0 O q =>
  let ⟨n, hn⟩ := top11 x0 hwf.1
  (snd11 n).1 x0 _ hn w0 O q)

end Go.Proofs.YtcppjmlhilklcaaGreatDoor

/- Function 12 (spec.l29Before): its runs between cut points. Written by a program of this repo (gen). -/
set_option linter.unusedVariables false
set_option linter.unusedSimpArgs false
set_option maxRecDepth 100000
namespace Go.Proofs.YtcppjmlhilklcaaGreatDoor
open Go Go.Am Go.Proofs
def ext12 : Ext := []
theorem ext12Ok : ExtOk Tryz.prog ext12 := trivial
/-! Function 12. -/
noncomputable def b12 : Code := bodyOf Tryz.f12
theorem hb12 : Tryz.f12.body = some b12 := by kernel_rfl
def sig12 : List AT := [AT.p (Ty.cons Ty.str (Ty.cons Ty.str (Ty.cons Ty.str Ty.unit))), AT.p (Ty.cons Ty.str (Ty.cons Ty.str (Ty.cons Ty.str Ty.unit)))]
def tys12 : List Ty := [Ty.bool]
def P12 (x0 : ByteArray × ByteArray × ByteArray × Unit) (x1 : ByteArray × ByteArray × ByteArray × Unit) : Prop := True
def g12_0 (x0 : ByteArray × ByteArray × ByteArray × Unit) (x1 : ByteArray × ByteArray × ByteArray × Unit) : Bool := (if (Op.bytesLess (ByteArray.toList (Prod.fst x0)) (ByteArray.toList (Prod.fst x1))) = true then Bool.true else (if (ByteArray.toList (Prod.fst x0) == ByteArray.toList (Prod.fst x1)) = true then Op.bytesLess (ByteArray.toList (Prod.fst (Prod.snd x0))) (ByteArray.toList (Prod.fst (Prod.snd x1))) else Bool.false))
theorem p12_0 (x0 : ByteArray × ByteArray × ByteArray × Unit) (x1 : ByteArray × ByteArray × ByteArray × Unit) : runF tab ext12 false 36 [] 2000 [] tys12 Tryz.f12.results [true] [.code b12] (entE 0 0 sig12 (x0, x1, ())) (entL sig12 (x0, x1, ())) = some ([Dyn.mk Ty.bool Bool.true], [], [Op.bytesLess (ByteArray.toList (Prod.fst x0)) (ByteArray.toList (Prod.fst x1)) = Bool.true]) := by kernel_rfl
theorem p12_1 (x0 : ByteArray × ByteArray × ByteArray × Unit) (x1 : ByteArray × ByteArray × ByteArray × Unit) : runF tab ext12 false 36 [] 2000 [] tys12 Tryz.f12.results [false, true] [.code b12] (entE 0 0 sig12 (x0, x1, ())) (entL sig12 (x0, x1, ())) = some ([Dyn.mk Ty.bool (Op.bytesLess (ByteArray.toList (Prod.fst (Prod.snd x0))) (ByteArray.toList (Prod.fst (Prod.snd x1))))], [], [Op.bytesLess (ByteArray.toList (Prod.fst x0)) (ByteArray.toList (Prod.fst x1)) = Bool.false, (ByteArray.toList (Prod.fst x0) == ByteArray.toList (Prod.fst x1)) = Bool.true]) := by kernel_rfl
theorem p12_2 (x0 : ByteArray × ByteArray × ByteArray × Unit) (x1 : ByteArray × ByteArray × ByteArray × Unit) : runF tab ext12 false 36 [] 2000 [] tys12 Tryz.f12.results [false, false] [.code b12] (entE 0 0 sig12 (x0, x1, ())) (entL sig12 (x0, x1, ())) = some ([Dyn.mk Ty.bool Bool.false], [], [Op.bytesLess (ByteArray.toList (Prod.fst x0)) (ByteArray.toList (Prod.fst x1)) = Bool.false, (ByteArray.toList (Prod.fst x0) == ByteArray.toList (Prod.fst x1)) = Bool.false]) := by kernel_rfl
theorem at12 (x0 : ByteArray × ByteArray × ByteArray × Unit) (x1 : ByteArray × ByteArray × ByteArray × Unit) (h : P12 x0 x1) (w0 : World) (O : List Nat) (q : Nat → Value) : AtV Tryz.prog 12 (PostR [⟨Ty.bool, g12_0 x0 x1⟩] [] [] q w0 O) 36 w0 O q [] [.code b12] (entE 0 0 sig12 (x0, x1, ())) (entL sig12 (x0, x1, ())) := by
  unfold P12 at h
  unfold g12_0
  by_cases b0 : (Op.bytesLess (ByteArray.toList (Prod.fst x0)) (ByteArray.toList (Prod.fst x1))) = true
  · try simp only [if_pos b0] at h ⊢
    exact AtV.fin Tryz.func12 tabOk ext12Ok mixed (p12_0 x0 x1) ⟨b0, trivial⟩
  · try simp only [if_neg b0] at h ⊢
    replace b0 := Bool.eq_false_iff.2 b0
    by_cases b1 : (ByteArray.toList (Prod.fst x0) == ByteArray.toList (Prod.fst x1)) = true
    · try simp only [if_pos b1] at h ⊢
      exact AtV.fin Tryz.func12 tabOk ext12Ok mixed (p12_1 x0 x1) ⟨b0, b1, trivial⟩
    · try simp only [if_neg b1] at h ⊢
      replace b1 := Bool.eq_false_iff.2 b1
      exact AtV.fin Tryz.func12 tabOk ext12Ok mixed (p12_2 x0 x1) ⟨b0, b1, trivial⟩

def S12 : Am.Spec := { sig := sig12, pre := fun ⟨x0, x1, _⟩ => P12 x0 x1, res := fun ⟨x0, x1, _⟩ => [⟨Ty.bool, g12_0 x0 x1⟩] }
theorem con12 : Contract Tryz.prog 12 S12 := contract_of Tryz.func12 hb12 (Nat.le_of_ble_eq_true (by kernel_rfl)) (fun ⟨x0, x1, _⟩ h _ w0 O q => at12 x0 x1 h w0 O q)


end Go.Proofs.YtcppjmlhilklcaaGreatDoor

/- Function 4 (spec.LoadBlocks): its runs between cut points. Written by a program of this repo (gen). -/
set_option linter.unusedVariables false
set_option linter.unusedSimpArgs false
set_option maxRecDepth 100000
namespace Go.Proofs.YtcppjmlhilklcaaGreatDoor
open Go Go.Am Go.Proofs
def ext4 : Ext := [(9, S9), (10, S10), (11, S11), (12, S12)]
theorem call4_9 : Callable Tryz.prog 9 := ⟨Tryz.f9, Tryz.func9, by kernel_rfl, by kernel_rfl⟩
theorem call4_10 : Callable Tryz.prog 10 := ⟨Tryz.f10, Tryz.func10, by kernel_rfl, by kernel_rfl⟩
theorem call4_11 : Callable Tryz.prog 11 := ⟨Tryz.f11, Tryz.func11, by kernel_rfl, by kernel_rfl⟩
theorem call4_12 : Callable Tryz.prog 12 := ⟨Tryz.f12, Tryz.func12, by kernel_rfl, by kernel_rfl⟩
theorem ext4Ok : ExtOk Tryz.prog ext4 := ⟨⟨call4_9, con9⟩, ⟨call4_10, con10⟩, ⟨call4_11, con11⟩, ⟨call4_12, con12⟩, trivial⟩
/-! Function 4. -/
noncomputable def b4 : Code := bodyOf Tryz.f4
theorem hb4 : Tryz.f4.body = some b4 := by kernel_rfl
def sig4 : List AT := [AT.v (Ty.str)]
def tys4 : List Ty := [Ty.sl (Ty.cons Ty.str (Ty.cons Ty.str (Ty.cons Ty.str Ty.unit))), Ty.int IntKind.i64, Ty.int IntKind.i64]
def E4_9 (v10 : Int) (h1 : List (ByteArray × ByteArray × ByteArray × Unit)) (x0 : ByteArray) : Env := [(5, PV.a (Atom.osl 0 Option.none)), (7, PV.a (Atom.val (Value.int IntKind.i64 (g10_0 (List.getD (g9_0 x0) 0 ByteArray.empty))))), (9, PV.a (Atom.osl 1 Option.none)), (10, PV.a (Atom.val (Value.int IntKind.i64 v10)))]
def L4_9 (v10 : Int) (h1 : List (ByteArray × ByteArray × ByteArray × Unit)) (x0 : ByteArray) : Heap := [Option.some (Arr.mk Ty.str (g9_0 x0) Bool.false), Option.some (Arr.mk (Ty.cons Ty.str (Ty.cons Ty.str (Ty.cons Ty.str Ty.unit))) h1 Bool.false)]
mutual
def R4 : Nat → ByteArray → List Dyn → Prop
  | 0, _, _ => False
  | n + 1, x0, ds => ((P9 x0) ∧ (if (!g9_1 x0) = true then (ds = [Dyn.mk (Ty.sl (Ty.cons Ty.str (Ty.cons Ty.str (Ty.cons Ty.str Ty.unit)))) [], Dyn.mk (Ty.int IntKind.i64) 0, Dyn.mk (Ty.int IntKind.i64) 11]) else (if ((↑(List.length (g9_0 x0)) : Int) == 0) = true then (ds = [Dyn.mk (Ty.sl (Ty.cons Ty.str (Ty.cons Ty.str (Ty.cons Ty.str Ty.unit)))) [], Dyn.mk (Ty.int IntKind.i64) 0, Dyn.mk (Ty.int IntKind.i64) 11]) else ((0 < (↑(List.length (g9_0 x0)) : Int)) ∧ ((P10 (List.getD (g9_0 x0) 0 ByteArray.empty)) ∧ (if (!g10_1 (List.getD (g9_0 x0) 0 ByteArray.empty)) = true then (ds = [Dyn.mk (Ty.sl (Ty.cons Ty.str (Ty.cons Ty.str (Ty.cons Ty.str Ty.unit)))) [], Dyn.mk (Ty.int IntKind.i64) 1, Dyn.mk (Ty.int IntKind.i64) 9]) else (R4_9 n (1) ([]) (x0) ds)))))))
def R4_9 : Nat → Int → List (ByteArray × ByteArray × ByteArray × Unit) → ByteArray → List Dyn → Prop
  | 0, _, _, _, _ => False
  | n + 1, v10, h1, x0, ds => (if (Decidable.decide (v10 < (↑(List.length (g9_0 x0)) : Int))) = true then ((0 ≤ v10) ∧ (v10 < (↑(List.length (g9_0 x0)) : Int)) ∧ (if (g11_1 (List.getD (g9_0 x0) (Int.toNat v10) ByteArray.empty) != 0) = true then ((InR IntKind.i64 (v10 + 1)) ∧ (ds = [Dyn.mk (Ty.sl (Ty.cons Ty.str (Ty.cons Ty.str (Ty.cons Ty.str Ty.unit)))) [], Dyn.mk (Ty.int IntKind.i64) (v10 + 1), Dyn.mk (Ty.int IntKind.i64) (g11_1 (List.getD (g9_0 x0) (Int.toNat v10) ByteArray.empty))])) else (if (Decidable.decide ((↑(List.length h1) : Int) > 0)) = true then ((InR IntKind.i64 ((↑(List.length h1) : Int) - 1)) ∧ ((0 ≤ (↑(List.length h1) : Int) - 1) ∧ ((↑(List.length h1) : Int) - 1 < (↑(List.length h1) : Int)) ∧ (if (!g12_0 (List.getD h1 (Int.toNat ((↑(List.length h1) : Int) - 1)) (ByteArray.empty, ByteArray.empty, ByteArray.empty, ())) (g11_0 (List.getD (g9_0 x0) (Int.toNat v10) ByteArray.empty))) = true then ((InR IntKind.i64 (v10 + 1)) ∧ (ds = [Dyn.mk (Ty.sl (Ty.cons Ty.str (Ty.cons Ty.str (Ty.cons Ty.str Ty.unit)))) [], Dyn.mk (Ty.int IntKind.i64) (v10 + 1), Dyn.mk (Ty.int IntKind.i64) 7])) else (((List.length h1 + 1) * 48 ≤ 140737488355328) ∧ ((InR IntKind.i64 (v10 + 1)) ∧ (R4_9 n (v10 + 1) (h1 ++ [g11_0 (List.getD (g9_0 x0) (Int.toNat v10) ByteArray.empty)]) (x0) ds)))))) else (((List.length h1 + 1) * 48 ≤ 140737488355328) ∧ ((InR IntKind.i64 (v10 + 1)) ∧ (R4_9 n (v10 + 1) (h1 ++ [g11_0 (List.getD (g9_0 x0) (Int.toNat v10) ByteArray.empty)]) (x0) ds)))))) else (if ((↑(List.length h1) : Int) != g10_0 (List.getD (g9_0 x0) 0 ByteArray.empty)) = true then (ds = [Dyn.mk (Ty.sl (Ty.cons Ty.str (Ty.cons Ty.str (Ty.cons Ty.str Ty.unit)))) [], Dyn.mk (Ty.int IntKind.i64) 0, Dyn.mk (Ty.int IntKind.i64) 11]) else (ds = [Dyn.mk (Ty.sl (Ty.cons Ty.str (Ty.cons Ty.str (Ty.cons Ty.str Ty.unit)))) h1, Dyn.mk (Ty.int IntKind.i64) 0, Dyn.mk (Ty.int IntKind.i64) 0])))
end
theorem p4_0 (x0 : ByteArray) : runF tab ext4 false 77 [] 2000 [] tys4 Tryz.f4.results [true, true] [.code b4] (entE 0 0 sig4 (x0, ())) (entL sig4 (x0, ())) = some ([Dyn.mk (Ty.sl (Ty.cons Ty.str (Ty.cons Ty.str (Ty.cons Ty.str Ty.unit)))) [], Dyn.mk (Ty.int IntKind.i64) 0, Dyn.mk (Ty.int IntKind.i64) 11], [], [P9 x0, (!g9_1 x0) = Bool.true, Bool.true = Bool.true]) := by kernel_rfl
theorem p4_1 (x0 : ByteArray) : runF tab ext4 false 77 [] 2000 [] tys4 Tryz.f4.results [false, true] [.code b4] (entE 0 0 sig4 (x0, ())) (entL sig4 (x0, ())) = some ([Dyn.mk (Ty.sl (Ty.cons Ty.str (Ty.cons Ty.str (Ty.cons Ty.str Ty.unit)))) [], Dyn.mk (Ty.int IntKind.i64) 0, Dyn.mk (Ty.int IntKind.i64) 11], [], [P9 x0, (!g9_1 x0) = Bool.false, ((↑(List.length (g9_0 x0)) : Int) == 0) = Bool.true]) := by kernel_rfl
theorem p4_2 (x0 : ByteArray) : runF tab ext4 false 77 [] 2000 [] tys4 Tryz.f4.results [false, false, true] [.code b4] (entE 0 0 sig4 (x0, ())) (entL sig4 (x0, ())) = some ([Dyn.mk (Ty.sl (Ty.cons Ty.str (Ty.cons Ty.str (Ty.cons Ty.str Ty.unit)))) [], Dyn.mk (Ty.int IntKind.i64) 1, Dyn.mk (Ty.int IntKind.i64) 9], [], [P9 x0, (!g9_1 x0) = Bool.false, ((↑(List.length (g9_0 x0)) : Int) == 0) = Bool.false, (0 : Int) ≤ (0 : Int), 0 < (↑(List.length (g9_0 x0)) : Int), P10 (List.getD (g9_0 x0) 0 ByteArray.empty), (!g10_1 (List.getD (g9_0 x0) 0 ByteArray.empty)) = Bool.true]) := by kernel_rfl
theorem p4_3 (x0 : ByteArray) : Am.runN tab ext4 false 77 [] 2000 [] [] [5, 7, 9, 10] [0, 1] [false, false, false] [.code b4] (entE 0 0 sig4 (x0, ())) (entL sig4 (x0, ())) = some (cutAt b4 9, E4_9 (1) ([]) (x0), L4_9 (1) ([]) (x0), [P9 x0, (!g9_1 x0) = Bool.false, ((↑(List.length (g9_0 x0)) : Int) == 0) = Bool.false, (0 : Int) ≤ (0 : Int), 0 < (↑(List.length (g9_0 x0)) : Int), P10 (List.getD (g9_0 x0) 0 ByteArray.empty), (!g10_1 (List.getD (g9_0 x0) 0 ByteArray.empty)) = Bool.false]) := by kernel_rfl
theorem p4_4 (v10 : Int) (h1 : List (ByteArray × ByteArray × ByteArray × Unit)) (x0 : ByteArray) : runF tab ext4 false 77 [] 2000 [] tys4 Tryz.f4.results [true, true] (cutAt b4 9) (E4_9 v10 h1 x0) (L4_9 v10 h1 x0) = some ([Dyn.mk (Ty.sl (Ty.cons Ty.str (Ty.cons Ty.str (Ty.cons Ty.str Ty.unit)))) [], Dyn.mk (Ty.int IntKind.i64) (v10 + 1), Dyn.mk (Ty.int IntKind.i64) (g11_1 (List.getD (g9_0 x0) (Int.toNat v10) ByteArray.empty))], [], [Decidable.decide (v10 < (↑(List.length (g9_0 x0)) : Int)) = Bool.true, 0 ≤ v10, v10 < (↑(List.length (g9_0 x0)) : Int), True, (g11_1 (List.getD (g9_0 x0) (Int.toNat v10) ByteArray.empty) != 0) = Bool.true, InR IntKind.i64 (v10 + 1)]) := by kernel_rfl
theorem p4_5 (v10 : Int) (h1 : List (ByteArray × ByteArray × ByteArray × Unit)) (x0 : ByteArray) : runF tab ext4 false 77 [] 2000 [] tys4 Tryz.f4.results [true, false, true, true] (cutAt b4 9) (E4_9 v10 h1 x0) (L4_9 v10 h1 x0) = some ([Dyn.mk (Ty.sl (Ty.cons Ty.str (Ty.cons Ty.str (Ty.cons Ty.str Ty.unit)))) [], Dyn.mk (Ty.int IntKind.i64) (v10 + 1), Dyn.mk (Ty.int IntKind.i64) 7], [], [Decidable.decide (v10 < (↑(List.length (g9_0 x0)) : Int)) = Bool.true, 0 ≤ v10, v10 < (↑(List.length (g9_0 x0)) : Int), True, (g11_1 (List.getD (g9_0 x0) (Int.toNat v10) ByteArray.empty) != 0) = Bool.false, Decidable.decide ((↑(List.length h1) : Int) > 0) = Bool.true, InR IntKind.i64 ((↑(List.length h1) : Int) - 1), 0 ≤ (↑(List.length h1) : Int) - 1, (↑(List.length h1) : Int) - 1 < (↑(List.length h1) : Int), True, (!g12_0 (List.getD h1 (Int.toNat ((↑(List.length h1) : Int) - 1)) (ByteArray.empty, ByteArray.empty, ByteArray.empty, ())) (g11_0 (List.getD (g9_0 x0) (Int.toNat v10) ByteArray.empty))) = Bool.true, InR IntKind.i64 (v10 + 1)]) := by kernel_rfl
theorem p4_6 (v10 : Int) (h1 : List (ByteArray × ByteArray × ByteArray × Unit)) (x0 : ByteArray) : Am.runN tab ext4 false 77 [] 2000 [] [] [5, 7, 9, 10] [0, 1] [true, false, true, false] (cutAt b4 9) (E4_9 v10 h1 x0) (L4_9 v10 h1 x0) = some (cutAt b4 9, E4_9 (v10 + 1) (h1 ++ [g11_0 (List.getD (g9_0 x0) (Int.toNat v10) ByteArray.empty)]) (x0), L4_9 (v10 + 1) (h1 ++ [g11_0 (List.getD (g9_0 x0) (Int.toNat v10) ByteArray.empty)]) (x0), [Decidable.decide (v10 < (↑(List.length (g9_0 x0)) : Int)) = Bool.true, 0 ≤ v10, v10 < (↑(List.length (g9_0 x0)) : Int), True, (g11_1 (List.getD (g9_0 x0) (Int.toNat v10) ByteArray.empty) != 0) = Bool.false, Decidable.decide ((↑(List.length h1) : Int) > 0) = Bool.true, InR IntKind.i64 ((↑(List.length h1) : Int) - 1), 0 ≤ (↑(List.length h1) : Int) - 1, (↑(List.length h1) : Int) - 1 < (↑(List.length h1) : Int), True, (!g12_0 (List.getD h1 (Int.toNat ((↑(List.length h1) : Int) - 1)) (ByteArray.empty, ByteArray.empty, ByteArray.empty, ())) (g11_0 (List.getD (g9_0 x0) (Int.toNat v10) ByteArray.empty))) = Bool.false, (List.length h1 + 1) * 48 ≤ 140737488355328, InR IntKind.i64 (v10 + 1)]) := by kernel_rfl
theorem p4_7 (v10 : Int) (h1 : List (ByteArray × ByteArray × ByteArray × Unit)) (x0 : ByteArray) : Am.runN tab ext4 false 77 [] 2000 [] [] [5, 7, 9, 10] [0, 1] [true, false, false, false] (cutAt b4 9) (E4_9 v10 h1 x0) (L4_9 v10 h1 x0) = some (cutAt b4 9, E4_9 (v10 + 1) (h1 ++ [g11_0 (List.getD (g9_0 x0) (Int.toNat v10) ByteArray.empty)]) (x0), L4_9 (v10 + 1) (h1 ++ [g11_0 (List.getD (g9_0 x0) (Int.toNat v10) ByteArray.empty)]) (x0), [Decidable.decide (v10 < (↑(List.length (g9_0 x0)) : Int)) = Bool.true, 0 ≤ v10, v10 < (↑(List.length (g9_0 x0)) : Int), True, (g11_1 (List.getD (g9_0 x0) (Int.toNat v10) ByteArray.empty) != 0) = Bool.false, Decidable.decide ((↑(List.length h1) : Int) > 0) = Bool.false, Bool.false = Bool.false, (List.length h1 + 1) * 48 ≤ 140737488355328, InR IntKind.i64 (v10 + 1)]) := by kernel_rfl
theorem p4_8 (v10 : Int) (h1 : List (ByteArray × ByteArray × ByteArray × Unit)) (x0 : ByteArray) : runF tab ext4 false 77 [] 2000 [] tys4 Tryz.f4.results [false, true] (cutAt b4 9) (E4_9 v10 h1 x0) (L4_9 v10 h1 x0) = some ([Dyn.mk (Ty.sl (Ty.cons Ty.str (Ty.cons Ty.str (Ty.cons Ty.str Ty.unit)))) [], Dyn.mk (Ty.int IntKind.i64) 0, Dyn.mk (Ty.int IntKind.i64) 11], [], [Decidable.decide (v10 < (↑(List.length (g9_0 x0)) : Int)) = Bool.false, ((↑(List.length h1) : Int) != g10_0 (List.getD (g9_0 x0) 0 ByteArray.empty)) = Bool.true]) := by kernel_rfl
theorem p4_9 (v10 : Int) (h1 : List (ByteArray × ByteArray × ByteArray × Unit)) (x0 : ByteArray) : runF tab ext4 false 77 [] 2000 [] tys4 Tryz.f4.results [false, false] (cutAt b4 9) (E4_9 v10 h1 x0) (L4_9 v10 h1 x0) = some ([Dyn.mk (Ty.sl (Ty.cons Ty.str (Ty.cons Ty.str (Ty.cons Ty.str Ty.unit)))) h1, Dyn.mk (Ty.int IntKind.i64) 0, Dyn.mk (Ty.int IntKind.i64) 0], [], [Decidable.decide (v10 < (↑(List.length (g9_0 x0)) : Int)) = Bool.false, ((↑(List.length h1) : Int) != g10_0 (List.getD (g9_0 x0) 0 ByteArray.empty)) = Bool.false]) := by kernel_rfl
theorem snd4 : ∀ n, (∀ (x0 : ByteArray) ds, R4 n x0 ds → ∀ w0 O q, AtV Tryz.prog 4 (PostR ds [] [] q w0 O) 77 w0 O q [] [.code b4] (entE 0 0 sig4 (x0, ())) (entL sig4 (x0, ()))) ∧ (∀ (v10 : Int) (h1 : List (ByteArray × ByteArray × ByteArray × Unit)) (x0 : ByteArray) ds, R4_9 n v10 h1 x0 ds → ∀ w0 O q, AtV Tryz.prog 4 (PostR ds [] [] q w0 O) 77 w0 O q [] (cutAt b4 9) (E4_9 v10 h1 x0) (L4_9 v10 h1 x0)) := by
  intro n
  induction n with
  | zero => exact ⟨fun _ _ h => by simp only [R4] at h, fun _ _ _ _ h => by simp only [R4_9] at h⟩
  | succ n ih =>
  obtain ⟨ih, ih9⟩ := ih
  refine ⟨?_, ?_⟩
  · intro x0 ds h w0 O q
    rw [R4] at h
    obtain ⟨s0, h⟩ := h
    by_cases b0 : (!g9_1 x0) = true
    · rw [if_pos b0] at h
      subst h
      exact AtV.fin Tryz.func4 tabOk ext4Ok mixed (p4_0 x0) ⟨s0, b0, rfl, trivial⟩
    · rw [if_neg b0] at h
      replace b0 := Bool.eq_false_iff.2 b0
      by_cases b1 : ((↑(List.length (g9_0 x0)) : Int) == 0) = true
      · rw [if_pos b1] at h
        subst h
        exact AtV.fin Tryz.func4 tabOk ext4Ok mixed (p4_1 x0) ⟨s0, b0, b1, trivial⟩
      · rw [if_neg b1] at h
        replace b1 := Bool.eq_false_iff.2 b1
        obtain ⟨s1, h⟩ := h
        obtain ⟨s2, h⟩ := h
        by_cases b2 : (!g10_1 (List.getD (g9_0 x0) 0 ByteArray.empty)) = true
        · rw [if_pos b2] at h
          subst h
          exact AtV.fin Tryz.func4 tabOk ext4Ok mixed (p4_2 x0) ⟨s0, b0, b1, (by decide), s1, s2, b2, trivial⟩
        · rw [if_neg b2] at h
          replace b2 := Bool.eq_false_iff.2 b2
          exact AtV.runN tabOk ext4Ok mixed (p4_3 x0) ⟨s0, b0, b1, (by decide), s1, s2, b2, trivial⟩ (ih9 _ _ _ _ h w0 O q)

  · intro v10 h1 x0 ds h w0 O q
    rw [R4_9] at h
    by_cases b0 : (Decidable.decide (v10 < (↑(List.length (g9_0 x0)) : Int))) = true
    · rw [if_pos b0] at h
      obtain ⟨s0, s1, h⟩ := h
      by_cases b1 : (g11_1 (List.getD (g9_0 x0) (Int.toNat v10) ByteArray.empty) != 0) = true
      · rw [if_pos b1] at h
        obtain ⟨s2, h⟩ := h
        subst h
        exact AtV.fin Tryz.func4 tabOk ext4Ok mixed (p4_4 v10 h1 x0) ⟨b0, s0, s1, trivial, b1, s2, trivial⟩
      · rw [if_neg b1] at h
        replace b1 := Bool.eq_false_iff.2 b1
        by_cases b2 : (Decidable.decide ((↑(List.length h1) : Int) > 0)) = true
        · rw [if_pos b2] at h
          obtain ⟨s2, h⟩ := h
          obtain ⟨s3, s4, h⟩ := h
          by_cases b3 : (!g12_0 (List.getD h1 (Int.toNat ((↑(List.length h1) : Int) - 1)) (ByteArray.empty, ByteArray.empty, ByteArray.empty, ())) (g11_0 (List.getD (g9_0 x0) (Int.toNat v10) ByteArray.empty))) = true
          · rw [if_pos b3] at h
            obtain ⟨s5, h⟩ := h
            subst h
            exact AtV.fin Tryz.func4 tabOk ext4Ok mixed (p4_5 v10 h1 x0) ⟨b0, s0, s1, trivial, b1, b2, s2, s3, s4, trivial, b3, s5, trivial⟩
          · rw [if_neg b3] at h
            replace b3 := Bool.eq_false_iff.2 b3
            obtain ⟨s5, h⟩ := h
            obtain ⟨s6, h⟩ := h
            exact AtV.runN tabOk ext4Ok mixed (p4_6 v10 h1 x0) ⟨b0, s0, s1, trivial, b1, b2, s2, s3, s4, trivial, b3, s5, s6, trivial⟩ (ih9 _ _ _ _ h w0 O q)
        · rw [if_neg b2] at h
          replace b2 := Bool.eq_false_iff.2 b2
          obtain ⟨s2, h⟩ := h
          obtain ⟨s3, h⟩ := h
          exact AtV.runN tabOk ext4Ok mixed (p4_7 v10 h1 x0) ⟨b0, s0, s1, trivial, b1, b2, rfl, s2, s3, trivial⟩ (ih9 _ _ _ _ h w0 O q)
    · rw [if_neg b0] at h
      replace b0 := Bool.eq_false_iff.2 b0
      by_cases b1 : ((↑(List.length h1) : Int) != g10_0 (List.getD (g9_0 x0) 0 ByteArray.empty)) = true
      · rw [if_pos b1] at h
        subst h
        exact AtV.fin Tryz.func4 tabOk ext4Ok mixed (p4_8 v10 h1 x0) ⟨b0, b1, trivial⟩
      · rw [if_neg b1] at h
        replace b1 := Bool.eq_false_iff.2 b1
        subst h
        exact AtV.fin Tryz.func4 tabOk ext4Ok mixed (p4_9 v10 h1 x0) ⟨b0, b1, trivial⟩



def ls4 (x0 : ByteArray) : List ByteArray := g9_0 x0
def ord4 (h : List (ByteArray × ByteArray × ByteArray × Unit)) (b : (ByteArray × ByteArray × ByteArray × Unit)) : Bool := decide (0 < h.length) && !g12_0 (h.getD (h.length - 1) (ByteArray.empty, ByteArray.empty, ByteArray.empty, ())) b
/-- The blocks of lines, or the first line with an error. -/
def ld4 : List ByteArray → Nat → List (ByteArray × ByteArray × ByteArray × Unit) → (Int × Int) ⊕ List (ByteArray × ByteArray × ByteArray × Unit)
  | [], _, h => .inr h
  | l :: r, i, h => if g11_1 l ≠ 0 then .inl ((i : Int) + 1, g11_1 l) else if ord4 h (g11_0 l) = true then .inl ((i : Int) + 1, 7) else ld4 r (i + 1) (h ++ [g11_0 l])
def out4 (n : Int) : (Int × Int) ⊕ List (ByteArray × ByteArray × ByteArray × Unit) → List (ByteArray × ByteArray × ByteArray × Unit) × Int × Int
  | .inl (i, c) => ([], i, c)
  | .inr h => if (h.length : Int) = n then (h, 0, 0) else ([], 0, 11)
def all4 (x0 : ByteArray) : List (ByteArray × ByteArray × ByteArray × Unit) × Int × Int :=
  if g9_1 x0 = false ∨ (ls4 x0).length = 0 then ([], 0, 11) else if g10_1 ((ls4 x0).getD 0 ByteArray.empty) = false then ([], 1, 9) else out4 (g10_0 ((ls4 x0).getD 0 ByteArray.empty)) (ld4 ((ls4 x0).drop 1) 1 [])
def g4_0 (x0 : ByteArray) : List (ByteArray × ByteArray × ByteArray × Unit) := (all4 x0).1
def g4_1 (x0 : ByteArray) : Int := (all4 x0).2.1
def g4_2 (x0 : ByteArray) : Int := (all4 x0).2.2
def P4 (x0 : ByteArray) : Prop := P9 x0 ∧ (ls4 x0).length ≤ 1048577 ∧ ((ls4 x0).length ≠ 0 → P10 ((ls4 x0).getD 0 ByteArray.empty))

def res4 (p : List (ByteArray × ByteArray × ByteArray × Unit) × Int × Int) : List Dyn := [⟨.sl (.cons .str (.cons .str (.cons .str .unit))), p.1⟩, ⟨.int .i64, p.2.1⟩, ⟨.int .i64, p.2.2⟩]

theorem run4 (x0 : ByteArray) (hl : (ls4 x0).length ≤ 1048577) : ∀ (k i : Nat) (h : List (ByteArray × ByteArray × ByteArray × Unit)), i + k = (ls4 x0).length → h.length ≤ i →
    R4_9 (k + 1) (i : Int) h x0 (res4 (out4 (g10_0 ((ls4 x0).getD 0 ByteArray.empty)) (ld4 ((ls4 x0).drop i) i h))) := by
  have ew : g9_0 x0 = ls4 x0 := rfl
  intro k
  induction k with
  | zero =>
    intro i h hi hh
    rw [R4_9, ew, if_neg (by simp only [decide_eq_true_eq]; omega), List.drop_of_length_le (by omega)]
    unfold ld4 out4
    by_cases hn : (h.length : Int) = g10_0 ((ls4 x0).getD 0 ByteArray.empty)
    · rw [if_neg (by simpa using hn)]
      simp only [if_pos hn]; rfl
    · rw [if_pos (by simpa using hn)]
      simp only [if_neg hn]; rfl
  | succ k ih =>
    intro i h hi hh
    have hlt : i < (ls4 x0).length := by omega
    rw [R4_9, ew, if_pos (by simp only [decide_eq_true_eq]; omega)]
    simp only [Int.toNat_natCast]
    rw [drop_get (ls4 x0) i ByteArray.empty hlt]
    have hup : InR .i64 ((i : Int) + 1) := by rw [i64_iff]; omega
    have e1 : (i : Int) + 1 = ((i + 1 : Nat) : Int) := by omega
    generalize hw : (ls4 x0).getD i ByteArray.empty = w
    refine ⟨by omega, by omega, ?_⟩
    unfold ld4
    by_cases hc : g11_1 w = 0
    · rw [if_neg (by simpa using hc), if_neg (show ¬ (g11_1 w ≠ 0) from fun hx => hx hc)]
      have nxt : h.length + 1 ≤ i + 1 → R4_9 (k + 1) ((i : Int) + 1) (h ++ [g11_0 w]) x0 (res4 (out4 (g10_0 ((ls4 x0).getD 0 ByteArray.empty)) (ld4 ((ls4 x0).drop (i + 1)) (i + 1) (h ++ [g11_0 w])))) := fun hq => by
        rw [e1]
        exact ih (i + 1) (h ++ [g11_0 w]) (by omega) (by simp; omega)
      by_cases h0 : 0 < h.length
      · rw [if_pos (by simp only [decide_eq_true_eq]; omega)]
        have e2 : Int.toNat ((h.length : Int) - 1) = h.length - 1 := by omega
        rw [e2]
        refine ⟨by rw [i64_iff]; omega, by omega, by omega, ?_⟩
        have eo : ord4 h (g11_0 w) = !g12_0 (h.getD (h.length - 1) (ByteArray.empty, ByteArray.empty, ByteArray.empty, ())) (g11_0 w) := by
          unfold ord4; rw [decide_eq_true h0, Bool.true_and]
        rw [eo]
        cases hb : g12_0 (h.getD (h.length - 1) (ByteArray.empty, ByteArray.empty, ByteArray.empty, ())) (g11_0 w) with
        | false =>
          rw [if_pos (by rfl), if_pos (show (!false) = true from rfl)]
          exact ⟨hup, rfl⟩
        | true =>
          rw [if_neg (by simp), if_neg (show ¬ (!true) = true by decide)]
          exact ⟨by omega, hup, nxt (by omega)⟩
      · rw [if_neg (by simp only [decide_eq_true_eq]; omega)]
        have eo : ord4 h (g11_0 w) = false := by
          unfold ord4; rw [decide_eq_false h0, Bool.false_and]
        rw [eo, if_neg (by simp)]
        exact ⟨by omega, hup, nxt (by omega)⟩
    · rw [if_pos (by simpa using hc), if_pos (show g11_1 w ≠ 0 from hc)]
      exact ⟨hup, rfl⟩

theorem top4 (x0 : ByteArray) (hp : P4 x0) : ∃ n, R4 n x0 (res4 (all4 x0)) := by
  obtain ⟨p1, p2, p3⟩ := hp
  have ew : g9_0 x0 = ls4 x0 := rfl
  refine ⟨((ls4 x0).length - 1 + 1) + 1, ?_⟩
  rw [R4, ew]
  refine ⟨p1, ?_⟩
  unfold all4
  cases h1 : g9_1 x0 with
  | false => rw [if_pos (by rfl), if_pos (.inl rfl)]; rfl
  | true =>
    rw [if_neg (by simp)]
    by_cases h2 : (ls4 x0).length = 0
    · rw [if_pos (by rw [h2]; rfl), if_pos (.inr h2)]; rfl
    · rw [if_neg (by rw [beq_iff_eq]; omega), if_neg (show ¬ (true = false ∨ (ls4 x0).length = 0) from fun h => by rcases h with h | h; cases h; exact h2 h)]
      refine ⟨by omega, p3 h2, ?_⟩
      cases h3 : g10_1 ((ls4 x0).getD 0 ByteArray.empty) with
      | false => rw [if_pos (show (!false) = true from rfl), if_pos rfl]; rfl
      | true =>
        rw [if_neg (show ¬ (!true) = true by decide), if_neg (show ¬ true = false by decide)]
        exact run4 x0 p2 ((ls4 x0).length - 1) 1 [] (by omega) (by simp)

def S4 : Am.Spec := { sig := sig4, pre := fun ⟨x0, _⟩ => P4 x0, res := fun ⟨x0, _⟩ => [⟨.sl (.cons .str (.cons .str (.cons .str .unit))), g4_0 x0⟩, ⟨.int .i64, g4_1 x0⟩, ⟨.int .i64, g4_2 x0⟩] }
theorem con4 : Contract Tryz.prog 4 S4 := contract_of Tryz.func4 hb4 (Nat.le_of_ble_eq_true (by kernel_rfl)) (fun ⟨x0, _⟩ h hwf w0 O q => by
  obtain ⟨n, hn⟩ := top4 x0 h
  exact (snd4 n).1 x0 _ hn w0 O q)

end Go.Proofs.YtcppjmlhilklcaaGreatDoor

/- Function 22 (laws.eqBlock): its runs between cut points. Written by a program of this repo (gen). -/
set_option linter.unusedVariables false
set_option linter.unusedSimpArgs false
set_option maxRecDepth 100000
namespace Go.Proofs.YtcppjmlhilklcaaGreatDoor
open Go Go.Am Go.Proofs
def ext22 : Ext := []
theorem ext22Ok : ExtOk Tryz.prog ext22 := trivial
/-! Function 22. -/
noncomputable def b22 : Code := bodyOf Tryz.f22
theorem hb22 : Tryz.f22.body = some b22 := by kernel_rfl
def sig22 : List AT := [AT.v (Ty.cons Ty.str (Ty.cons Ty.str (Ty.cons Ty.str Ty.unit))), AT.v (Ty.cons Ty.str (Ty.cons Ty.str (Ty.cons Ty.str Ty.unit)))]
def tys22 : List Ty := [Ty.bool]
def P22 (x0 : ByteArray × ByteArray × ByteArray × Unit) (x1 : ByteArray × ByteArray × ByteArray × Unit) : Prop := True
def g22_0 (x0 : ByteArray × ByteArray × ByteArray × Unit) (x1 : ByteArray × ByteArray × ByteArray × Unit) : Bool := (if (!ByteArray.toList (Prod.fst x0) == ByteArray.toList (Prod.fst x1)) = true then Bool.false else (if (!ByteArray.toList (Prod.fst (Prod.snd x0)) == ByteArray.toList (Prod.fst (Prod.snd x1))) = true then Bool.false else (if (!ByteArray.toList (Prod.fst (Prod.snd (Prod.snd x0))) == ByteArray.toList (Prod.fst (Prod.snd (Prod.snd x1)))) = true then Bool.false else Bool.true)))
theorem p22_0 (x0 : ByteArray × ByteArray × ByteArray × Unit) (x1 : ByteArray × ByteArray × ByteArray × Unit) : runF tab ext22 false 20 [] 2000 [] tys22 Tryz.f22.results [true] [.code b22] (entE 0 0 sig22 (x0, x1, ())) (entL sig22 (x0, x1, ())) = some ([Dyn.mk Ty.bool Bool.false], [], [(!ByteArray.toList (Prod.fst x0) == ByteArray.toList (Prod.fst x1)) = Bool.true]) := by kernel_rfl
theorem p22_1 (x0 : ByteArray × ByteArray × ByteArray × Unit) (x1 : ByteArray × ByteArray × ByteArray × Unit) : runF tab ext22 false 20 [] 2000 [] tys22 Tryz.f22.results [false, true] [.code b22] (entE 0 0 sig22 (x0, x1, ())) (entL sig22 (x0, x1, ())) = some ([Dyn.mk Ty.bool Bool.false], [], [(!ByteArray.toList (Prod.fst x0) == ByteArray.toList (Prod.fst x1)) = Bool.false, (!ByteArray.toList (Prod.fst (Prod.snd x0)) == ByteArray.toList (Prod.fst (Prod.snd x1))) = Bool.true]) := by kernel_rfl
theorem p22_2 (x0 : ByteArray × ByteArray × ByteArray × Unit) (x1 : ByteArray × ByteArray × ByteArray × Unit) : runF tab ext22 false 20 [] 2000 [] tys22 Tryz.f22.results [false, false, true] [.code b22] (entE 0 0 sig22 (x0, x1, ())) (entL sig22 (x0, x1, ())) = some ([Dyn.mk Ty.bool Bool.false], [], [(!ByteArray.toList (Prod.fst x0) == ByteArray.toList (Prod.fst x1)) = Bool.false, (!ByteArray.toList (Prod.fst (Prod.snd x0)) == ByteArray.toList (Prod.fst (Prod.snd x1))) = Bool.false, (!ByteArray.toList (Prod.fst (Prod.snd (Prod.snd x0))) == ByteArray.toList (Prod.fst (Prod.snd (Prod.snd x1)))) = Bool.true]) := by kernel_rfl
theorem p22_3 (x0 : ByteArray × ByteArray × ByteArray × Unit) (x1 : ByteArray × ByteArray × ByteArray × Unit) : runF tab ext22 false 20 [] 2000 [] tys22 Tryz.f22.results [false, false, false] [.code b22] (entE 0 0 sig22 (x0, x1, ())) (entL sig22 (x0, x1, ())) = some ([Dyn.mk Ty.bool Bool.true], [], [(!ByteArray.toList (Prod.fst x0) == ByteArray.toList (Prod.fst x1)) = Bool.false, (!ByteArray.toList (Prod.fst (Prod.snd x0)) == ByteArray.toList (Prod.fst (Prod.snd x1))) = Bool.false, (!ByteArray.toList (Prod.fst (Prod.snd (Prod.snd x0))) == ByteArray.toList (Prod.fst (Prod.snd (Prod.snd x1)))) = Bool.false]) := by kernel_rfl
theorem at22 (x0 : ByteArray × ByteArray × ByteArray × Unit) (x1 : ByteArray × ByteArray × ByteArray × Unit) (h : P22 x0 x1) (w0 : World) (O : List Nat) (q : Nat → Value) : AtV Tryz.prog 22 (PostR [⟨Ty.bool, g22_0 x0 x1⟩] [] [] q w0 O) 20 w0 O q [] [.code b22] (entE 0 0 sig22 (x0, x1, ())) (entL sig22 (x0, x1, ())) := by
  unfold P22 at h
  unfold g22_0
  by_cases b0 : (!ByteArray.toList (Prod.fst x0) == ByteArray.toList (Prod.fst x1)) = true
  · try simp only [if_pos b0] at h ⊢
    exact AtV.fin Tryz.func22 tabOk ext22Ok mixed (p22_0 x0 x1) ⟨b0, trivial⟩
  · try simp only [if_neg b0] at h ⊢
    replace b0 := Bool.eq_false_iff.2 b0
    by_cases b1 : (!ByteArray.toList (Prod.fst (Prod.snd x0)) == ByteArray.toList (Prod.fst (Prod.snd x1))) = true
    · try simp only [if_pos b1] at h ⊢
      exact AtV.fin Tryz.func22 tabOk ext22Ok mixed (p22_1 x0 x1) ⟨b0, b1, trivial⟩
    · try simp only [if_neg b1] at h ⊢
      replace b1 := Bool.eq_false_iff.2 b1
      by_cases b2 : (!ByteArray.toList (Prod.fst (Prod.snd (Prod.snd x0))) == ByteArray.toList (Prod.fst (Prod.snd (Prod.snd x1)))) = true
      · try simp only [if_pos b2] at h ⊢
        exact AtV.fin Tryz.func22 tabOk ext22Ok mixed (p22_2 x0 x1) ⟨b0, b1, b2, trivial⟩
      · try simp only [if_neg b2] at h ⊢
        replace b2 := Bool.eq_false_iff.2 b2
        exact AtV.fin Tryz.func22 tabOk ext22Ok mixed (p22_3 x0 x1) ⟨b0, b1, b2, trivial⟩

def S22 : Am.Spec := { sig := sig22, pre := fun ⟨x0, x1, _⟩ => P22 x0 x1, res := fun ⟨x0, x1, _⟩ => [⟨Ty.bool, g22_0 x0 x1⟩] }
theorem con22 : Contract Tryz.prog 22 S22 := contract_of Tryz.func22 hb22 (Nat.le_of_ble_eq_true (by kernel_rfl)) (fun ⟨x0, x1, _⟩ h _ w0 O q => at22 x0 x1 h w0 O q)


theorem eqd22 (x y : ByteArray × ByteArray × ByteArray × Unit) : g22_0 x y = true ↔ x = y := by
  obtain ⟨a, b, c, u⟩ := x
  obtain ⟨a', b', c', u'⟩ := y
  unfold g22_0
  simp only [Bool.not_eq_true', bytes_ne]
  by_cases h1 : a = a'
  · by_cases h2 : b = b'
    · by_cases h3 : c = c'
      · simp [h1, h2, h3]
      · simp [h1, h2, h3]
    · simp [h1, h2]
  · simp [h1]

end Go.Proofs.YtcppjmlhilklcaaGreatDoor

/- Function 6 (laws.eqBlockS): its runs between cut points. Written by a program of this repo (gen). -/
set_option linter.unusedVariables false
set_option linter.unusedSimpArgs false
set_option maxRecDepth 100000
namespace Go.Proofs.YtcppjmlhilklcaaGreatDoor
open Go Go.Am Go.Proofs
def ext6 : Ext := [(22, S22)]
theorem call6_22 : Callable Tryz.prog 22 := ⟨Tryz.f22, Tryz.func22, by kernel_rfl, by kernel_rfl⟩
theorem ext6Ok : ExtOk Tryz.prog ext6 := ⟨⟨call6_22, con22⟩, trivial⟩
/-! Function 6. -/
noncomputable def b6 : Code := bodyOf Tryz.f6
theorem hb6 : Tryz.f6.body = some b6 := by kernel_rfl
def sig6 : List AT := [AT.v (Ty.sl (Ty.cons Ty.str (Ty.cons Ty.str (Ty.cons Ty.str Ty.unit)))), AT.v (Ty.sl (Ty.cons Ty.str (Ty.cons Ty.str (Ty.cons Ty.str Ty.unit))))]
def tys6 : List Ty := [Ty.bool]
def E6_4 (v5 : Int) (x0 : List (ByteArray × ByteArray × ByteArray × Unit)) (x1 : List (ByteArray × ByteArray × ByteArray × Unit)) : Env := [(0, PV.a (Atom.sl (Ty.cons Ty.str (Ty.cons Ty.str (Ty.cons Ty.str Ty.unit))) x0)), (1, PV.a (Atom.sl (Ty.cons Ty.str (Ty.cons Ty.str (Ty.cons Ty.str Ty.unit))) x1)), (5, PV.a (Atom.val (Value.int IntKind.i64 v5)))]
def L6_4 (v5 : Int) (x0 : List (ByteArray × ByteArray × ByteArray × Unit)) (x1 : List (ByteArray × ByteArray × ByteArray × Unit)) : Heap := []
mutual
def R6 : Nat → List (ByteArray × ByteArray × ByteArray × Unit) → List (ByteArray × ByteArray × ByteArray × Unit) → List Dyn → Prop
  | 0, _, _, _ => False
  | n + 1, x0, x1, ds => (if ((↑(List.length x0) : Int) != (↑(List.length x1) : Int)) = true then (ds = [Dyn.mk Ty.bool Bool.false]) else (R6_4 n (0) (x0) (x1) ds))
def R6_4 : Nat → Int → List (ByteArray × ByteArray × ByteArray × Unit) → List (ByteArray × ByteArray × ByteArray × Unit) → List Dyn → Prop
  | 0, _, _, _, _ => False
  | n + 1, v5, x0, x1, ds => (if (Decidable.decide (v5 < (↑(List.length x0) : Int))) = true then ((0 ≤ v5) ∧ (v5 < (↑(List.length x0) : Int)) ∧ ((0 ≤ v5) ∧ (v5 < (↑(List.length x1) : Int)) ∧ (if (!g22_0 (List.getD x0 (Int.toNat v5) (ByteArray.empty, ByteArray.empty, ByteArray.empty, ())) (List.getD x1 (Int.toNat v5) (ByteArray.empty, ByteArray.empty, ByteArray.empty, ()))) = true then (ds = [Dyn.mk Ty.bool Bool.false]) else ((InR IntKind.i64 (v5 + 1)) ∧ (R6_4 n (v5 + 1) (x0) (x1) ds))))) else (ds = [Dyn.mk Ty.bool Bool.true]))
end
theorem p6_0 (x0 : List (ByteArray × ByteArray × ByteArray × Unit)) (x1 : List (ByteArray × ByteArray × ByteArray × Unit)) : runF tab ext6 false 27 [] 2000 [] tys6 Tryz.f6.results [true] [.code b6] (entE 0 0 sig6 (x0, x1, ())) (entL sig6 (x0, x1, ())) = some ([Dyn.mk Ty.bool Bool.false], [], [((↑(List.length x0) : Int) != (↑(List.length x1) : Int)) = Bool.true]) := by kernel_rfl
theorem p6_1 (x0 : List (ByteArray × ByteArray × ByteArray × Unit)) (x1 : List (ByteArray × ByteArray × ByteArray × Unit)) : Am.runN tab ext6 false 27 [] 2000 [] [] [0, 1, 5] [] [false] [.code b6] (entE 0 0 sig6 (x0, x1, ())) (entL sig6 (x0, x1, ())) = some (cutAt b6 4, E6_4 (0) (x0) (x1), L6_4 (0) (x0) (x1), [((↑(List.length x0) : Int) != (↑(List.length x1) : Int)) = Bool.false]) := by kernel_rfl
theorem p6_2 (v5 : Int) (x0 : List (ByteArray × ByteArray × ByteArray × Unit)) (x1 : List (ByteArray × ByteArray × ByteArray × Unit)) : runF tab ext6 false 27 [] 2000 [] tys6 Tryz.f6.results [true, true] (cutAt b6 4) (E6_4 v5 x0 x1) (L6_4 v5 x0 x1) = some ([Dyn.mk Ty.bool Bool.false], [], [Decidable.decide (v5 < (↑(List.length x0) : Int)) = Bool.true, 0 ≤ v5, v5 < (↑(List.length x0) : Int), 0 ≤ v5, v5 < (↑(List.length x1) : Int), True, (!g22_0 (List.getD x0 (Int.toNat v5) (ByteArray.empty, ByteArray.empty, ByteArray.empty, ())) (List.getD x1 (Int.toNat v5) (ByteArray.empty, ByteArray.empty, ByteArray.empty, ()))) = Bool.true]) := by kernel_rfl
theorem p6_3 (v5 : Int) (x0 : List (ByteArray × ByteArray × ByteArray × Unit)) (x1 : List (ByteArray × ByteArray × ByteArray × Unit)) : Am.runN tab ext6 false 27 [] 2000 [] [] [0, 1, 5] [] [true, false] (cutAt b6 4) (E6_4 v5 x0 x1) (L6_4 v5 x0 x1) = some (cutAt b6 4, E6_4 (v5 + 1) (x0) (x1), L6_4 (v5 + 1) (x0) (x1), [Decidable.decide (v5 < (↑(List.length x0) : Int)) = Bool.true, 0 ≤ v5, v5 < (↑(List.length x0) : Int), 0 ≤ v5, v5 < (↑(List.length x1) : Int), True, (!g22_0 (List.getD x0 (Int.toNat v5) (ByteArray.empty, ByteArray.empty, ByteArray.empty, ())) (List.getD x1 (Int.toNat v5) (ByteArray.empty, ByteArray.empty, ByteArray.empty, ()))) = Bool.false, InR IntKind.i64 (v5 + 1)]) := by kernel_rfl
theorem p6_4 (v5 : Int) (x0 : List (ByteArray × ByteArray × ByteArray × Unit)) (x1 : List (ByteArray × ByteArray × ByteArray × Unit)) : runF tab ext6 false 27 [] 2000 [] tys6 Tryz.f6.results [false] (cutAt b6 4) (E6_4 v5 x0 x1) (L6_4 v5 x0 x1) = some ([Dyn.mk Ty.bool Bool.true], [], [Decidable.decide (v5 < (↑(List.length x0) : Int)) = Bool.false]) := by kernel_rfl
theorem snd6 : ∀ n, (∀ (x0 : List (ByteArray × ByteArray × ByteArray × Unit)) (x1 : List (ByteArray × ByteArray × ByteArray × Unit)) ds, R6 n x0 x1 ds → ∀ w0 O q, AtV Tryz.prog 6 (PostR ds [] [] q w0 O) 27 w0 O q [] [.code b6] (entE 0 0 sig6 (x0, x1, ())) (entL sig6 (x0, x1, ()))) ∧ (∀ (v5 : Int) (x0 : List (ByteArray × ByteArray × ByteArray × Unit)) (x1 : List (ByteArray × ByteArray × ByteArray × Unit)) ds, R6_4 n v5 x0 x1 ds → ∀ w0 O q, AtV Tryz.prog 6 (PostR ds [] [] q w0 O) 27 w0 O q [] (cutAt b6 4) (E6_4 v5 x0 x1) (L6_4 v5 x0 x1)) := by
  intro n
  induction n with
  | zero => exact ⟨fun _ _ _ h => by simp only [R6] at h, fun _ _ _ _ h => by simp only [R6_4] at h⟩
  | succ n ih =>
  obtain ⟨ih, ih4⟩ := ih
  refine ⟨?_, ?_⟩
  · intro x0 x1 ds h w0 O q
    rw [R6] at h
    by_cases b0 : ((↑(List.length x0) : Int) != (↑(List.length x1) : Int)) = true
    · rw [if_pos b0] at h
      subst h
      exact AtV.fin Tryz.func6 tabOk ext6Ok mixed (p6_0 x0 x1) ⟨b0, trivial⟩
    · rw [if_neg b0] at h
      replace b0 := Bool.eq_false_iff.2 b0
      exact AtV.runN tabOk ext6Ok mixed (p6_1 x0 x1) ⟨b0, trivial⟩ (ih4 _ _ _ _ h w0 O q)

  · intro v5 x0 x1 ds h w0 O q
    rw [R6_4] at h
    by_cases b0 : (Decidable.decide (v5 < (↑(List.length x0) : Int))) = true
    · rw [if_pos b0] at h
      obtain ⟨s0, s1, h⟩ := h
      obtain ⟨s2, s3, h⟩ := h
      by_cases b1 : (!g22_0 (List.getD x0 (Int.toNat v5) (ByteArray.empty, ByteArray.empty, ByteArray.empty, ())) (List.getD x1 (Int.toNat v5) (ByteArray.empty, ByteArray.empty, ByteArray.empty, ()))) = true
      · rw [if_pos b1] at h
        subst h
        exact AtV.fin Tryz.func6 tabOk ext6Ok mixed (p6_2 v5 x0 x1) ⟨b0, s0, s1, s2, s3, trivial, b1, trivial⟩
      · rw [if_neg b1] at h
        replace b1 := Bool.eq_false_iff.2 b1
        obtain ⟨s4, h⟩ := h
        exact AtV.runN tabOk ext6Ok mixed (p6_3 v5 x0 x1) ⟨b0, s0, s1, s2, s3, trivial, b1, s4, trivial⟩ (ih4 _ _ _ _ h w0 O q)
    · rw [if_neg b0] at h
      replace b0 := Bool.eq_false_iff.2 b0
      subst h
      exact AtV.fin Tryz.func6 tabOk ext6Ok mixed (p6_4 v5 x0 x1) ⟨b0, trivial⟩



theorem eq6 (x0 x1 : List (ByteArray × ByteArray × ByteArray × Unit)) (hl : x0.length = x1.length) (hm : x0.length ≤ maxLen) : ∀ k i : Nat, i + k = x0.length → R6_4 (k + 1) (i : Int) x0 x1 [⟨.bool, decide (x0.drop i = x1.drop i)⟩] := by
  intro k
  induction k with
  | zero =>
    intro i hi
    have h1 : ¬ (i : Int) < (x0.length : Int) := by omega
    rw [R6_4, if_neg (by simpa using h1), drop_end x0 i (by omega), drop_end x1 i (by omega)]
    simp
  | succ k ih =>
    intro i hi
    have h1 : (i : Int) < (x0.length : Int) := by omega
    rw [R6_4, if_pos (by simpa using h1)]
    refine ⟨by omega, h1, by omega, by omega, ?_⟩
    simp only [Int.toNat_natCast]
    rw [drop_get x0 i (ByteArray.empty, ByteArray.empty, ByteArray.empty, ()) (by omega), drop_get x1 i (ByteArray.empty, ByteArray.empty, ByteArray.empty, ()) (by omega)]
    by_cases he : x0.getD i (ByteArray.empty, ByteArray.empty, ByteArray.empty, ()) = x1.getD i (ByteArray.empty, ByteArray.empty, ByteArray.empty, ())
    · have hd := (eqd22 _ _).2 he
      rw [if_neg (by rw [hd]; simp)]
      refine ⟨inR_up hm (by omega), ?_⟩
      have := ih (i + 1) (by omega)
      simp only [he, List.cons.injEq, true_and]
      exact this
    · have hd : g22_0 (x0.getD i (ByteArray.empty, ByteArray.empty, ByteArray.empty, ())) (x1.getD i (ByteArray.empty, ByteArray.empty, ByteArray.empty, ())) = false :=
        Bool.eq_false_iff.2 fun h => he ((eqd22 _ _).1 h)
      rw [if_pos (by rw [hd]; rfl)]
      simp only [he, List.cons.injEq, false_and, decide_false]

def g6_0 (x0 x1 : List (ByteArray × ByteArray × ByteArray × Unit)) : Bool := decide (x0 = x1)
def P6 (x0 x1 : List (ByteArray × ByteArray × ByteArray × Unit)) : Prop := True
def S6 : Am.Spec := { sig := sig6, pre := fun ⟨x0, x1, _⟩ => P6 x0 x1, res := fun ⟨x0, x1, _⟩ => [⟨Ty.bool, g6_0 x0 x1⟩] }
theorem con6 : Contract Tryz.prog 6 S6 := contract_of Tryz.func6 hb6 (Nat.le_of_ble_eq_true (by kernel_rfl)) (fun ⟨x0, x1, _⟩ h hwf w0 O q => by
  refine (snd6 (x0.length + 2)).1 x0 x1 _ ?_ w0 O q
  show R6 (x0.length + 1 + 1) x0 x1 [⟨Ty.bool, decide (x0 = x1)⟩]
  rw [R6]
  by_cases hl : x0.length = x1.length
  · rw [if_neg (by simp [hl])]
    have := eq6 x0 x1 hl hwf.1.1 x0.length 0 (by omega)
    simpa using this
  · rw [if_pos (by simp; omega)]
    have : x0 ≠ x1 := fun h => hl (by rw [h])
    simp [this])

end Go.Proofs.YtcppjmlhilklcaaGreatDoor

/- Function 23 (laws.markText): its runs between cut points. Written by a program of this repo (gen). -/
set_option linter.unusedVariables false
set_option linter.unusedSimpArgs false
set_option maxRecDepth 100000
namespace Go.Proofs.YtcppjmlhilklcaaGreatDoor
open Go Go.Am Go.Proofs
def ext23 : Ext := []
theorem ext23Ok : ExtOk Tryz.prog ext23 := trivial
/-! Function 23. -/
noncomputable def b23 : Code := bodyOf Tryz.f23
theorem hb23 : Tryz.f23.body = some b23 := by kernel_rfl
def sig23 : List AT := [AT.v (Ty.int IntKind.i64)]
def tys23 : List Ty := [Ty.str]
def E23_4 (v3 : ByteArray) (x0 : Int) : Env := [(0, PV.a (Atom.val (Value.int IntKind.i64 x0))), (3, PV.a (Atom.val (Value.string v3)))]
def L23_4 (v3 : ByteArray) (x0 : Int) : Heap := []
mutual
def R23 : Nat → Int → List Dyn → Prop
  | 0, _, _ => False
  | n + 1, x0, ds => (if (Decidable.decide (x0 ≤ 0)) = true then (ds = [Dyn.mk Ty.str (ByteArray.mk #[109, 48])]) else (R23_4 n (ByteArray.mk #[]) (x0) ds))
def R23_4 : Nat → ByteArray → Int → List Dyn → Prop
  | 0, _, _, _ => False
  | n + 1, v3, x0, ds => (if (Decidable.decide (x0 > 0)) = true then ((InR IntKind.i64 (Int.tmod x0 10)) ∧ ((InR IntKind.i64 (48 + Int.tmod x0 10)) ∧ ((InR IntKind.u8 (48 + Int.tmod x0 10)) ∧ ((ByteArray.size (bytesStr [48 + Int.tmod x0 10]) + ByteArray.size v3 ≤ 9223372036854775807) ∧ ((InR IntKind.i64 (Int.tdiv x0 10)) ∧ (R23_4 n (bytesStr [48 + Int.tmod x0 10] ++ v3) (Int.tdiv x0 10) ds)))))) else ((1 + ByteArray.size v3 ≤ 9223372036854775807) ∧ (ds = [Dyn.mk Ty.str (ByteArray.mk #[109] ++ v3)])))
end
theorem p23_0 (x0 : Int) : runF tab ext23 false 20 [] 2000 [] tys23 Tryz.f23.results [true] [.code b23] (entE 0 0 sig23 (x0, ())) (entL sig23 (x0, ())) = some ([Dyn.mk Ty.str (ByteArray.mk #[109, 48])], [], [Decidable.decide (x0 ≤ 0) = Bool.true]) := by kernel_rfl
theorem p23_1 (x0 : Int) : Am.runN tab ext23 false 20 [] 2000 [] [] [0, 3] [] [false] [.code b23] (entE 0 0 sig23 (x0, ())) (entL sig23 (x0, ())) = some (cutAt b23 4, E23_4 (ByteArray.mk #[]) (x0), L23_4 (ByteArray.mk #[]) (x0), [Decidable.decide (x0 ≤ 0) = Bool.false]) := by kernel_rfl
theorem p23_2 (v3 : ByteArray) (x0 : Int) : Am.runN tab ext23 false 20 [] 2000 [] [] [0, 3] [] [true] (cutAt b23 4) (E23_4 v3 x0) (L23_4 v3 x0) = some (cutAt b23 4, E23_4 (bytesStr [48 + Int.tmod x0 10] ++ v3) (Int.tdiv x0 10), L23_4 (bytesStr [48 + Int.tmod x0 10] ++ v3) (Int.tdiv x0 10), [Decidable.decide (x0 > 0) = Bool.true, (10 : Int) ≠ (0 : Int), InR IntKind.i64 (Int.tmod x0 10), InR IntKind.i64 (48 + Int.tmod x0 10), InR IntKind.u8 (48 + Int.tmod x0 10), ByteArray.size (bytesStr [48 + Int.tmod x0 10]) + ByteArray.size v3 ≤ 9223372036854775807, (10 : Int) ≠ (0 : Int), InR IntKind.i64 (Int.tdiv x0 10)]) := by kernel_rfl
theorem p23_3 (v3 : ByteArray) (x0 : Int) : runF tab ext23 false 20 [] 2000 [] tys23 Tryz.f23.results [false] (cutAt b23 4) (E23_4 v3 x0) (L23_4 v3 x0) = some ([Dyn.mk Ty.str (ByteArray.mk #[109] ++ v3)], [], [Decidable.decide (x0 > 0) = Bool.false, 1 + ByteArray.size v3 ≤ 9223372036854775807]) := by kernel_rfl
theorem snd23 : ∀ n, (∀ (x0 : Int) ds, R23 n x0 ds → ∀ w0 O q, AtV Tryz.prog 23 (PostR ds [] [] q w0 O) 20 w0 O q [] [.code b23] (entE 0 0 sig23 (x0, ())) (entL sig23 (x0, ()))) ∧ (∀ (v3 : ByteArray) (x0 : Int) ds, R23_4 n v3 x0 ds → ∀ w0 O q, AtV Tryz.prog 23 (PostR ds [] [] q w0 O) 20 w0 O q [] (cutAt b23 4) (E23_4 v3 x0) (L23_4 v3 x0)) := by
  intro n
  induction n with
  | zero => exact ⟨fun _ _ h => by simp only [R23] at h, fun _ _ _ h => by simp only [R23_4] at h⟩
  | succ n ih =>
  obtain ⟨ih, ih4⟩ := ih
  refine ⟨?_, ?_⟩
  · intro x0 ds h w0 O q
    rw [R23] at h
    by_cases b0 : (Decidable.decide (x0 ≤ 0)) = true
    · rw [if_pos b0] at h
      subst h
      exact AtV.fin Tryz.func23 tabOk ext23Ok mixed (p23_0 x0) ⟨b0, trivial⟩
    · rw [if_neg b0] at h
      replace b0 := Bool.eq_false_iff.2 b0
      exact AtV.runN tabOk ext23Ok mixed (p23_1 x0) ⟨b0, trivial⟩ (ih4 _ _ _ h w0 O q)

  · intro v3 x0 ds h w0 O q
    rw [R23_4] at h
    by_cases b0 : (Decidable.decide (x0 > 0)) = true
    · rw [if_pos b0] at h
      obtain ⟨s0, h⟩ := h
      obtain ⟨s1, h⟩ := h
      obtain ⟨s2, h⟩ := h
      obtain ⟨s3, h⟩ := h
      obtain ⟨s4, h⟩ := h
      exact AtV.runN tabOk ext23Ok mixed (p23_2 v3 x0) ⟨b0, (by decide), s0, s1, s2, s3, (by decide), s4, trivial⟩ (ih4 _ _ _ h w0 O q)
    · rw [if_neg b0] at h
      replace b0 := Bool.eq_false_iff.2 b0
      obtain ⟨s0, h⟩ := h
      subst h
      exact AtV.fin Tryz.func23 tabOk ext23Ok mixed (p23_3 v3 x0) ⟨b0, s0, trivial⟩



def loop23 : Nat → ByteArray → Int → ByteArray
  | 0, v, _ => v
  | n + 1, v, x => if 0 < x then loop23 n (bytesStr [48 + Int.tmod x 10] ++ v) (Int.tdiv x 10) else v

theorem run23 : ∀ (n : Nat) (v : ByteArray) (x : Int), x < 10 ^ n → InR .i64 x → v.size + n ≤ 1000 → R23_4 (n + 1) v x [⟨.str, ByteArray.mk #[109] ++ loop23 n v x⟩] := by
  intro n
  induction n with
  | zero =>
    intro v x h1 _ h2
    rw [R23_4, if_neg (by simp at h1 ⊢; omega)]
    exact ⟨by omega, rfl⟩
  | succ n ih =>
    intro v x h1 hi h2
    rw [i64_iff] at hi
    rw [R23_4]
    by_cases hx : 0 < x
    · rw [if_pos (by simpa using hx)]
      have e1 : Int.tmod x 10 = x % 10 := Int.tmod_eq_emod_of_nonneg (by omega)
      have e2 : Int.tdiv x 10 = x / 10 := Int.tdiv_eq_ediv_of_nonneg (by omega)
      have hs : (bytesStr [48 + Int.tmod x 10]).size = 1 := bytesStr_size _
      have hp : (10 : Int) ^ (n + 1) = 10 * 10 ^ n := by rw [Int.pow_succ, Int.mul_comm]
      refine ⟨by rw [i64_iff, e1]; omega, by rw [i64_iff, e1]; omega, by rw [u8_iff, e1]; omega, by rw [hs]; omega, by rw [i64_iff, e2]; omega, ?_⟩
      have := ih (bytesStr [48 + Int.tmod x 10] ++ v) (Int.tdiv x 10) (by rw [e2]; omega) (by rw [i64_iff, e2]; omega) (by rw [ByteArray.size_append, hs]; omega)
      simp only [loop23, if_pos hx]
      exact this
    · rw [if_neg (by simp; omega)]
      simp only [loop23, if_neg hx]
      exact ⟨by omega, trivial⟩

def g23_0 (x0 : Int) : ByteArray := if x0 ≤ 0 then ByteArray.mk #[109, 48] else ByteArray.mk #[109] ++ loop23 19 (ByteArray.mk #[]) x0
def P23 (x0 : Int) : Prop := True

theorem top23 (x0 : Int) (hi : InR .i64 x0) : R23 21 x0 [⟨.str, g23_0 x0⟩] := by
  rw [R23]
  unfold g23_0
  by_cases h : x0 ≤ 0
  · rw [if_pos (by simpa using h), if_pos h]
  · rw [if_neg (by simpa using h), if_neg h]
    have hi' := hi
    rw [i64_iff] at hi'
    exact run23 19 _ x0 (by omega) hi (by decide)

def S23 : Am.Spec := { sig := sig23, pre := fun ⟨x0, _⟩ => P23 x0, res := fun ⟨x0, _⟩ => [⟨.str, g23_0 x0⟩] }
theorem con23 : Contract Tryz.prog 23 S23 := contract_of Tryz.func23 hb23 (Nat.le_of_ble_eq_true (by kernel_rfl)) (fun ⟨x0, _⟩ h hwf w0 O q =>
  (snd23 _).1 x0 _ (top23 x0 hwf.1) w0 O q)

end Go.Proofs.YtcppjmlhilklcaaGreatDoor

/- Function 7 (laws.markBlockS): its runs between cut points. Written by a program of this repo (gen). -/
set_option linter.unusedVariables false
set_option linter.unusedSimpArgs false
set_option maxRecDepth 100000
namespace Go.Proofs.YtcppjmlhilklcaaGreatDoor
open Go Go.Am Go.Proofs
def ext7 : Ext := [(23, S23)]
theorem call7_23 : Callable Tryz.prog 23 := ⟨Tryz.f23, Tryz.func23, by kernel_rfl, by kernel_rfl⟩
theorem ext7Ok : ExtOk Tryz.prog ext7 := ⟨⟨call7_23, con23⟩, trivial⟩
/-! Function 7. -/
noncomputable def b7 : Code := bodyOf Tryz.f7
theorem hb7 : Tryz.f7.body = some b7 := by kernel_rfl
def sig7 : List AT := [AT.own (Ty.cons Ty.str (Ty.cons Ty.str (Ty.cons Ty.str Ty.unit))), AT.v (Ty.int IntKind.i64)]
def tys7 : List Ty := [Ty.int IntKind.i64]
def E7_2 (v5 : Int) (x1 : Int) (x0 : List (ByteArray × ByteArray × ByteArray × Unit)) : Env := [(0, PV.a (Atom.osl 0 Option.none)), (1, PV.a (Atom.val (Value.int IntKind.i64 x1))), (5, PV.a (Atom.val (Value.int IntKind.i64 v5)))]
def L7_2 (v5 : Int) (x1 : Int) (x0 : List (ByteArray × ByteArray × ByteArray × Unit)) : Heap := [Option.some (Arr.mk (Ty.cons Ty.str (Ty.cons Ty.str (Ty.cons Ty.str Ty.unit))) x0 Bool.false)]
mutual
def R7 : Nat → List (ByteArray × ByteArray × ByteArray × Unit) → Int → List Dyn → List (Option Lst) → Prop
  | 0, _, _, _, _ => False
  | n + 1, x0, x1, ds, us => (R7_2 n (0) (x1) (x0) ds us)
def R7_2 : Nat → Int → Int → List (ByteArray × ByteArray × ByteArray × Unit) → List Dyn → List (Option Lst) → Prop
  | 0, _, _, _, _, _ => False
  | n + 1, v5, x1, x0, ds, us => (if (Decidable.decide (v5 < (↑(List.length x0) : Int))) = true then ((0 ≤ v5) ∧ (v5 < (↑(List.length x0) : Int)) ∧ ((InR IntKind.i64 (x1 + 1)) ∧ ((0 ≤ v5) ∧ (v5 < (↑(List.length (List.set x0 (Int.toNat v5) (g23_0 x1, Prod.snd (List.getD x0 (Int.toNat v5) (ByteArray.empty, ByteArray.empty, ByteArray.empty, ()))))) : Int)) ∧ ((InR IntKind.i64 (x1 + 1 + 1)) ∧ ((0 ≤ v5) ∧ (v5 < (↑(List.length (List.set (List.set x0 (Int.toNat v5) (g23_0 x1, Prod.snd (List.getD x0 (Int.toNat v5) (ByteArray.empty, ByteArray.empty, ByteArray.empty, ())))) (Int.toNat v5) (Prod.fst (List.getD (List.set x0 (Int.toNat v5) (g23_0 x1, Prod.snd (List.getD x0 (Int.toNat v5) (ByteArray.empty, ByteArray.empty, ByteArray.empty, ())))) (Int.toNat v5) (ByteArray.empty, ByteArray.empty, ByteArray.empty, ())), g23_0 (x1 + 1), Prod.snd (Prod.snd (List.getD (List.set x0 (Int.toNat v5) (g23_0 x1, Prod.snd (List.getD x0 (Int.toNat v5) (ByteArray.empty, ByteArray.empty, ByteArray.empty, ())))) (Int.toNat v5) (ByteArray.empty, ByteArray.empty, ByteArray.empty, ())))))) : Int)) ∧ ((InR IntKind.i64 (x1 + 1 + 1 + 1)) ∧ ((InR IntKind.i64 (v5 + 1)) ∧ (R7_2 n (v5 + 1) (x1 + 1 + 1 + 1) (List.set (List.set (List.set x0 (Int.toNat v5) (g23_0 x1, Prod.snd (List.getD x0 (Int.toNat v5) (ByteArray.empty, ByteArray.empty, ByteArray.empty, ())))) (Int.toNat v5) (Prod.fst (List.getD (List.set x0 (Int.toNat v5) (g23_0 x1, Prod.snd (List.getD x0 (Int.toNat v5) (ByteArray.empty, ByteArray.empty, ByteArray.empty, ())))) (Int.toNat v5) (ByteArray.empty, ByteArray.empty, ByteArray.empty, ())), g23_0 (x1 + 1), Prod.snd (Prod.snd (List.getD (List.set x0 (Int.toNat v5) (g23_0 x1, Prod.snd (List.getD x0 (Int.toNat v5) (ByteArray.empty, ByteArray.empty, ByteArray.empty, ())))) (Int.toNat v5) (ByteArray.empty, ByteArray.empty, ByteArray.empty, ()))))) (Int.toNat v5) (Prod.fst (List.getD (List.set (List.set x0 (Int.toNat v5) (g23_0 x1, Prod.snd (List.getD x0 (Int.toNat v5) (ByteArray.empty, ByteArray.empty, ByteArray.empty, ())))) (Int.toNat v5) (Prod.fst (List.getD (List.set x0 (Int.toNat v5) (g23_0 x1, Prod.snd (List.getD x0 (Int.toNat v5) (ByteArray.empty, ByteArray.empty, ByteArray.empty, ())))) (Int.toNat v5) (ByteArray.empty, ByteArray.empty, ByteArray.empty, ())), g23_0 (x1 + 1), Prod.snd (Prod.snd (List.getD (List.set x0 (Int.toNat v5) (g23_0 x1, Prod.snd (List.getD x0 (Int.toNat v5) (ByteArray.empty, ByteArray.empty, ByteArray.empty, ())))) (Int.toNat v5) (ByteArray.empty, ByteArray.empty, ByteArray.empty, ()))))) (Int.toNat v5) (ByteArray.empty, ByteArray.empty, ByteArray.empty, ())), Prod.fst (Prod.snd (List.getD (List.set (List.set x0 (Int.toNat v5) (g23_0 x1, Prod.snd (List.getD x0 (Int.toNat v5) (ByteArray.empty, ByteArray.empty, ByteArray.empty, ())))) (Int.toNat v5) (Prod.fst (List.getD (List.set x0 (Int.toNat v5) (g23_0 x1, Prod.snd (List.getD x0 (Int.toNat v5) (ByteArray.empty, ByteArray.empty, ByteArray.empty, ())))) (Int.toNat v5) (ByteArray.empty, ByteArray.empty, ByteArray.empty, ())), g23_0 (x1 + 1), Prod.snd (Prod.snd (List.getD (List.set x0 (Int.toNat v5) (g23_0 x1, Prod.snd (List.getD x0 (Int.toNat v5) (ByteArray.empty, ByteArray.empty, ByteArray.empty, ())))) (Int.toNat v5) (ByteArray.empty, ByteArray.empty, ByteArray.empty, ()))))) (Int.toNat v5) (ByteArray.empty, ByteArray.empty, ByteArray.empty, ()))), g23_0 (x1 + 1 + 1), Prod.snd (Prod.snd (Prod.snd (List.getD (List.set (List.set x0 (Int.toNat v5) (g23_0 x1, Prod.snd (List.getD x0 (Int.toNat v5) (ByteArray.empty, ByteArray.empty, ByteArray.empty, ())))) (Int.toNat v5) (Prod.fst (List.getD (List.set x0 (Int.toNat v5) (g23_0 x1, Prod.snd (List.getD x0 (Int.toNat v5) (ByteArray.empty, ByteArray.empty, ByteArray.empty, ())))) (Int.toNat v5) (ByteArray.empty, ByteArray.empty, ByteArray.empty, ())), g23_0 (x1 + 1), Prod.snd (Prod.snd (List.getD (List.set x0 (Int.toNat v5) (g23_0 x1, Prod.snd (List.getD x0 (Int.toNat v5) (ByteArray.empty, ByteArray.empty, ByteArray.empty, ())))) (Int.toNat v5) (ByteArray.empty, ByteArray.empty, ByteArray.empty, ()))))) (Int.toNat v5) (ByteArray.empty, ByteArray.empty, ByteArray.empty, ())))))) ds us)))))))) else (ds = [Dyn.mk (Ty.int IntKind.i64) x1] ∧ us = [Option.some (Lst.mk (Ty.cons Ty.str (Ty.cons Ty.str (Ty.cons Ty.str Ty.unit))) x0)]))
end
theorem p7_0 (x0 : List (ByteArray × ByteArray × ByteArray × Unit)) (x1 : Int) : Am.runN tab ext7 false 37 [] 2000 [0] [] [0, 1, 5] [0] [] [.code b7] (entE 0 0 sig7 (x0, x1, ())) (entL sig7 (x0, x1, ())) = some (cutAt b7 2, E7_2 (0) (x1) (x0), L7_2 (0) (x1) (x0), []) := by kernel_rfl
theorem p7_1 (v5 : Int) (x1 : Int) (x0 : List (ByteArray × ByteArray × ByteArray × Unit)) : Am.runN tab ext7 false 37 [] 2000 [0] [] [0, 1, 5] [0] [true] (cutAt b7 2) (E7_2 v5 x1 x0) (L7_2 v5 x1 x0) = some (cutAt b7 2, E7_2 (v5 + 1) (x1 + 1 + 1 + 1) (List.set (List.set (List.set x0 (Int.toNat v5) (g23_0 x1, Prod.snd (List.getD x0 (Int.toNat v5) (ByteArray.empty, ByteArray.empty, ByteArray.empty, ())))) (Int.toNat v5) (Prod.fst (List.getD (List.set x0 (Int.toNat v5) (g23_0 x1, Prod.snd (List.getD x0 (Int.toNat v5) (ByteArray.empty, ByteArray.empty, ByteArray.empty, ())))) (Int.toNat v5) (ByteArray.empty, ByteArray.empty, ByteArray.empty, ())), g23_0 (x1 + 1), Prod.snd (Prod.snd (List.getD (List.set x0 (Int.toNat v5) (g23_0 x1, Prod.snd (List.getD x0 (Int.toNat v5) (ByteArray.empty, ByteArray.empty, ByteArray.empty, ())))) (Int.toNat v5) (ByteArray.empty, ByteArray.empty, ByteArray.empty, ()))))) (Int.toNat v5) (Prod.fst (List.getD (List.set (List.set x0 (Int.toNat v5) (g23_0 x1, Prod.snd (List.getD x0 (Int.toNat v5) (ByteArray.empty, ByteArray.empty, ByteArray.empty, ())))) (Int.toNat v5) (Prod.fst (List.getD (List.set x0 (Int.toNat v5) (g23_0 x1, Prod.snd (List.getD x0 (Int.toNat v5) (ByteArray.empty, ByteArray.empty, ByteArray.empty, ())))) (Int.toNat v5) (ByteArray.empty, ByteArray.empty, ByteArray.empty, ())), g23_0 (x1 + 1), Prod.snd (Prod.snd (List.getD (List.set x0 (Int.toNat v5) (g23_0 x1, Prod.snd (List.getD x0 (Int.toNat v5) (ByteArray.empty, ByteArray.empty, ByteArray.empty, ())))) (Int.toNat v5) (ByteArray.empty, ByteArray.empty, ByteArray.empty, ()))))) (Int.toNat v5) (ByteArray.empty, ByteArray.empty, ByteArray.empty, ())), Prod.fst (Prod.snd (List.getD (List.set (List.set x0 (Int.toNat v5) (g23_0 x1, Prod.snd (List.getD x0 (Int.toNat v5) (ByteArray.empty, ByteArray.empty, ByteArray.empty, ())))) (Int.toNat v5) (Prod.fst (List.getD (List.set x0 (Int.toNat v5) (g23_0 x1, Prod.snd (List.getD x0 (Int.toNat v5) (ByteArray.empty, ByteArray.empty, ByteArray.empty, ())))) (Int.toNat v5) (ByteArray.empty, ByteArray.empty, ByteArray.empty, ())), g23_0 (x1 + 1), Prod.snd (Prod.snd (List.getD (List.set x0 (Int.toNat v5) (g23_0 x1, Prod.snd (List.getD x0 (Int.toNat v5) (ByteArray.empty, ByteArray.empty, ByteArray.empty, ())))) (Int.toNat v5) (ByteArray.empty, ByteArray.empty, ByteArray.empty, ()))))) (Int.toNat v5) (ByteArray.empty, ByteArray.empty, ByteArray.empty, ()))), g23_0 (x1 + 1 + 1), Prod.snd (Prod.snd (Prod.snd (List.getD (List.set (List.set x0 (Int.toNat v5) (g23_0 x1, Prod.snd (List.getD x0 (Int.toNat v5) (ByteArray.empty, ByteArray.empty, ByteArray.empty, ())))) (Int.toNat v5) (Prod.fst (List.getD (List.set x0 (Int.toNat v5) (g23_0 x1, Prod.snd (List.getD x0 (Int.toNat v5) (ByteArray.empty, ByteArray.empty, ByteArray.empty, ())))) (Int.toNat v5) (ByteArray.empty, ByteArray.empty, ByteArray.empty, ())), g23_0 (x1 + 1), Prod.snd (Prod.snd (List.getD (List.set x0 (Int.toNat v5) (g23_0 x1, Prod.snd (List.getD x0 (Int.toNat v5) (ByteArray.empty, ByteArray.empty, ByteArray.empty, ())))) (Int.toNat v5) (ByteArray.empty, ByteArray.empty, ByteArray.empty, ()))))) (Int.toNat v5) (ByteArray.empty, ByteArray.empty, ByteArray.empty, ())))))), L7_2 (v5 + 1) (x1 + 1 + 1 + 1) (List.set (List.set (List.set x0 (Int.toNat v5) (g23_0 x1, Prod.snd (List.getD x0 (Int.toNat v5) (ByteArray.empty, ByteArray.empty, ByteArray.empty, ())))) (Int.toNat v5) (Prod.fst (List.getD (List.set x0 (Int.toNat v5) (g23_0 x1, Prod.snd (List.getD x0 (Int.toNat v5) (ByteArray.empty, ByteArray.empty, ByteArray.empty, ())))) (Int.toNat v5) (ByteArray.empty, ByteArray.empty, ByteArray.empty, ())), g23_0 (x1 + 1), Prod.snd (Prod.snd (List.getD (List.set x0 (Int.toNat v5) (g23_0 x1, Prod.snd (List.getD x0 (Int.toNat v5) (ByteArray.empty, ByteArray.empty, ByteArray.empty, ())))) (Int.toNat v5) (ByteArray.empty, ByteArray.empty, ByteArray.empty, ()))))) (Int.toNat v5) (Prod.fst (List.getD (List.set (List.set x0 (Int.toNat v5) (g23_0 x1, Prod.snd (List.getD x0 (Int.toNat v5) (ByteArray.empty, ByteArray.empty, ByteArray.empty, ())))) (Int.toNat v5) (Prod.fst (List.getD (List.set x0 (Int.toNat v5) (g23_0 x1, Prod.snd (List.getD x0 (Int.toNat v5) (ByteArray.empty, ByteArray.empty, ByteArray.empty, ())))) (Int.toNat v5) (ByteArray.empty, ByteArray.empty, ByteArray.empty, ())), g23_0 (x1 + 1), Prod.snd (Prod.snd (List.getD (List.set x0 (Int.toNat v5) (g23_0 x1, Prod.snd (List.getD x0 (Int.toNat v5) (ByteArray.empty, ByteArray.empty, ByteArray.empty, ())))) (Int.toNat v5) (ByteArray.empty, ByteArray.empty, ByteArray.empty, ()))))) (Int.toNat v5) (ByteArray.empty, ByteArray.empty, ByteArray.empty, ())), Prod.fst (Prod.snd (List.getD (List.set (List.set x0 (Int.toNat v5) (g23_0 x1, Prod.snd (List.getD x0 (Int.toNat v5) (ByteArray.empty, ByteArray.empty, ByteArray.empty, ())))) (Int.toNat v5) (Prod.fst (List.getD (List.set x0 (Int.toNat v5) (g23_0 x1, Prod.snd (List.getD x0 (Int.toNat v5) (ByteArray.empty, ByteArray.empty, ByteArray.empty, ())))) (Int.toNat v5) (ByteArray.empty, ByteArray.empty, ByteArray.empty, ())), g23_0 (x1 + 1), Prod.snd (Prod.snd (List.getD (List.set x0 (Int.toNat v5) (g23_0 x1, Prod.snd (List.getD x0 (Int.toNat v5) (ByteArray.empty, ByteArray.empty, ByteArray.empty, ())))) (Int.toNat v5) (ByteArray.empty, ByteArray.empty, ByteArray.empty, ()))))) (Int.toNat v5) (ByteArray.empty, ByteArray.empty, ByteArray.empty, ()))), g23_0 (x1 + 1 + 1), Prod.snd (Prod.snd (Prod.snd (List.getD (List.set (List.set x0 (Int.toNat v5) (g23_0 x1, Prod.snd (List.getD x0 (Int.toNat v5) (ByteArray.empty, ByteArray.empty, ByteArray.empty, ())))) (Int.toNat v5) (Prod.fst (List.getD (List.set x0 (Int.toNat v5) (g23_0 x1, Prod.snd (List.getD x0 (Int.toNat v5) (ByteArray.empty, ByteArray.empty, ByteArray.empty, ())))) (Int.toNat v5) (ByteArray.empty, ByteArray.empty, ByteArray.empty, ())), g23_0 (x1 + 1), Prod.snd (Prod.snd (List.getD (List.set x0 (Int.toNat v5) (g23_0 x1, Prod.snd (List.getD x0 (Int.toNat v5) (ByteArray.empty, ByteArray.empty, ByteArray.empty, ())))) (Int.toNat v5) (ByteArray.empty, ByteArray.empty, ByteArray.empty, ()))))) (Int.toNat v5) (ByteArray.empty, ByteArray.empty, ByteArray.empty, ())))))), [Decidable.decide (v5 < (↑(List.length x0) : Int)) = Bool.true, True, 0 ≤ v5, v5 < (↑(List.length x0) : Int), InR IntKind.i64 (x1 + 1), True, 0 ≤ v5, v5 < (↑(List.length (List.set x0 (Int.toNat v5) (g23_0 x1, Prod.snd (List.getD x0 (Int.toNat v5) (ByteArray.empty, ByteArray.empty, ByteArray.empty, ()))))) : Int), InR IntKind.i64 (x1 + 1 + 1), True, 0 ≤ v5, v5 < (↑(List.length (List.set (List.set x0 (Int.toNat v5) (g23_0 x1, Prod.snd (List.getD x0 (Int.toNat v5) (ByteArray.empty, ByteArray.empty, ByteArray.empty, ())))) (Int.toNat v5) (Prod.fst (List.getD (List.set x0 (Int.toNat v5) (g23_0 x1, Prod.snd (List.getD x0 (Int.toNat v5) (ByteArray.empty, ByteArray.empty, ByteArray.empty, ())))) (Int.toNat v5) (ByteArray.empty, ByteArray.empty, ByteArray.empty, ())), g23_0 (x1 + 1), Prod.snd (Prod.snd (List.getD (List.set x0 (Int.toNat v5) (g23_0 x1, Prod.snd (List.getD x0 (Int.toNat v5) (ByteArray.empty, ByteArray.empty, ByteArray.empty, ())))) (Int.toNat v5) (ByteArray.empty, ByteArray.empty, ByteArray.empty, ())))))) : Int), InR IntKind.i64 (x1 + 1 + 1 + 1), InR IntKind.i64 (v5 + 1)]) := by kernel_rfl
theorem p7_2 (v5 : Int) (x1 : Int) (x0 : List (ByteArray × ByteArray × ByteArray × Unit)) : runF tab ext7 false 37 [] 2000 [0] tys7 Tryz.f7.results [false] (cutAt b7 2) (E7_2 v5 x1 x0) (L7_2 v5 x1 x0) = some ([Dyn.mk (Ty.int IntKind.i64) x1], [Option.some (Lst.mk (Ty.cons Ty.str (Ty.cons Ty.str (Ty.cons Ty.str Ty.unit))) x0)], [Decidable.decide (v5 < (↑(List.length x0) : Int)) = Bool.false]) := by kernel_rfl
theorem snd7 : ∀ n, (∀ (x0 : List (ByteArray × ByteArray × ByteArray × Unit)) (x1 : Int) ds us, R7 n x0 x1 ds us → ∀ w0 O q, AtV Tryz.prog 7 (PostR ds us [0] q w0 O) 37 w0 O q [0] [.code b7] (entE 0 0 sig7 (x0, x1, ())) (entL sig7 (x0, x1, ()))) ∧ (∀ (v5 : Int) (x1 : Int) (x0 : List (ByteArray × ByteArray × ByteArray × Unit)) ds us, R7_2 n v5 x1 x0 ds us → ∀ w0 O q, AtV Tryz.prog 7 (PostR ds us [0] q w0 O) 37 w0 O q [0] (cutAt b7 2) (E7_2 v5 x1 x0) (L7_2 v5 x1 x0)) := by
  intro n
  induction n with
  | zero => exact ⟨fun _ _ _ _ h => by simp only [R7] at h, fun _ _ _ _ _ h => by simp only [R7_2] at h⟩
  | succ n ih =>
  obtain ⟨ih, ih2⟩ := ih
  refine ⟨?_, ?_⟩
  · intro x0 x1 ds us h w0 O q
    rw [R7] at h
    exact AtV.runN tabOk ext7Ok mixed (p7_0 x0 x1) trivial (ih2 _ _ _ _ _ h w0 O q)

  · intro v5 x1 x0 ds us h w0 O q
    rw [R7_2] at h
    by_cases b0 : (Decidable.decide (v5 < (↑(List.length x0) : Int))) = true
    · rw [if_pos b0] at h
      obtain ⟨s0, s1, h⟩ := h
      obtain ⟨s2, h⟩ := h
      obtain ⟨s3, s4, h⟩ := h
      obtain ⟨s5, h⟩ := h
      obtain ⟨s6, s7, h⟩ := h
      obtain ⟨s8, h⟩ := h
      obtain ⟨s9, h⟩ := h
      exact AtV.runN tabOk ext7Ok mixed (p7_1 v5 x1 x0) ⟨b0, trivial, s0, s1, s2, trivial, s3, s4, s5, trivial, s6, s7, s8, s9, trivial⟩ (ih2 _ _ _ _ _ h w0 O q)
    · rw [if_neg b0] at h
      replace b0 := Bool.eq_false_iff.2 b0
      obtain ⟨h, h'⟩ := h; subst h; subst h'
      exact AtV.fin Tryz.func7 tabOk ext7Ok mixed (p7_2 v5 x1 x0) ⟨b0, trivial⟩



def M7 (x1 : Int) (n : Nat) : List (ByteArray × ByteArray × ByteArray × Unit) := (List.range n).map fun (j : Nat) => (g23_0 (x1 + 3 * (j : Int)), g23_0 (x1 + 3 * (j : Int) + 1), g23_0 (x1 + 3 * (j : Int) + 1 + 1), ())

theorem M7_len (x1 : Int) (n : Nat) : (M7 x1 n).length = n := by simp [M7]

theorem M7_succ (x1 : Int) (n : Nat) : M7 x1 (n + 1) = M7 x1 n ++ [(g23_0 (x1 + 3 * (n : Int)), g23_0 (x1 + 3 * (n : Int) + 1), g23_0 (x1 + 3 * (n : Int) + 1 + 1), ())] := by
  simp [M7, List.range_succ]

theorem run7 (x0 : List (ByteArray × ByteArray × ByteArray × Unit)) (x1 : Int) (hm : x0.length ≤ maxLen) (h0 : 0 ≤ x1) (h1 : x1 + 3 * x0.length ≤ 9223372036854775807) : ∀ (k i : Nat), i + k = x0.length →
    R7_2 (k + 1) (i : Int) (x1 + 3 * (i : Int)) (M7 x1 i ++ x0.drop i) [⟨.int .i64, x1 + 3 * (x0.length : Int)⟩] [some ⟨(.cons .str (.cons .str (.cons .str .unit))), M7 x1 x0.length⟩] := by
  intro k
  induction k with
  | zero =>
    intro i hi
    have hl : (M7 x1 i ++ x0.drop i).length = x0.length := by simp [M7_len]; omega
    rw [R7_2, if_neg (by rw [hl]; simp; omega), drop_end x0 i (by omega), List.append_nil]
    have : i = x0.length := by omega
    subst this
    exact ⟨rfl, rfl⟩
  | succ k ih =>
    intro i hi
    have hl : (M7 x1 i ++ x0.drop i).length = x0.length := by simp [M7_len]; omega
    have hA := M7_len x1 i
    rw [R7_2, if_pos (by rw [hl]; simp; omega)]
    rw [drop_get x0 i (ByteArray.empty, ByteArray.empty, ByteArray.empty, ()) (by omega)] at hl ⊢
    simp only [Int.toNat_natCast, set_mid _ _ _ _ i hA, get_mid _ _ _ _ i hA]
    have hl' : ∀ y : (ByteArray × ByteArray × ByteArray × Unit), ((M7 x1 i ++ y :: x0.drop (i + 1)).length : Int) = x0.length := fun y => by rw [← hl]; simp
    simp only [hl']
    refine ⟨by omega, by omega, by rw [i64_iff]; omega, by omega, by omega, by rw [i64_iff]; omega, by omega, by omega, by rw [i64_iff]; omega, inR_up hm (by omega), ?_⟩
    have hx : x1 + 3 * (i : Int) + 1 + 1 + 1 = x1 + 3 * ((i + 1 : Nat) : Int) := by omega
    have := ih (i + 1) (by omega)
    rw [M7_succ, List.append_assoc] at this
    rw [hx]
    simpa using this

def P7 (x0 : List (ByteArray × ByteArray × ByteArray × Unit)) (x1 : Int) : Prop := 0 ≤ x1 ∧ x1 + 3 * x0.length ≤ 9223372036854775807
def g7_0 (x0 : List (ByteArray × ByteArray × ByteArray × Unit)) (x1 : Int) : Int := x1 + 3 * (x0.length : Int)
def u7_0 (x0 : List (ByteArray × ByteArray × ByteArray × Unit)) (x1 : Int) : List (ByteArray × ByteArray × ByteArray × Unit) := M7 x1 x0.length

theorem top7 (x0 : List (ByteArray × ByteArray × ByteArray × Unit)) (x1 : Int) (hm : x0.length ≤ maxLen) (h : P7 x0 x1) : R7 (x0.length + 1 + 1) x0 x1 [⟨.int .i64, g7_0 x0 x1⟩] [some ⟨(.cons .str (.cons .str (.cons .str .unit))), u7_0 x0 x1⟩] := by
  rw [R7]
  have := run7 x0 x1 hm h.1 h.2 x0.length 0 (by omega)
  simpa [M7, g7_0, u7_0] using this

def S7 : Am.Spec := { sig := sig7, pre := fun ⟨x0, x1, _⟩ => P7 x0 x1, upd := fun ⟨x0, x1, _⟩ => [some ⟨(.cons .str (.cons .str (.cons .str .unit))), u7_0 x0 x1⟩], res := fun ⟨x0, x1, _⟩ => [⟨.int .i64, g7_0 x0 x1⟩] }
theorem con7 : Contract Tryz.prog 7 S7 := contract_of Tryz.func7 hb7 (Nat.le_of_ble_eq_true (by kernel_rfl)) (fun ⟨x0, x1, _⟩ h hwf w0 O q =>
  (snd7 _).1 x0 x1 _ _ (top7 x0 x1 hwf.1.1 h) w0 O q)

end Go.Proofs.YtcppjmlhilklcaaGreatDoor

/- Function 8 (laws.heldBlockS): its runs between cut points. Written by a program of this repo (gen). -/
set_option linter.unusedVariables false
set_option linter.unusedSimpArgs false
set_option maxRecDepth 100000
namespace Go.Proofs.YtcppjmlhilklcaaGreatDoor
open Go Go.Am Go.Proofs
def ext8 : Ext := [(23, S23)]
theorem call8_23 : Callable Tryz.prog 23 := ⟨Tryz.f23, Tryz.func23, by kernel_rfl, by kernel_rfl⟩
theorem ext8Ok : ExtOk Tryz.prog ext8 := ⟨⟨call8_23, con23⟩, trivial⟩
/-! Function 8. -/
noncomputable def b8 : Code := bodyOf Tryz.f8
theorem hb8 : Tryz.f8.body = some b8 := by kernel_rfl
def sig8 : List AT := [AT.v (Ty.sl (Ty.cons Ty.str (Ty.cons Ty.str (Ty.cons Ty.str Ty.unit)))), AT.v (Ty.int IntKind.i64)]
def tys8 : List Ty := [Ty.int IntKind.i64]
def E8_2 (v5 : Int) (x0 : List (ByteArray × ByteArray × ByteArray × Unit)) (x1 : Int) : Env := [(0, PV.a (Atom.sl (Ty.cons Ty.str (Ty.cons Ty.str (Ty.cons Ty.str Ty.unit))) x0)), (1, PV.a (Atom.val (Value.int IntKind.i64 x1))), (5, PV.a (Atom.val (Value.int IntKind.i64 v5)))]
def L8_2 (v5 : Int) (x0 : List (ByteArray × ByteArray × ByteArray × Unit)) (x1 : Int) : Heap := []
mutual
def R8 : Nat → List (ByteArray × ByteArray × ByteArray × Unit) → Int → List Dyn → Prop
  | 0, _, _, _ => False
  | n + 1, x0, x1, ds => (R8_2 n (0) (x0) (x1) ds)
def R8_2 : Nat → Int → List (ByteArray × ByteArray × ByteArray × Unit) → Int → List Dyn → Prop
  | 0, _, _, _, _ => False
  | n + 1, v5, x0, x1, ds => (if (Decidable.decide (v5 < (↑(List.length x0) : Int))) = true then ((0 ≤ v5) ∧ (v5 < (↑(List.length x0) : Int)) ∧ (if (!ByteArray.toList (Prod.fst (List.getD x0 (Int.toNat v5) (ByteArray.empty, ByteArray.empty, ByteArray.empty, ()))) == ByteArray.toList (g23_0 x1)) = true then (ds = [Dyn.mk (Ty.int IntKind.i64) (-1)]) else ((InR IntKind.i64 (x1 + 1)) ∧ ((0 ≤ v5) ∧ (v5 < (↑(List.length x0) : Int)) ∧ (if (!ByteArray.toList (Prod.fst (Prod.snd (List.getD x0 (Int.toNat v5) (ByteArray.empty, ByteArray.empty, ByteArray.empty, ())))) == ByteArray.toList (g23_0 (x1 + 1))) = true then (ds = [Dyn.mk (Ty.int IntKind.i64) (-1)]) else ((InR IntKind.i64 (x1 + 1 + 1)) ∧ ((0 ≤ v5) ∧ (v5 < (↑(List.length x0) : Int)) ∧ (if (!ByteArray.toList (Prod.fst (Prod.snd (Prod.snd (List.getD x0 (Int.toNat v5) (ByteArray.empty, ByteArray.empty, ByteArray.empty, ()))))) == ByteArray.toList (g23_0 (x1 + 1 + 1))) = true then (ds = [Dyn.mk (Ty.int IntKind.i64) (-1)]) else ((InR IntKind.i64 (x1 + 1 + 1 + 1)) ∧ ((InR IntKind.i64 (v5 + 1)) ∧ (R8_2 n (v5 + 1) (x0) (x1 + 1 + 1 + 1) ds))))))))))) else (ds = [Dyn.mk (Ty.int IntKind.i64) x1]))
end
theorem p8_0 (x0 : List (ByteArray × ByteArray × ByteArray × Unit)) (x1 : Int) : Am.runN tab ext8 false 43 [] 2000 [] [] [0, 1, 5] [] [] [.code b8] (entE 0 0 sig8 (x0, x1, ())) (entL sig8 (x0, x1, ())) = some (cutAt b8 2, E8_2 (0) (x0) (x1), L8_2 (0) (x0) (x1), []) := by kernel_rfl
theorem p8_1 (v5 : Int) (x0 : List (ByteArray × ByteArray × ByteArray × Unit)) (x1 : Int) : runF tab ext8 false 43 [] 2000 [] tys8 Tryz.f8.results [true, true] (cutAt b8 2) (E8_2 v5 x0 x1) (L8_2 v5 x0 x1) = some ([Dyn.mk (Ty.int IntKind.i64) (-1)], [], [Decidable.decide (v5 < (↑(List.length x0) : Int)) = Bool.true, 0 ≤ v5, v5 < (↑(List.length x0) : Int), True, (!ByteArray.toList (Prod.fst (List.getD x0 (Int.toNat v5) (ByteArray.empty, ByteArray.empty, ByteArray.empty, ()))) == ByteArray.toList (g23_0 x1)) = Bool.true]) := by kernel_rfl
theorem p8_2 (v5 : Int) (x0 : List (ByteArray × ByteArray × ByteArray × Unit)) (x1 : Int) : runF tab ext8 false 43 [] 2000 [] tys8 Tryz.f8.results [true, false, true] (cutAt b8 2) (E8_2 v5 x0 x1) (L8_2 v5 x0 x1) = some ([Dyn.mk (Ty.int IntKind.i64) (-1)], [], [Decidable.decide (v5 < (↑(List.length x0) : Int)) = Bool.true, 0 ≤ v5, v5 < (↑(List.length x0) : Int), True, (!ByteArray.toList (Prod.fst (List.getD x0 (Int.toNat v5) (ByteArray.empty, ByteArray.empty, ByteArray.empty, ()))) == ByteArray.toList (g23_0 x1)) = Bool.false, InR IntKind.i64 (x1 + 1), 0 ≤ v5, v5 < (↑(List.length x0) : Int), True, (!ByteArray.toList (Prod.fst (Prod.snd (List.getD x0 (Int.toNat v5) (ByteArray.empty, ByteArray.empty, ByteArray.empty, ())))) == ByteArray.toList (g23_0 (x1 + 1))) = Bool.true]) := by kernel_rfl
theorem p8_3 (v5 : Int) (x0 : List (ByteArray × ByteArray × ByteArray × Unit)) (x1 : Int) : runF tab ext8 false 43 [] 2000 [] tys8 Tryz.f8.results [true, false, false, true] (cutAt b8 2) (E8_2 v5 x0 x1) (L8_2 v5 x0 x1) = some ([Dyn.mk (Ty.int IntKind.i64) (-1)], [], [Decidable.decide (v5 < (↑(List.length x0) : Int)) = Bool.true, 0 ≤ v5, v5 < (↑(List.length x0) : Int), True, (!ByteArray.toList (Prod.fst (List.getD x0 (Int.toNat v5) (ByteArray.empty, ByteArray.empty, ByteArray.empty, ()))) == ByteArray.toList (g23_0 x1)) = Bool.false, InR IntKind.i64 (x1 + 1), 0 ≤ v5, v5 < (↑(List.length x0) : Int), True, (!ByteArray.toList (Prod.fst (Prod.snd (List.getD x0 (Int.toNat v5) (ByteArray.empty, ByteArray.empty, ByteArray.empty, ())))) == ByteArray.toList (g23_0 (x1 + 1))) = Bool.false, InR IntKind.i64 (x1 + 1 + 1), 0 ≤ v5, v5 < (↑(List.length x0) : Int), True, (!ByteArray.toList (Prod.fst (Prod.snd (Prod.snd (List.getD x0 (Int.toNat v5) (ByteArray.empty, ByteArray.empty, ByteArray.empty, ()))))) == ByteArray.toList (g23_0 (x1 + 1 + 1))) = Bool.true]) := by kernel_rfl
theorem p8_4 (v5 : Int) (x0 : List (ByteArray × ByteArray × ByteArray × Unit)) (x1 : Int) : Am.runN tab ext8 false 43 [] 2000 [] [] [0, 1, 5] [] [true, false, false, false] (cutAt b8 2) (E8_2 v5 x0 x1) (L8_2 v5 x0 x1) = some (cutAt b8 2, E8_2 (v5 + 1) (x0) (x1 + 1 + 1 + 1), L8_2 (v5 + 1) (x0) (x1 + 1 + 1 + 1), [Decidable.decide (v5 < (↑(List.length x0) : Int)) = Bool.true, 0 ≤ v5, v5 < (↑(List.length x0) : Int), True, (!ByteArray.toList (Prod.fst (List.getD x0 (Int.toNat v5) (ByteArray.empty, ByteArray.empty, ByteArray.empty, ()))) == ByteArray.toList (g23_0 x1)) = Bool.false, InR IntKind.i64 (x1 + 1), 0 ≤ v5, v5 < (↑(List.length x0) : Int), True, (!ByteArray.toList (Prod.fst (Prod.snd (List.getD x0 (Int.toNat v5) (ByteArray.empty, ByteArray.empty, ByteArray.empty, ())))) == ByteArray.toList (g23_0 (x1 + 1))) = Bool.false, InR IntKind.i64 (x1 + 1 + 1), 0 ≤ v5, v5 < (↑(List.length x0) : Int), True, (!ByteArray.toList (Prod.fst (Prod.snd (Prod.snd (List.getD x0 (Int.toNat v5) (ByteArray.empty, ByteArray.empty, ByteArray.empty, ()))))) == ByteArray.toList (g23_0 (x1 + 1 + 1))) = Bool.false, InR IntKind.i64 (x1 + 1 + 1 + 1), InR IntKind.i64 (v5 + 1)]) := by kernel_rfl
theorem p8_5 (v5 : Int) (x0 : List (ByteArray × ByteArray × ByteArray × Unit)) (x1 : Int) : runF tab ext8 false 43 [] 2000 [] tys8 Tryz.f8.results [false] (cutAt b8 2) (E8_2 v5 x0 x1) (L8_2 v5 x0 x1) = some ([Dyn.mk (Ty.int IntKind.i64) x1], [], [Decidable.decide (v5 < (↑(List.length x0) : Int)) = Bool.false]) := by kernel_rfl
theorem snd8 : ∀ n, (∀ (x0 : List (ByteArray × ByteArray × ByteArray × Unit)) (x1 : Int) ds, R8 n x0 x1 ds → ∀ w0 O q, AtV Tryz.prog 8 (PostR ds [] [] q w0 O) 43 w0 O q [] [.code b8] (entE 0 0 sig8 (x0, x1, ())) (entL sig8 (x0, x1, ()))) ∧ (∀ (v5 : Int) (x0 : List (ByteArray × ByteArray × ByteArray × Unit)) (x1 : Int) ds, R8_2 n v5 x0 x1 ds → ∀ w0 O q, AtV Tryz.prog 8 (PostR ds [] [] q w0 O) 43 w0 O q [] (cutAt b8 2) (E8_2 v5 x0 x1) (L8_2 v5 x0 x1)) := by
  intro n
  induction n with
  | zero => exact ⟨fun _ _ _ h => by simp only [R8] at h, fun _ _ _ _ h => by simp only [R8_2] at h⟩
  | succ n ih =>
  obtain ⟨ih, ih2⟩ := ih
  refine ⟨?_, ?_⟩
  · intro x0 x1 ds h w0 O q
    rw [R8] at h
    exact AtV.runN tabOk ext8Ok mixed (p8_0 x0 x1) trivial (ih2 _ _ _ _ h w0 O q)

  · intro v5 x0 x1 ds h w0 O q
    rw [R8_2] at h
    by_cases b0 : (Decidable.decide (v5 < (↑(List.length x0) : Int))) = true
    · rw [if_pos b0] at h
      obtain ⟨s0, s1, h⟩ := h
      by_cases b1 : (!ByteArray.toList (Prod.fst (List.getD x0 (Int.toNat v5) (ByteArray.empty, ByteArray.empty, ByteArray.empty, ()))) == ByteArray.toList (g23_0 x1)) = true
      · rw [if_pos b1] at h
        subst h
        exact AtV.fin Tryz.func8 tabOk ext8Ok mixed (p8_1 v5 x0 x1) ⟨b0, s0, s1, trivial, b1, trivial⟩
      · rw [if_neg b1] at h
        replace b1 := Bool.eq_false_iff.2 b1
        obtain ⟨s2, h⟩ := h
        obtain ⟨s3, s4, h⟩ := h
        by_cases b2 : (!ByteArray.toList (Prod.fst (Prod.snd (List.getD x0 (Int.toNat v5) (ByteArray.empty, ByteArray.empty, ByteArray.empty, ())))) == ByteArray.toList (g23_0 (x1 + 1))) = true
        · rw [if_pos b2] at h
          subst h
          exact AtV.fin Tryz.func8 tabOk ext8Ok mixed (p8_2 v5 x0 x1) ⟨b0, s0, s1, trivial, b1, s2, s3, s4, trivial, b2, trivial⟩
        · rw [if_neg b2] at h
          replace b2 := Bool.eq_false_iff.2 b2
          obtain ⟨s5, h⟩ := h
          obtain ⟨s6, s7, h⟩ := h
          by_cases b3 : (!ByteArray.toList (Prod.fst (Prod.snd (Prod.snd (List.getD x0 (Int.toNat v5) (ByteArray.empty, ByteArray.empty, ByteArray.empty, ()))))) == ByteArray.toList (g23_0 (x1 + 1 + 1))) = true
          · rw [if_pos b3] at h
            subst h
            exact AtV.fin Tryz.func8 tabOk ext8Ok mixed (p8_3 v5 x0 x1) ⟨b0, s0, s1, trivial, b1, s2, s3, s4, trivial, b2, s5, s6, s7, trivial, b3, trivial⟩
          · rw [if_neg b3] at h
            replace b3 := Bool.eq_false_iff.2 b3
            obtain ⟨s8, h⟩ := h
            obtain ⟨s9, h⟩ := h
            exact AtV.runN tabOk ext8Ok mixed (p8_4 v5 x0 x1) ⟨b0, s0, s1, trivial, b1, s2, s3, s4, trivial, b2, s5, s6, s7, trivial, b3, s8, s9, trivial⟩ (ih2 _ _ _ _ h w0 O q)
    · rw [if_neg b0] at h
      replace b0 := Bool.eq_false_iff.2 b0
      subst h
      exact AtV.fin Tryz.func8 tabOk ext8Ok mixed (p8_5 v5 x0 x1) ⟨b0, trivial⟩



theorem run8 (x0 : List (ByteArray × ByteArray × ByteArray × Unit)) (x1 : Int) (hm : x0.length ≤ maxLen) (h0 : 0 ≤ x1) (h1 : x1 + 3 * x0.length ≤ 9223372036854775807) (he : ∀ i : Nat, i < x0.length → x0.getD i (ByteArray.empty, ByteArray.empty, ByteArray.empty, ()) = (g23_0 (x1 + 3 * (i : Int)), g23_0 (x1 + 3 * (i : Int) + 1), g23_0 (x1 + 3 * (i : Int) + 1 + 1), ())) : ∀ (k i : Nat), i + k = x0.length →
    R8_2 (k + 1) (i : Int) x0 (x1 + 3 * (i : Int)) [⟨.int .i64, x1 + 3 * (x0.length : Int)⟩] := by
  intro k
  induction k with
  | zero =>
    intro i hi
    rw [R8_2, if_neg (by simp; omega)]
    have : i = x0.length := by omega
    subst this
    rfl
  | succ k ih =>
    intro i hi
    rw [R8_2, if_pos (by simp; omega)]
    simp only [Int.toNat_natCast, he i (by omega)]
    have hb : ∀ y : ByteArray, (!(ByteArray.toList y == ByteArray.toList y)) = true → False := fun y h => by rw [(bytes_eq y y).2 rfl] at h; cases h
    refine ⟨by omega, by omega, ?_⟩
    rw [if_neg (hb _)]
    refine ⟨by rw [i64_iff]; omega, by omega, by omega, ?_⟩
    rw [if_neg (hb _)]
    refine ⟨by rw [i64_iff]; omega, by omega, by omega, ?_⟩
    rw [if_neg (hb _)]
    refine ⟨by rw [i64_iff]; omega, inR_up hm (by omega), ?_⟩
    have hx : x1 + 3 * (i : Int) + 1 + 1 + 1 = x1 + 3 * ((i + 1 : Nat) : Int) := by omega
    rw [hx]
    exact ih (i + 1) (by omega)

def P8 (x0 : List (ByteArray × ByteArray × ByteArray × Unit)) (x1 : Int) : Prop := (0 ≤ x1 ∧ x1 + 3 * x0.length ≤ 9223372036854775807) ∧ ∀ i : Nat, i < x0.length → x0.getD i (ByteArray.empty, ByteArray.empty, ByteArray.empty, ()) = (g23_0 (x1 + 3 * (i : Int)), g23_0 (x1 + 3 * (i : Int) + 1), g23_0 (x1 + 3 * (i : Int) + 1 + 1), ())
def g8_0 (x0 : List (ByteArray × ByteArray × ByteArray × Unit)) (x1 : Int) : Int := x1 + 3 * (x0.length : Int)

theorem top8 (x0 : List (ByteArray × ByteArray × ByteArray × Unit)) (x1 : Int) (hm : x0.length ≤ maxLen) (h : P8 x0 x1) : R8 (x0.length + 1 + 1) x0 x1 [⟨.int .i64, g8_0 x0 x1⟩] := by
  rw [R8]
  have := run8 x0 x1 hm h.1.1 h.1.2 h.2 x0.length 0 (by omega)
  simpa [g8_0] using this

def S8 : Am.Spec := { sig := sig8, pre := fun ⟨x0, x1, _⟩ => P8 x0 x1, res := fun ⟨x0, x1, _⟩ => [⟨.int .i64, g8_0 x0 x1⟩] }
theorem con8 : Contract Tryz.prog 8 S8 := contract_of Tryz.func8 hb8 (Nat.le_of_ble_eq_true (by kernel_rfl)) (fun ⟨x0, x1, _⟩ h hwf w0 O q =>
  (snd8 _).1 x0 x1 _ (top8 x0 x1 hwf.1.1 h) w0 O q)

end Go.Proofs.YtcppjmlhilklcaaGreatDoor

/- Function 3 (laws.FnExactLoadBlocks): its runs between cut points. Written by a program of this repo (gen). -/
set_option linter.unusedVariables false
set_option linter.unusedSimpArgs false
set_option maxRecDepth 100000
namespace Go.Proofs.YtcppjmlhilklcaaGreatDoor
open Go Go.Am Go.Proofs
def ext3 : Ext := [(4, S4), (5, S5), (6, S6), (7, S7), (8, S8)]
theorem call3_4 : Callable Tryz.prog 4 := ⟨Tryz.f4, Tryz.func4, by kernel_rfl, by kernel_rfl⟩
theorem call3_5 : Callable Tryz.prog 5 := ⟨Tryz.f5, Tryz.func5, by kernel_rfl, by kernel_rfl⟩
theorem call3_6 : Callable Tryz.prog 6 := ⟨Tryz.f6, Tryz.func6, by kernel_rfl, by kernel_rfl⟩
theorem call3_7 : Callable Tryz.prog 7 := ⟨Tryz.f7, Tryz.func7, by kernel_rfl, by kernel_rfl⟩
theorem call3_8 : Callable Tryz.prog 8 := ⟨Tryz.f8, Tryz.func8, by kernel_rfl, by kernel_rfl⟩
theorem ext3Ok : ExtOk Tryz.prog ext3 := ⟨⟨call3_4, con4⟩, ⟨call3_5, con5⟩, ⟨call3_6, con6⟩, ⟨call3_7, con7⟩, ⟨call3_8, con8⟩, trivial⟩
/-! Function 3. -/
noncomputable def b3 : Code := bodyOf Tryz.f3
theorem hb3 : Tryz.f3.body = some b3 := by kernel_rfl
def sig3 : List AT := [AT.v (Ty.str)]
def tys3 : List Ty := [Ty.bool]
def P3 (x0 : ByteArray) : Prop := (if (Decidable.decide ((↑(ByteArray.size x0) : Int) > 1048576)) = true then True else ((P4 x0) ∧ ((P5 x0) ∧ (if (!g6_0 (g5_0 x0) (g4_0 x0)) = true then True else (if (g5_1 x0 != g4_1 x0) = true then True else (if (g5_2 x0 != g4_2 x0) = true then True else ((P7 (g5_0 x0) 1) ∧ (List.length (u7_0 (g5_0 x0) 1) = List.length (g5_0 x0)) ∧ ((P8 (u7_0 (g5_0 x0) 1) 1) ∧ (if (Decidable.decide (g8_0 (u7_0 (g5_0 x0) 1) 1 < 0)) = true then True else (if (g8_0 (u7_0 (g5_0 x0) 1) 1 != g7_0 (g5_0 x0) 1) = true then True else ((P5 x0) ∧ ((P8 (u7_0 (g5_0 x0) 1) 1) ∧ True))))))))))))
def g3_0 (x0 : ByteArray) : Bool := (if (Decidable.decide ((↑(ByteArray.size x0) : Int) > 1048576)) = true then Bool.true else (if (!g6_0 (g5_0 x0) (g4_0 x0)) = true then Bool.false else (if (g5_1 x0 != g4_1 x0) = true then Bool.false else (if (g5_2 x0 != g4_2 x0) = true then Bool.false else (if (Decidable.decide (g8_0 (u7_0 (g5_0 x0) 1) 1 < 0)) = true then Bool.false else (if (g8_0 (u7_0 (g5_0 x0) 1) 1 != g7_0 (g5_0 x0) 1) = true then Bool.false else Bool.true))))))
theorem p3_0 (x0 : ByteArray) : runF tab ext3 false 82 [] 2000 [] tys3 Tryz.f3.results [true] [.code b3] (entE 0 0 sig3 (x0, ())) (entL sig3 (x0, ())) = some ([Dyn.mk Ty.bool Bool.true], [], [Decidable.decide ((↑(ByteArray.size x0) : Int) > 1048576) = Bool.true]) := by kernel_rfl
theorem p3_1 (x0 : ByteArray) : runF tab ext3 false 82 [] 2000 [] tys3 Tryz.f3.results [false, true, true, true] [.code b3] (entE 0 0 sig3 (x0, ())) (entL sig3 (x0, ())) = some ([Dyn.mk Ty.bool Bool.false], [], [Decidable.decide ((↑(ByteArray.size x0) : Int) > 1048576) = Bool.false, P4 x0, P5 x0, True, (!g6_0 (g5_0 x0) (g4_0 x0)) = Bool.true, Bool.true = Bool.true, Bool.true = Bool.true]) := by kernel_rfl
theorem p3_2 (x0 : ByteArray) : runF tab ext3 false 82 [] 2000 [] tys3 Tryz.f3.results [false, false, true, true] [.code b3] (entE 0 0 sig3 (x0, ())) (entL sig3 (x0, ())) = some ([Dyn.mk Ty.bool Bool.false], [], [Decidable.decide ((↑(ByteArray.size x0) : Int) > 1048576) = Bool.false, P4 x0, P5 x0, True, (!g6_0 (g5_0 x0) (g4_0 x0)) = Bool.false, (g5_1 x0 != g4_1 x0) = Bool.true, Bool.true = Bool.true]) := by kernel_rfl
theorem p3_3 (x0 : ByteArray) : runF tab ext3 false 82 [] 2000 [] tys3 Tryz.f3.results [false, false, false, true] [.code b3] (entE 0 0 sig3 (x0, ())) (entL sig3 (x0, ())) = some ([Dyn.mk Ty.bool Bool.false], [], [Decidable.decide ((↑(ByteArray.size x0) : Int) > 1048576) = Bool.false, P4 x0, P5 x0, True, (!g6_0 (g5_0 x0) (g4_0 x0)) = Bool.false, (g5_1 x0 != g4_1 x0) = Bool.false, (g5_2 x0 != g4_2 x0) = Bool.true]) := by kernel_rfl
theorem p3_4 (x0 : ByteArray) : runF tab ext3 false 82 [] 2000 [] tys3 Tryz.f3.results [false, false, false, false, true] [.code b3] (entE 0 0 sig3 (x0, ())) (entL sig3 (x0, ())) = some ([Dyn.mk Ty.bool Bool.false], [], [Decidable.decide ((↑(ByteArray.size x0) : Int) > 1048576) = Bool.false, P4 x0, P5 x0, True, (!g6_0 (g5_0 x0) (g4_0 x0)) = Bool.false, (g5_1 x0 != g4_1 x0) = Bool.false, (g5_2 x0 != g4_2 x0) = Bool.false, P7 (g5_0 x0) 1, List.length (u7_0 (g5_0 x0) 1) = List.length (g5_0 x0), P8 (u7_0 (g5_0 x0) 1) 1, Decidable.decide (g8_0 (u7_0 (g5_0 x0) 1) 1 < 0) = Bool.true]) := by kernel_rfl
theorem p3_5 (x0 : ByteArray) : runF tab ext3 false 82 [] 2000 [] tys3 Tryz.f3.results [false, false, false, false, false, true] [.code b3] (entE 0 0 sig3 (x0, ())) (entL sig3 (x0, ())) = some ([Dyn.mk Ty.bool Bool.false], [], [Decidable.decide ((↑(ByteArray.size x0) : Int) > 1048576) = Bool.false, P4 x0, P5 x0, True, (!g6_0 (g5_0 x0) (g4_0 x0)) = Bool.false, (g5_1 x0 != g4_1 x0) = Bool.false, (g5_2 x0 != g4_2 x0) = Bool.false, P7 (g5_0 x0) 1, List.length (u7_0 (g5_0 x0) 1) = List.length (g5_0 x0), P8 (u7_0 (g5_0 x0) 1) 1, Decidable.decide (g8_0 (u7_0 (g5_0 x0) 1) 1 < 0) = Bool.false, (g8_0 (u7_0 (g5_0 x0) 1) 1 != g7_0 (g5_0 x0) 1) = Bool.true]) := by kernel_rfl
theorem p3_6 (x0 : ByteArray) : runF tab ext3 false 82 [] 2000 [] tys3 Tryz.f3.results [false, false, false, false, false, false, false, false, false, false, false] [.code b3] (entE 0 0 sig3 (x0, ())) (entL sig3 (x0, ())) = some ([Dyn.mk Ty.bool Bool.true], [], [Decidable.decide ((↑(ByteArray.size x0) : Int) > 1048576) = Bool.false, P4 x0, P5 x0, True, (!g6_0 (g5_0 x0) (g4_0 x0)) = Bool.false, (g5_1 x0 != g4_1 x0) = Bool.false, (g5_2 x0 != g4_2 x0) = Bool.false, P7 (g5_0 x0) 1, List.length (u7_0 (g5_0 x0) 1) = List.length (g5_0 x0), P8 (u7_0 (g5_0 x0) 1) 1, Decidable.decide (g8_0 (u7_0 (g5_0 x0) 1) 1 < 0) = Bool.false, (g8_0 (u7_0 (g5_0 x0) 1) 1 != g7_0 (g5_0 x0) 1) = Bool.false, P5 x0, True, (!g6_0 (g5_0 x0) (g4_0 x0)) = Bool.false, (g5_1 x0 != g4_1 x0) = Bool.false, (g5_2 x0 != g4_2 x0) = Bool.false, P8 (u7_0 (g5_0 x0) 1) 1, Decidable.decide (g8_0 (u7_0 (g5_0 x0) 1) 1 < 0) = Bool.false, (g8_0 (u7_0 (g5_0 x0) 1) 1 != g7_0 (g5_0 x0) 1) = Bool.false]) := by kernel_rfl
theorem at3 (x0 : ByteArray) (h : P3 x0) (w0 : World) (O : List Nat) (q : Nat → Value) : AtV Tryz.prog 3 (PostR [⟨Ty.bool, g3_0 x0⟩] [] [] q w0 O) 82 w0 O q [] [.code b3] (entE 0 0 sig3 (x0, ())) (entL sig3 (x0, ())) := by
  unfold P3 at h
  unfold g3_0
  by_cases b0 : (Decidable.decide ((↑(ByteArray.size x0) : Int) > 1048576)) = true
  · try simp only [if_pos b0] at h ⊢
    exact AtV.fin Tryz.func3 tabOk ext3Ok mixed (p3_0 x0) ⟨b0, trivial⟩
  · try simp only [if_neg b0] at h ⊢
    replace b0 := Bool.eq_false_iff.2 b0
    obtain ⟨s0, h⟩ := h
    obtain ⟨s1, h⟩ := h
    by_cases b1 : (!g6_0 (g5_0 x0) (g4_0 x0)) = true
    · try simp only [if_pos b1] at h ⊢
      exact AtV.fin Tryz.func3 tabOk ext3Ok mixed (p3_1 x0) ⟨b0, s0, s1, trivial, b1, rfl, rfl, trivial⟩
    · try simp only [if_neg b1] at h ⊢
      replace b1 := Bool.eq_false_iff.2 b1
      by_cases b2 : (g5_1 x0 != g4_1 x0) = true
      · try simp only [if_pos b2] at h ⊢
        exact AtV.fin Tryz.func3 tabOk ext3Ok mixed (p3_2 x0) ⟨b0, s0, s1, trivial, b1, b2, rfl, trivial⟩
      · try simp only [if_neg b2] at h ⊢
        replace b2 := Bool.eq_false_iff.2 b2
        by_cases b3 : (g5_2 x0 != g4_2 x0) = true
        · try simp only [if_pos b3] at h ⊢
          exact AtV.fin Tryz.func3 tabOk ext3Ok mixed (p3_3 x0) ⟨b0, s0, s1, trivial, b1, b2, b3, trivial⟩
        · try simp only [if_neg b3] at h ⊢
          replace b3 := Bool.eq_false_iff.2 b3
          obtain ⟨s2, s3, h⟩ := h
          obtain ⟨s4, h⟩ := h
          by_cases b4 : (Decidable.decide (g8_0 (u7_0 (g5_0 x0) 1) 1 < 0)) = true
          · try simp only [if_pos b4] at h ⊢
            exact AtV.fin Tryz.func3 tabOk ext3Ok mixed (p3_4 x0) ⟨b0, s0, s1, trivial, b1, b2, b3, s2, s3, s4, b4, trivial⟩
          · try simp only [if_neg b4] at h ⊢
            replace b4 := Bool.eq_false_iff.2 b4
            by_cases b5 : (g8_0 (u7_0 (g5_0 x0) 1) 1 != g7_0 (g5_0 x0) 1) = true
            · try simp only [if_pos b5] at h ⊢
              exact AtV.fin Tryz.func3 tabOk ext3Ok mixed (p3_5 x0) ⟨b0, s0, s1, trivial, b1, b2, b3, s2, s3, s4, b4, b5, trivial⟩
            · try simp only [if_neg b5] at h ⊢
              replace b5 := Bool.eq_false_iff.2 b5
              obtain ⟨s5, h⟩ := h
              obtain ⟨s6, h⟩ := h
              exact AtV.fin Tryz.func3 tabOk ext3Ok mixed (p3_6 x0) ⟨b0, s0, s1, trivial, b1, b2, b3, s2, s3, s4, b4, b5, s5, trivial, b1, b2, b3, s6, b4, b5, trivial⟩

def S3 : Am.Spec := { sig := sig3, pre := fun ⟨x0, _⟩ => P3 x0, res := fun ⟨x0, _⟩ => [⟨Ty.bool, g3_0 x0⟩] }
theorem con3 : Contract Tryz.prog 3 S3 := contract_of Tryz.func3 hb3 (Nat.le_of_ble_eq_true (by kernel_rfl)) (fun ⟨x0, _⟩ h _ w0 O q => at3 x0 h w0 O q)


end Go.Proofs.YtcppjmlhilklcaaGreatDoor

/- A law that says how functions of the program and of the specification hang together. -/
set_option linter.unusedVariables false
set_option linter.unusedSimpArgs false
set_option maxRecDepth 100000
namespace Go.Proofs.YtcppjmlhilklcaaGreatDoor
open Go Go.Am Go.Proofs

theorem name_eq (s : ByteArray) : g59_0 s = g45_0 s := by
  have hs : ∀ c, g62_0 c = (decide (97 ≤ c) && decide (c ≤ 122)) := fun c => by
    unfold g62_0
    by_cases h1 : (97 : Int) ≤ c <;> simp [h1]
  have hd : ∀ c, g43_0 c = (decide (48 ≤ c) && decide (c ≤ 57)) := fun c => by
    unfold g43_0
    by_cases h1 : (48 : Int) ≤ c <;> simp [h1]
  unfold g59_0 g45_0
  have hl := bytesOf_length s
  by_cases h1 : 1 ≤ s.size
  · cases hb : bytesOf s with
    | nil => rw [hb] at hl; simp at hl; omega
    | cons c r =>
      have hr : allI ok59 1 r = r.all fun b => g62_0 b || g43_0 b := by
        rw [← allI_plain (fun b => g62_0 b || g43_0 b) r 1]
        refine allI_congr r 1 fun j x hj => ?_
        have : (j == 0) = false := by simp; omega
        simp only [ok59, this, hs, hd, Bool.not_false, Bool.true_and]
      have h0 : ok59 0 c = g62_0 c := by simp [ok59, hs]
      simp only [allI, hr, h0, List.all_cons, List.getD_cons_zero]
      cases g62_0 c <;> simp
  · simp [h1]

theorem index_one (c : UInt8) : ∀ s : List UInt8, Lib.index s [c] = Lib.indexByte s c
  | [] => rfl
  | b :: l => by
    have e : (List.isPrefixOf [c] (b :: l)) = (b == c) := by
      simp only [List.isPrefixOf, Bool.and_true]
      exact Bool.beq_comm
    rw [Lib.index, Lib.indexByte, index_one c l, e]

theorem contains_one (s : List UInt8) (c : UInt8) : Lib.contains s [c] = s.contains c := by
  rw [Lib.contains_iff_indexByte, Lib.contains, index_one]

theorem contains_nl (s : ByteArray) : (!g60_0 s (ByteArray.mk #[10])) = (bytesOf s).all fun b => !(b == 10) := by
  unfold g60_0
  rw [show (ByteArray.mk #[10]).data.toList = [10] from rfl, contains_one]
  show (!s.data.toList.contains 10) = ((s.data.toList.map fun b => (b.toNat : Int)).all fun b => !(b == 10))
  induction s.data.toList with
  | nil => rfl
  | cons c r ih =>
    rw [List.contains_cons, Bool.not_or, ih, List.map_cons, List.all_cons]
    congr 2
    by_cases h : c = 10
    · subst h; rfl
    · have h1 : ((10 : UInt8) == c) = false := by simp; exact fun e => h e.symm
      have h2 : ((c.toNat : Int) == 10) = false := by
        rw [beq_eq_false_iff_ne]
        intro e
        exact h (UInt8.toNat_inj.1 (by show c.toNat = 10; omega))
      rw [h1, h2]

theorem block_eq (x : ByteArray × ByteArray × ByteArray × Unit) : g39_0 x = g29_0 x := by
  obtain ⟨a, b, t, u⟩ := x
  unfold g39_0 g29_0
  simp only [name_eq, ← contains_nl]
  have hc : decide ((t.size : Int) ≤ 400) = decide (t.size ≤ 400) := by
    congr 1; exact propext ⟨fun h => by omega, fun h => by omega⟩
  rw [hc]
  cases g45_0 a <;> cases g45_0 b <;> cases decide (t.size ≤ 400) <;> cases g60_0 t (ByteArray.mk #[10]) <;> rfl

end Go.Proofs.YtcppjmlhilklcaaGreatDoor

/- A law that says how functions of the program and of the specification hang together. -/
set_option linter.unusedVariables false
set_option linter.unusedSimpArgs false
set_option maxRecDepth 100000
namespace Go.Proofs.YtcppjmlhilklcaaGreatDoor
open Go Go.Am Go.Proofs

/-- A digit. -/
def isD (b : UInt8) : Prop := 48 ≤ b.toNat ∧ b.toNat ≤ 57
/-- The value of digits. -/
def dval : List UInt8 → Nat → Nat
  | [], n => n
  | b :: r, n => dval r (10 * n + (b.toNat - 48))
theorem dval_append : ∀ (l : List UInt8) (b : UInt8) (n : Nat), dval (l ++ [b]) n = 10 * dval l n + (b.toNat - 48)
  | [], _, _ => rfl
  | c :: r, b, n => dval_append r b _
theorem dval_pos : ∀ (l : List UInt8) (n : Nat), 1 ≤ n → 1 ≤ dval l n
  | [], _, h => h
  | b :: r, n, h => dval_pos r _ (by omega)

theorem dsign_nat {a : Nat} (h : a < 10) : (UInt8.ofNat (48 + a)).toNat = 48 + a := by rw [UInt8.toNat_ofNat']; omega

theorem dec_facts (n : Nat) : (∀ b ∈ Lib.decDigits n, isD b) ∧ dval (Lib.decDigits n) 0 = n ∧ 0 < (Lib.decDigits n).length ∧ (1 ≤ n → ((Lib.decDigits n).getD 0 0).toNat ≠ 48) := by
  induction n using Nat.strongRecOn with
  | _ n ih =>
    by_cases h : n < 10
    · rw [Lib.decDigits, dif_pos h]
      have e := dsign_nat h
      refine ⟨fun b hb => ?_, ?_, by simp, fun h1 => ?_⟩
      · rw [List.mem_singleton.1 hb]; unfold isD; omega
      · show 10 * 0 + ((UInt8.ofNat (48 + n)).toNat - 48) = n; omega
      · show (UInt8.ofNat (48 + n)).toNat ≠ 48; omega
    · rw [Lib.decDigits, dif_neg h]
      obtain ⟨i1, i2, i3, i4⟩ := ih (n / 10) (by omega)
      have e := dsign_nat (a := n % 10) (by omega)
      refine ⟨fun b hb => ?_, ?_, by simp, fun h1 => ?_⟩
      · rcases List.mem_append.1 hb with hb | hb
        · exact i1 b hb
        · rw [List.mem_singleton.1 hb]; unfold isD; omega
      · rw [dval_append, i2, e]; omega
      · have i4 := i4 (by omega)
        cases hd : Lib.decDigits (n / 10) with
        | nil => rw [hd] at i3; simp at i3
        | cons c r => rw [hd] at i4; exact i4

theorem dec_canon (n : Nat) : ∀ l : List UInt8, l.length = n → (∀ b ∈ l, isD b) → 0 < l.length → ((l.getD 0 0).toNat ≠ 48 ∨ l.length = 1) → Lib.decDigits (dval l 0) = l := by
  induction n with
  | zero => intro l hl _ h0 _; omega
  | succ n ih =>
    intro l hl hd h0 hc
    rcases List.eq_nil_or_concat l with rfl | ⟨l', b, rfl⟩
    · simp at h0
    · rw [List.concat_eq_append] at *
      have hb : isD b := hd b (by simp)
      unfold isD at hb
      rw [dval_append]
      cases l' with
      | nil =>
        rw [Lib.decDigits, dif_pos (by show 10 * 0 + (b.toNat - 48) < 10; omega)]
        show [UInt8.ofNat (48 + (10 * 0 + (b.toNat - 48)))] = [b]
        congr 1
        rw [← UInt8.toNat_inj, UInt8.toNat_ofNat']; omega
      | cons c r =>
        have hc' : c.toNat ≠ 48 := by
          rcases hc with hc | hc
          · exact hc
          · simp at hc
        have hcd : isD c := hd c (by simp)
        unfold isD at hcd
        have hp : 1 ≤ dval (c :: r) 0 := dval_pos r _ (by omega)
        have hi := ih (c :: r) (by simp at hl ⊢; omega) (fun x hx => hd x (List.mem_append_left _ hx)) (by simp) (.inl hc')
        rw [Lib.decDigits, dif_neg (by omega), show (10 * dval (c :: r) 0 + (b.toNat - 48)) / 10 = dval (c :: r) 0 by omega, hi, show (10 * dval (c :: r) 0 + (b.toNat - 48)) % 10 = b.toNat - 48 by omega]
        congr 2
        rw [← UInt8.toNat_inj, UInt8.toNat_ofNat']; omega

theorem dec_len : ∀ (k n : Nat), n < 10 ^ (k + 1) → (Lib.decDigits n).length ≤ k + 1
  | 0, n, h => by rw [Lib.decDigits, dif_pos (by simpa using h)]; simp
  | k + 1, n, h => by
    rw [Lib.decDigits]
    split
    · simp
    · have := dec_len k (n / 10) (by rw [Nat.pow_succ] at h; omega)
      simp; omega


end Go.Proofs.YtcppjmlhilklcaaGreatDoor

/- A law that says how functions of the program and of the specification hang together. -/
set_option linter.unusedVariables false
set_option linter.unusedSimpArgs false
set_option maxRecDepth 100000
namespace Go.Proofs.YtcppjmlhilklcaaGreatDoor
open Go Go.Am Go.Proofs

/-- The last d digits of a number, zeros ahead. -/
def pz : Nat → Nat → List UInt8
  | 0, _ => []
  | d + 1, n => pz d (n / 10) ++ [UInt8.ofNat (48 + n % 10)]

theorem pz_len : ∀ d n, (pz d n).length = d
  | 0, _ => rfl
  | d + 1, n => by rw [pz, List.length_append, pz_len d]; rfl

theorem pz_zero : ∀ d, pz d 0 = List.replicate d 48
  | 0 => rfl
  | d + 1 => by
    rw [pz, Nat.zero_div, pz_zero d, List.replicate_succ']
    rfl

/-- One ahead of the digits. -/
theorem dec_ahead : ∀ (d n : Nat), n < 10 ^ d → Lib.decDigits (n + 10 ^ d) = 49 :: pz d n
  | 0, n, h => by
    obtain rfl : n = 0 := by simpa using h
    rw [Lib.decDigits, dif_pos (by decide)]
    rfl
  | d + 1, n, h => by
    have hp : 1 ≤ 10 ^ d := Nat.one_le_pow _ _ (by decide)
    rw [Nat.pow_succ] at h ⊢
    have ih := dec_ahead d (n / 10) (by omega)
    rw [Lib.decDigits, dif_neg (by omega), show (n + 10 ^ d * 10) / 10 = n / 10 + 10 ^ d by omega, show (n + 10 ^ d * 10) % 10 = n % 10 by omega, ih, pz]
    rfl

theorem dec_zeros : ∀ (d n : Nat), 1 ≤ d → n < 10 ^ d → List.replicate (d - (Lib.decDigits n).length) 48 ++ Lib.decDigits n = pz d n
  | 0, _, h, _ => by omega
  | d + 1, n, _, h => by
    rw [pz]
    by_cases hs : n < 10
    · rw [Lib.decDigits, dif_pos hs, show n / 10 = 0 by omega, show n % 10 = n by omega, pz_zero]
      rfl
    · rw [Nat.pow_succ] at h
      have hd : 1 ≤ d := by
        rcases Nat.eq_zero_or_pos d with rfl | hd
        · simp at h; omega
        · exact hd
      have ih := dec_zeros d (n / 10) hd (by omega)
      rw [Lib.decDigits, dif_neg hs, List.length_append, List.length_singleton, Nat.add_sub_add_right, ← List.append_assoc, ih]

/-- The number of digits with zeros ahead. -/
theorem pz_all : ∀ (d n : Nat), ∀ b ∈ pz d n, isD b
  | 0, _, b, hb => by cases hb
  | d + 1, n, b, hb => by
    rw [pz] at hb
    rcases List.mem_append.1 hb with hb | hb
    · exact pz_all d _ b hb
    · rw [List.mem_singleton.1 hb]
      have := dsign_nat (a := n % 10) (by omega)
      unfold isD
      omega

theorem pz_val : ∀ (d n : Nat), n < 10 ^ d → ∀ m, dval (pz d n) m = m * 10 ^ d + n
  | 0, n, h, m => by
    obtain rfl : n = 0 := by simpa using h
    show m = _
    simp
  | d + 1, n, h, m => by
    rw [pz, dval_append, Nat.pow_succ] at *
    rw [pz_val d (n / 10) (by omega), dsign_nat (by omega), Nat.mul_add, ← Nat.mul_assoc]
    rw [show 10 * m * 10 ^ d = m * (10 ^ d * 10) by rw [Nat.mul_comm 10 m, Nat.mul_assoc, Nat.mul_comm 10]]
    omega

/-- Digits are their value with zeros ahead. -/
theorem pz_of (d : Nat) : ∀ l : List UInt8, l.length = d → (∀ b ∈ l, isD b) → pz d (dval l 0) = l ∧ dval l 0 < 10 ^ d := by
  induction d with
  | zero => intro l hl _; rw [List.length_eq_zero_iff] at hl; subst hl; exact ⟨rfl, by decide⟩
  | succ d ih =>
    intro l hl hd
    rcases List.eq_nil_or_concat l with rfl | ⟨l', b, rfl⟩
    · cases hl
    · rw [List.concat_eq_append] at *
      have hb : isD b := hd b (by simp)
      unfold isD at hb
      obtain ⟨i1, i2⟩ := ih l' (by simpa using hl) (fun x hx => hd x (List.mem_append_left _ hx))
      rw [dval_append, pz, Nat.pow_succ, show (10 * dval l' 0 + (b.toNat - 48)) / 10 = dval l' 0 by omega, i1, show (10 * dval l' 0 + (b.toNat - 48)) % 10 = b.toNat - 48 by omega]
      refine ⟨?_, by omega⟩
      congr 2
      rw [← UInt8.toNat_inj, UInt8.toNat_ofNat']; omega

end Go.Proofs.YtcppjmlhilklcaaGreatDoor

/- A law that says how functions of the program and of the specification hang together. -/
set_option linter.unusedVariables false
set_option linter.unusedSimpArgs false
set_option maxRecDepth 100000
namespace Go.Proofs.YtcppjmlhilklcaaGreatDoor
open Go Go.Am Go.Proofs

theorem bvn (a : Nat) (h : a < 9223372036854775808) : (BitVec.ofInt 64 (a : Int)).toNat = a := by
  rw [BitVec.toNat_ofInt]
  omega

theorem wrn (a : Nat) (h : a < 9223372036854775808) : IntKind.wrap IntKind.i64 (a : Int) = (a : Int) := wrap_of_inR (by rw [i64_iff]; omega)

theorem bit_bound {s : Int} (h : 0 ≤ s ∧ s ≤ 65535) : 0 ≤ bit28 s ∧ bit28 s ≤ 65535 := by
  obtain ⟨a, rfl⟩ := Int.eq_ofNat_of_zero_le h.1
  unfold bit28
  have e : (a : Int) * 2 = ((a * 2 : Nat) : Int) := by omega
  have e6 : BitVec.ofInt 64 65535 = BitVec.ofInt 64 ((65535 : Nat) : Int) := rfl
  have e7 : BitVec.ofInt 64 4129 = BitVec.ofInt 64 ((4129 : Nat) : Int) := rfl
  rw [e, wrn _ (by omega), e6, e7]
  have h1 : (a * 2) &&& 65535 < 65536 := Nat.lt_of_le_of_lt Nat.and_le_right (by decide)
  have h2 : ((a * 2) &&& 65535) ^^^ 4129 < 2 ^ 16 := Nat.xor_lt_two_pow h1 (by decide)
  split
  · rw [BitVec.toNat_and, bvn (a * 2) (by omega), bvn 65535 (by omega), wrn (a * 2 &&& 65535) (by omega), BitVec.toNat_xor, bvn (a * 2 &&& 65535) (by omega), bvn 4129 (by omega), wrn (a * 2 &&& 65535 ^^^ 4129) (by omega)]
    omega
  · rename_i hc
    have hc' : ¬ ((a * 2 : Nat) : Int) > 65535 := fun hh => hc (decide_eq_true hh)
    omega

theorem bits_bound : ∀ (k : Nat) {s : Int}, 0 ≤ s ∧ s ≤ 65535 → 0 ≤ bits28 k s ∧ bits28 k s ≤ 65535
  | 0, _, h => h
  | k + 1, _, h => bits_bound k (bit_bound h)

theorem byte_bound {s c : Int} (h : 0 ≤ s ∧ s ≤ 65535) (hc : 0 ≤ c ∧ c ≤ 255) : 0 ≤ byte28 s c ∧ byte28 s c ≤ 65535 := by
  refine bits_bound 8 ?_
  obtain ⟨a, rfl⟩ := Int.eq_ofNat_of_zero_le h.1
  obtain ⟨b, rfl⟩ := Int.eq_ofNat_of_zero_le hc.1
  have e : (b : Int) * 256 = ((b * 256 : Nat) : Int) := by omega
  have h2 : a ^^^ (b * 256) < 2 ^ 16 := Nat.xor_lt_two_pow (by omega) (by omega)
  rw [e, wrn (b * 256) (by omega), BitVec.toNat_xor, bvn a (by omega), bvn (b * 256) (by omega), wrn (a ^^^ (b * 256)) (by omega)]
  omega

theorem crc_bound (x : ByteArray) {s : Int} (h : 0 ≤ s ∧ s ≤ 65535) : 0 ≤ g28_0 x s ∧ g28_0 x s ≤ 65535 := by
  unfold g28_0
  have hb := bytesOf_range x
  revert hb
  generalize bytesOf x = l
  revert s
  induction l with
  | nil => intro s h _; exact h
  | cons c r ih =>
    intro s h hb
    rw [List.foldl_cons]
    have hc := hb c (List.mem_cons_self ..)
    exact ih (byte_bound h ⟨hc.1, hc.2⟩) fun b hb' => hb b (List.mem_cons_of_mem _ hb')

theorem crc_eq (x : ByteArray) {s : Int} (h : 0 ≤ s ∧ s ≤ 65535) : g37_0 x s = g28_0 x s := by
  unfold g37_0
  rw [if_neg (by
    have c1 : s ≥ 0 := h.1
    unfold g17_0
    simp [c1, h.2])]
  have e : byte37 = byte28 := by
    funext s c
    unfold byte37 byte28
    have : ∀ (k : Nat) (t : Int), bits37 k t = bits28 k t := by
      intro k
      induction k with
      | zero => intro t; rfl
      | succ k ih => intro t; exact ih _
    exact this 8 _
  rw [e]
  rfl

end Go.Proofs.YtcppjmlhilklcaaGreatDoor

/- A law that says how functions of the program and of the specification hang together. -/
set_option linter.unusedVariables false
set_option linter.unusedSimpArgs false
set_option maxRecDepth 100000
namespace Go.Proofs.YtcppjmlhilklcaaGreatDoor
open Go Go.Am Go.Proofs

theorem f5_list : ∀ (k : Nat) (l : List UInt8), l.length ≤ 5 → 5 ≤ l.length + k → f527 k ⟨⟨l⟩⟩ = ⟨⟨List.replicate (5 - l.length) 48 ++ l⟩⟩
  | 0, l, h1, h2 => by
    rw [show 5 - l.length = 0 by omega]
    rfl
  | k + 1, l, h1, h2 => by
    unfold f527
    have es : (ByteArray.mk ⟨l⟩).size = l.length := rfl
    rw [es]
    split
    · have e : ByteArray.mk #[48] ++ ByteArray.mk ⟨l⟩ = ⟨⟨48 :: l⟩⟩ := by
        apply ByteArray.ext
        apply Array.ext'
        simp [ByteArray.data_append]
      rw [e, f5_list k (48 :: l) (by simp; omega) (by simp; omega)]
      congr 2
      rw [List.length_cons, show 5 - l.length = (5 - (l.length + 1)) + 1 by omega, List.replicate_succ']
      simp
    · rw [show 5 - l.length = 0 by omega]
      rfl

theorem dec_nat (n : Nat) : g44_0 (n : Int) = ⟨⟨Lib.decDigits n⟩⟩ := by
  show numB _ = _
  unfold numB Lib.itoa
  rw [if_neg (by omega), Int.toNat_natCast]

theorem five_pz {n : Nat} (h : n ≤ 65535) : g27_0 (n : Int) = ⟨⟨pz 5 n⟩⟩ := by
  unfold g27_0
  have hl := dec_len 4 n (by omega)
  rw [dec_nat, f5_list 5 _ (by omega) (by omega), dec_zeros 5 n (by decide) (by omega)]

theorem rep_pz {n : Nat} (h : n ≤ 65535) : g38_0 (ByteArray.mk #[48]) (5 - (((g18_0 (n : Int)).size : Nat) : Int)) ++ g18_0 (n : Int) = ⟨⟨pz 5 n⟩⟩ ∧ (((g18_0 (n : Int)).size : Nat) : Int) ≤ 5 ∧ 1 ≤ (((g18_0 (n : Int)).size : Nat) : Int) := by
  have e : g18_0 (n : Int) = ⟨⟨Lib.decDigits n⟩⟩ := dec_nat n
  have hs : (ByteArray.mk ⟨Lib.decDigits n⟩).size = (Lib.decDigits n).length := rfl
  have hl := dec_len 4 n (by omega)
  have h0 := (dec_facts n).2.2.1
  rw [e, hs]
  refine ⟨?_, by omega, by omega⟩
  have hc : (5 : Int) - ((Lib.decDigits n).length : Int) = ((5 - (Lib.decDigits n).length : Nat) : Int) := by omega
  rw [hc]
  apply ByteArray.ext
  apply Array.ext'
  have hr : Lib.repeatL (List.replicate 1 48) (5 - (Lib.decDigits n).length) = List.replicate (5 - (Lib.decDigits n).length) (48 : UInt8) := by
    rw [Lib.repeatL_replicate, Nat.mul_one]
  unfold g38_0
  rw [Int.toNat_natCast, ByteArray.data_append, Array.toList_append]
  show Lib.repeatL [48] _ ++ Lib.decDigits n = _
  have h48 : ([48] : List UInt8) = List.replicate 1 48 := rfl
  rw [h48, hr, dec_zeros 5 n (by decide) (by omega)]

end Go.Proofs.YtcppjmlhilklcaaGreatDoor

/- A law that says how functions of the program and of the specification hang together. -/
set_option linter.unusedVariables false
set_option linter.unusedSimpArgs false
set_option maxRecDepth 100000
namespace Go.Proofs.YtcppjmlhilklcaaGreatDoor
open Go Go.Am Go.Proofs

def crcN (r : ByteArray) : Nat := (g28_0 r 65535).toNat
theorem crcN_le (r : ByteArray) : crcN r ≤ 65535 := by
  have := crc_bound r (s := 65535) (by decide)
  unfold crcN; omega
theorem crc_s (r : ByteArray) : g28_0 r 65535 = (crcN r : Int) := by
  have := crc_bound r (s := 65535) (by decide)
  unfold crcN; omega
theorem crc_i (r : ByteArray) : g37_0 r 65535 = (crcN r : Int) := by
  rw [crc_eq r (by decide), crc_s]

def restB (b : (ByteArray × ByteArray × ByteArray × Unit)) : List UInt8 := b.1.data.toList ++ 32 :: b.2.1.data.toList ++ 32 :: b.2.2.1.data.toList
theorem rest_eq (b : (ByteArray × ByteArray × ByteArray × Unit)) : Prod.fst b ++ ByteArray.mk #[32] ++ Prod.fst (Prod.snd b) ++ ByteArray.mk #[32] ++ Prod.fst (Prod.snd (Prod.snd b)) = ⟨⟨restB b⟩⟩ := by
  apply ByteArray.ext
  apply Array.ext'
  simp [ByteArray.data_append, restB]

theorem line_eq (b : (ByteArray × ByteArray × ByteArray × Unit)) : g40_0 b = ⟨⟨pz 5 (crcN ⟨⟨restB b⟩⟩) ++ 32 :: restB b⟩⟩ := by
  unfold g40_0
  rw [rest_eq, crc_i, (rep_pz (crcN_le _)).1]
  apply ByteArray.ext
  apply Array.ext'
  simp [ByteArray.data_append]

theorem cut_free {l : List UInt8} (h : (32 : UInt8) ∉ l) : g36_0 ⟨⟨l⟩⟩ (ByteArray.mk #[32]) = ⟨⟨l⟩⟩ ∧ g36_1 ⟨⟨l⟩⟩ (ByteArray.mk #[32]) = ⟨⟨[]⟩⟩ := by
  have hc : Lib.cut (ByteArray.mk ⟨l⟩).data.toList (ByteArray.mk #[32]).data.toList = (l, [], false) := cut_none 32 h
  unfold g36_0 g36_1
  rw [hc]
  exact ⟨rfl, rfl⟩
theorem cut_at {p : List UInt8} (q : List UInt8) (h : (32 : UInt8) ∉ p) : g36_0 ⟨⟨p ++ 32 :: q⟩⟩ (ByteArray.mk #[32]) = ⟨⟨p⟩⟩ ∧ g36_1 ⟨⟨p ++ 32 :: q⟩⟩ (ByteArray.mk #[32]) = ⟨⟨q⟩⟩ := by
  have hc : Lib.cut (ByteArray.mk ⟨p ++ 32 :: q⟩).data.toList (ByteArray.mk #[32]).data.toList = (p, q, true) := cut_hit 32 q h
  unfold g36_0 g36_1
  rw [hc]
  exact ⟨rfl, rfl⟩

theorem nx_free : ∀ {l : List UInt8}, (32 : UInt8) ∉ l → nx11 l = l.length
  | [], _ => rfl
  | b :: r, h => by
    have hb : ¬ b.toNat = 32 := fun e => h (by rw [show b = 32 from UInt8.toNat_inj.1 e]; exact List.mem_cons_self ..)
    unfold nx11
    rw [if_neg hb, nx_free fun hm => h (List.mem_cons_of_mem _ hm)]
    rfl
theorem nx_at : ∀ {p : List UInt8} (q : List UInt8), (32 : UInt8) ∉ p → nx11 (p ++ 32 :: q) = p.length
  | [], q, _ => rfl
  | b :: r, q, h => by
    have hb : ¬ b.toNat = 32 := fun e => h (by rw [show b = 32 from UInt8.toNat_inj.1 e]; exact List.mem_cons_self ..)
    rw [List.cons_append]
    unfold nx11
    rw [if_neg hb, nx_at q fun hm => h (List.mem_cons_of_mem _ hm)]
    rfl

theorem name_none : g45_0 ⟨⟨[]⟩⟩ = false := by rfl

theorem one_none (p t : ByteArray) : g29_0 (p, ⟨⟨[]⟩⟩, t, ()) = false := by
  unfold g29_0
  rw [name_none]
  simp

theorem ext_of (l : List UInt8) (a b : Nat) : ByteArray.extract ⟨⟨l⟩⟩ a b = ⟨⟨(l.drop a).take (b - a)⟩⟩ := Lib.extract_mk l a b

theorem line_parts {x : ByteArray} (h1 : ¬ x.size < 6) (h2 : (x.data.toList.getD 5 0).toNat = 32) : x = ⟨⟨(ByteArray.extract x 0 5).data.toList ++ 32 :: (rs11 x).data.toList⟩⟩ := by
  obtain ⟨⟨l⟩⟩ := x
  have hl : ¬ l.length < 6 := h1
  have h2' : l.getD 5 0 = 32 := UInt8.toNat_inj.1 h2
  have es : (ByteArray.mk ⟨l⟩).size = l.length := rfl
  unfold rs11
  rw [es, ext_of, ext_of]
  congr 2
  have e : l.drop 5 = 32 :: l.drop 6 := by
    have e := drop_get l 5 0 (by omega)
    rw [h2'] at e
    exact e
  have e5 : (l.drop 6).take (l.length - 6) = l.drop 6 := List.take_of_length_le (by rw [List.length_drop]; exact Nat.le_refl _)
  simp only [List.drop_zero, Nat.sub_zero]
  rw [e5, ← e, List.take_append_drop]

theorem parse_eq (x : ByteArray) : g19_0 x = g11_0 x ∧ g19_1 x = g11_1 x := by
  have e0 : ByteArray.extract x 6 x.size = rs11 x := rfl
  unfold g19_0 g19_1 g11_0 g11_1 sum11
  simp only [Int.toNat_natCast, e0]
  by_cases h1 : x.size < 6
  · have c : decide ((x.size : Int) < 6) = true := decide_eq_true (by omega)
    simp only [c, h1, if_true, and_self]
  have c1 : decide ((x.size : Int) < 6) = false := decide_eq_false (by omega)
  by_cases h2 : (x.data.toList.getD 5 0).toNat = 32
  case neg =>
    have c2 : ((((x.data.toList.getD 5 0).toNat : Nat) : Int) != 32) = true := byte11.2 h2
    simp only [c1, h1, c2, h2, if_true, if_false, Bool.false_eq_true, ne_eq, not_false_eq_true, and_self]
  case pos =>
    have c2 : ((((x.data.toList.getD 5 0).toNat : Nat) : Int) != 32) = false := by
      rw [Bool.eq_false_iff]; intro h; exact byte11.1 h h2
    have hx := line_parts h1 h2
    have c32 : (((32 : Nat) : Int) != 32) = false := rfl
    rw [crc_i, crc_s, (rep_pz (crcN_le _)).1, five_pz (crcN_le _)]
    simp only [c1, h1, h2, c32, if_false, Bool.false_eq_true, ne_eq, not_true_eq_false]
    generalize hr : rs11 x = rs at *
    obtain ⟨⟨l⟩⟩ := rs
    by_cases h3 : ByteArray.extract x 0 5 = ⟨⟨pz 5 (crcN ⟨⟨l⟩⟩)⟩⟩
    case neg =>
      have c3 : (!ByteArray.toList (ByteArray.extract x 0 5) == ByteArray.toList ⟨⟨pz 5 (crcN ⟨⟨l⟩⟩)⟩⟩) = true := by
        rw [Bool.not_eq_true', Bool.eq_false_iff]
        intro h; exact h3 ((bytes_eq _ _).1 h)
      simp only [c3, if_true, and_self]
    case pos =>
      rw [h3] at hx ⊢
      have c3 : (!ByteArray.toList (ByteArray.mk ⟨pz 5 (crcN ⟨⟨l⟩⟩)⟩) == ByteArray.toList (ByteArray.mk ⟨pz 5 (crcN ⟨⟨l⟩⟩)⟩)) = false := by simp
      simp only [c3, Bool.false_eq_true, if_false, block_eq]
      have hs : (ByteArray.mk ⟨l⟩).size = l.length := rfl
      rcases split_at 32 l with hf | ⟨p, q, rfl, hp⟩
      · obtain ⟨k1, k2⟩ := cut_free hf
        obtain ⟨k3, k4⟩ := cut_free (l := []) (by simp)
        have ht : to11 ⟨⟨l⟩⟩ = l.length + 1 := by
          show nx11 l + 1 + nx11 (l.drop (nx11 l + 1)) = _
          rw [nx_free hf, List.drop_of_length_le (by omega)]
          rfl
        have hk : ok11 ⟨⟨l⟩⟩ (at11 ⟨⟨l⟩⟩) (to11 ⟨⟨l⟩⟩) = false := by
          unfold ok11
          rw [ht, decide_eq_false (by omega), Bool.false_and]
        unfold fb11 fc11
        rw [k1, k2, k3, k4, one_none, hk]
        simp
      · obtain ⟨k1, k2⟩ := cut_at q hp
        rw [k1, k2]
        have ha : at11 ⟨⟨p ++ 32 :: q⟩⟩ = p.length := nx_at q hp
        have hd : (p ++ 32 :: q).drop (p.length + 1) = q := by
          rw [show p ++ 32 :: q = (p ++ [32]) ++ q by simp]
          rw [List.drop_left' (by simp)]
        have ht : to11 ⟨⟨p ++ 32 :: q⟩⟩ = p.length + 1 + nx11 q := by
          unfold to11
          rw [ha]
          show p.length + 1 + nx11 ((p ++ 32 :: q).drop (p.length + 1)) = _
          rw [hd]
        rcases split_at 32 q with hf | ⟨r, t, rfl, hr2⟩
        · obtain ⟨k3, k4⟩ := cut_free hf
          rw [nx_free hf] at ht
          have hk : ok11 ⟨⟨p ++ 32 :: q⟩⟩ (at11 ⟨⟨p ++ 32 :: q⟩⟩) (to11 ⟨⟨p ++ 32 :: q⟩⟩) = false := by
            unfold ok11
            rw [ht, decide_eq_false (by rw [hs]; simp; omega), Bool.false_and]
          have hne : (!ByteArray.toList (g40_0 (⟨⟨p⟩⟩, ⟨⟨q⟩⟩, ⟨⟨[]⟩⟩, ())) == ByteArray.toList x) = true := by
            rw [Bool.not_eq_true', Bool.eq_false_iff]
            intro h
            have h := (bytes_eq _ _).1 h
            rw [line_eq, hx] at h
            have := congrArg (fun y : ByteArray => y.data.toList.length) h
            simp [restB, pz_len] at this
          unfold fb11 fc11
          rw [k3, k4, hk, hne]
          simp
        · obtain ⟨k3, k4⟩ := cut_at t hr2
          rw [nx_at t hr2] at ht
          have hblk : blk11 ⟨⟨p ++ 32 :: (r ++ 32 :: t)⟩⟩ p.length (p.length + 1 + r.length) = (⟨⟨p⟩⟩, ⟨⟨r⟩⟩, ⟨⟨t⟩⟩, ()) := by
            unfold blk11
            rw [hs, ext_of, ext_of, ext_of]
            have d1 : (p ++ 32 :: (r ++ 32 :: t)).drop (p.length + 1 + r.length + 1) = t := by
              rw [show p ++ 32 :: (r ++ 32 :: t) = (p ++ [32] ++ r ++ [32]) ++ t by simp]
              rw [List.drop_left' (by simp; omega)]
            rw [hd, d1]
            have e1 : p.length + (r.length + (t.length + 1) + 1) - (p.length + 1 + r.length + 1) = t.length := by omega
            simp [e1]
          have hk : ok11 ⟨⟨p ++ 32 :: (r ++ 32 :: t)⟩⟩ p.length (p.length + 1 + r.length) = g29_0 (⟨⟨p⟩⟩, ⟨⟨r⟩⟩, ⟨⟨t⟩⟩, ()) := by
            unfold ok11
            rw [hblk, decide_eq_true (show p.length + 1 + r.length < (ByteArray.mk ⟨p ++ 32 :: (r ++ 32 :: t)⟩).size by rw [hs]; simp only [List.length_append, List.length_cons]; omega), Bool.true_and]
          have hne : (!ByteArray.toList (g40_0 (⟨⟨p⟩⟩, ⟨⟨r⟩⟩, ⟨⟨t⟩⟩, ())) == ByteArray.toList x) = false := by
            have hrb : restB ((⟨⟨p⟩⟩, ⟨⟨r⟩⟩, ⟨⟨t⟩⟩, ()) : (ByteArray × ByteArray × ByteArray × Unit)) = p ++ 32 :: (r ++ 32 :: t) := by simp [restB]
            rw [line_eq, hrb, ← hx]
            simp
          unfold fb11 fc11
          rw [k3, k4, hne, ha, ht, hk, hblk]
          cases g29_0 (⟨⟨p⟩⟩, ⟨⟨r⟩⟩, ⟨⟨t⟩⟩, ()) <;> simp

end Go.Proofs.YtcppjmlhilklcaaGreatDoor

/- A law that says how functions of the program and of the specification hang together. -/
set_option linter.unusedVariables false
set_option linter.unusedSimpArgs false
set_option maxRecDepth 100000
namespace Go.Proofs.YtcppjmlhilklcaaGreatDoor
open Go Go.Am Go.Proofs

theorem ifT2 {c : Prop} [Decidable c] {Q : Prop} (h : ¬ c → Q) : if c then True else Q := by
  by_cases hc : c
  · rw [if_pos hc]; trivial
  · rw [if_neg hc]; exact h hc

theorem cut_size (t s : ByteArray) : (g36_0 t s).size ≤ t.size ∧ (g36_1 t s).size ≤ t.size := by
  obtain ⟨l1, l2⟩ := cutLen36 t.data.toList s.data.toList
  have e : t.data.toList.length = t.size := rfl
  have a1 : (g36_0 t s).size = (Lib.cut t.data.toList s.data.toList).1.length := by
    show (List.toArray _).size = _
    rw [List.size_toArray]
  have a2 : (g36_1 t s).size = (Lib.cut t.data.toList s.data.toList).2.1.length := by
    show (List.toArray _).size = _
    rw [List.size_toArray]
  omega

theorem rep_size {n : Nat} (h : n ≤ 65535) : (g38_0 (ByteArray.mk #[48]) (5 - (((g18_0 (n : Int)).size : Nat) : Int))).size + (g18_0 (n : Int)).size = 5 := by
  have := congrArg ByteArray.size (rep_pz h).1
  rw [ByteArray.size_append] at this
  have e : (ByteArray.mk ⟨pz 5 n⟩).size = (pz 5 n).length := rfl
  rw [e, pz_len] at this
  exact this

theorem line_pre (b : (ByteArray × ByteArray × ByteArray × Unit)) (h1 : b.1.size ≤ 1048576) (h2 : b.2.1.size ≤ 1048576) (h3 : b.2.2.1.size ≤ 1048576) : P40 b := by
  unfold P40
  have e : g37_0 (Prod.fst b ++ ByteArray.mk #[32] ++ Prod.fst (Prod.snd b) ++ ByteArray.mk #[32] ++ Prod.fst (Prod.snd (Prod.snd b))) 65535 = (crcN ⟨⟨restB b⟩⟩ : Int) := by rw [rest_eq, crc_i]
  rw [e]
  have hn := crcN_le ⟨⟨restB b⟩⟩
  generalize crcN ⟨⟨restB b⟩⟩ = n at *
  have r := rep_size hn
  obtain ⟨_, r2, r3⟩ := rep_pz hn
  have i32 : (ByteArray.mk #[32]).size = 1 := rfl
  have i48 : (((ByteArray.mk #[48]).size : Nat) : Int) = 1 := rfl
  simp only [ByteArray.size_append, i32]
  refine ⟨by omega, by omega, by omega, by omega, ⟨rfl, trivial⟩, by rw [i64_iff]; omega, ⟨by omega, by rw [i48]; omega⟩, by omega, by omega, by omega, trivial⟩

theorem parse_pre (x : ByteArray) (h : x.size ≤ 1048576) : P19 x := by
  unfold P19
  refine ifT2 fun h1 => ?_
  have h1' : ¬ (x.size : Int) < 6 := fun hh => h1 (decide_eq_true hh)
  have hr : (ByteArray.extract x 6 (Int.toNat ((x.size : Nat) : Int))).size ≤ 1048576 := by rw [ByteArray.size_extract]; omega
  generalize ByteArray.extract x 6 (Int.toNat ((x.size : Nat) : Int)) = rs at *
  obtain ⟨k1, k2⟩ := cut_size rs (ByteArray.mk #[32])
  obtain ⟨k3, k4⟩ := cut_size (g36_1 rs (ByteArray.mk #[32])) (ByteArray.mk #[32])
  rw [crc_i]
  have hn := crcN_le rs
  generalize crcN rs = n at *
  have r := rep_size hn
  obtain ⟨_, r2, r3⟩ := rep_pz hn
  have i48 : (((ByteArray.mk #[48]).size : Nat) : Int) = 1 := rfl
  refine ⟨by omega, ifT2 fun _ => ⟨by omega, (show rs.size < 4294967281 by omega), (show (g36_1 rs (ByteArray.mk #[32])).size < 4294967281 by omega), by omega, ⟨rfl, trivial⟩, by omega, by rw [i64_iff]; omega, ⟨by omega, by rw [i48]; omega⟩, by omega, ifT2 fun _ => ⟨pre39 _, ifT2 fun _ => ⟨line_pre _ (by show (g36_0 rs (ByteArray.mk #[32])).size ≤ _; omega) (by show (g36_0 (g36_1 rs (ByteArray.mk #[32])) (ByteArray.mk #[32])).size ≤ _; omega) (by show (g36_1 (g36_1 rs (ByteArray.mk #[32])) (ByteArray.mk #[32])).size ≤ _; omega), trivial⟩⟩⟩⟩


end Go.Proofs.YtcppjmlhilklcaaGreatDoor

/- A law that says how functions of the program and of the specification hang together. -/
set_option linter.unusedVariables false
set_option linter.unusedSimpArgs false
set_option maxRecDepth 100000
namespace Go.Proofs.YtcppjmlhilklcaaGreatDoor
open Go Go.Am Go.Proofs

theorem nan (s : ByteArray) : g61_0 s = false := by simp [g61_0]

theorem cmp_str (a b : ByteArray) : g42_0 a b = if Op.bytesLess (ByteArray.toList a) (ByteArray.toList b) = true then -1 else if (ByteArray.toList a == ByteArray.toList b) = true then 0 else 1 := by
  unfold g42_0
  simp only [nan, Bool.false_eq_true, if_false]
  cases Op.bytesLess (ByteArray.toList a) (ByteArray.toList b) <;> cases (ByteArray.toList a == ByteArray.toList b) <;> rfl

theorem before_cmp (a b : ByteArray × ByteArray × ByteArray × Unit) : (!decide (g20_0 a b ≥ 0)) = g12_0 a b := by
  unfold g20_0 g12_0
  simp only [g41_0, cmp_str]
  cases Op.bytesLess (ByteArray.toList a.1) (ByteArray.toList b.1) <;> cases (ByteArray.toList a.1 == ByteArray.toList b.1) <;> cases Op.bytesLess (ByteArray.toList a.2.1) (ByteArray.toList b.2.1) <;> cases (ByteArray.toList a.2.1 == ByteArray.toList b.2.1) <;> decide


end Go.Proofs.YtcppjmlhilklcaaGreatDoor

/- A law that says how functions of the program and of the specification hang together. -/
set_option linter.unusedVariables false
set_option linter.unusedSimpArgs false
set_option maxRecDepth 100000
namespace Go.Proofs.YtcppjmlhilklcaaGreatDoor
open Go Go.Am Go.Proofs

theorem n18_dig : ∀ (l : List UInt8) (m : Nat), (∀ b ∈ l, isD b) → dig25 l (m : Int) = (((dval l m : Nat) : Int), true)
  | [], _, _ => rfl
  | b :: r, m, hd => by
    have hb : isD b := hd b (List.mem_cons_self ..)
    unfold isD at hb
    unfold dig25 d25
    rw [if_pos (by simpa using hb)]
    have e1 : 10 * (m : Int) + ((b.toNat : Int) - 48) = ((10 * m + (b.toNat - 48) : Nat) : Int) := by omega
    rw [e1]
    exact n18_dig r _ (fun c hc => hd c (List.mem_cons_of_mem _ hc))

theorem n18_all : ∀ (l : List UInt8) (n : Int), (dig25 l n).2 = true → ∀ b ∈ l, isD b
  | [], n, h, b, hb => by cases hb
  | c :: r, n, h, b, hb => by
    unfold dig25 at h
    split at h
    · rename_i hd
      rcases List.mem_cons.1 hb with rfl | hb
      · unfold d25 at hd; unfold isD; simpa using hd
      · exact n18_all r _ h b hb
    · cases h

theorem n18_zero : ∀ (l : List UInt8) (n : Int), (dig25 l n).2 = false → (dig25 l n).1 = 0
  | [], n, h => by cases h
  | c :: r, n, h => by
    unfold dig25 at h ⊢
    split at h
    · rename_i hd
      rw [if_pos hd]
      exact n18_zero r _ h
    · rename_i hd
      rw [if_neg hd]

theorem n18_cons (b : UInt8) (r : List UInt8) : num25 (b :: r) = if b.toNat = 45 then (if r.length = 0 ∨ 18 < r.length ∨ (r.getD 0 0).toNat = 48 then (0, false) else fin25 1 (dig25 r 0))
    else if 18 < r.length + 1 ∨ (b.toNat = 48 ∧ 0 < r.length) then (0, false) else fin25 0 (dig25 (b :: r) 0) := rfl

theorem dval_lt : ∀ (l : List UInt8) (m : Nat), (∀ b ∈ l, isD b) → dval l m < (m + 1) * 10 ^ l.length
  | [], m, _ => by simp [dval]
  | b :: r, m, hd => by
    have hb : isD b := hd b (List.mem_cons_self ..)
    unfold isD at hb
    have ih := dval_lt r (10 * m + (b.toNat - 48)) (fun c hc => hd c (List.mem_cons_of_mem _ hc))
    show dval r (10 * m + (b.toNat - 48)) < _
    rw [List.length_cons, Nat.pow_succ]
    have h1 : (10 * m + (b.toNat - 48) + 1) * 10 ^ r.length ≤ (10 * (m + 1)) * 10 ^ r.length := Nat.mul_le_mul_right _ (by omega)
    have h2 : (10 * (m + 1)) * 10 ^ r.length = (m + 1) * (10 ^ r.length * 10) := by
      rw [Nat.mul_comm 10 (m + 1), Nat.mul_assoc, Nat.mul_comm 10]
    omega

theorem dval_le : ∀ (l : List UInt8) (m : Nat), m ≤ dval l m
  | [], m => Nat.le_refl _
  | b :: r, m => by
    have := dval_le r (10 * m + (b.toNat - 48))
    show m ≤ dval r (10 * m + (b.toNat - 48))
    omega

/-- Numbers of at most eighteen digits. -/
def N18 (n : Int) : Prop := -1000000000000000000 < n ∧ n < 1000000000000000000

theorem n18_len {n : Nat} : (Lib.decDigits n).length ≤ 18 ↔ n < 1000000000000000000 := by
  constructor
  · intro h
    obtain ⟨d1, d2, _⟩ := dec_facts n
    have := dval_lt (Lib.decDigits n) 0 d1
    rw [d2] at this
    have hp : 10 ^ (Lib.decDigits n).length ≤ 10 ^ 18 := Nat.pow_le_pow_right (by decide) h
    have e : (10 : Nat) ^ 18 = 1000000000000000000 := by decide
    rw [e] at hp
    omega
  · intro h
    exact dec_len 17 n (by omega)

theorem numB_neg {n : Int} (h : n < 0) : numB n = ⟨⟨45 :: Lib.decDigits n.natAbs⟩⟩ := by unfold numB Lib.itoa; rw [if_pos h]
theorem numB_pos {n : Int} (h : ¬ n < 0) : numB n = ⟨⟨Lib.decDigits n.toNat⟩⟩ := by unfold numB Lib.itoa; rw [if_neg h]

theorem dec_head {n : Nat} : ∃ b r, Lib.decDigits n = b :: r ∧ isD b ∧ (b.toNat = 48 → r = []) := by
  obtain ⟨d1, d2, d3, d4⟩ := dec_facts n
  have hz : Lib.decDigits 0 = [48] := by rw [Lib.decDigits, dif_pos (by decide)]; rfl
  cases hd : Lib.decDigits n with
  | nil => rw [hd] at d3; simp at d3
  | cons b r =>
    refine ⟨b, r, rfl, ?_, fun h48 => ?_⟩
    · rw [hd] at d1; exact d1 b (List.mem_cons_self ..)
    · rcases Nat.eq_zero_or_pos n with rfl | hn
      · rw [hz] at hd; cases hd; rfl
      · have := d4 hn
        rw [hd] at this
        exact absurd h48 this

theorem num_s1 {n : Int} (h : N18 n) : g25_0 (numB n) = n ∧ g25_1 (numB n) = true := by
  obtain ⟨h1, h2⟩ := h
  have e : num25 (numB n).data.toList = (n, true) := by
    by_cases hn : n < 0
    · rw [numB_neg hn]
      show num25 (45 :: Lib.decDigits n.natAbs) = _
      obtain ⟨d1, d2, d3, d4⟩ := dec_facts n.natAbs
      have hl := (n18_len (n := n.natAbs)).2 (by omega)
      rw [n18_cons, if_pos (by rfl), if_neg (fun hh => by
        rcases hh with hh | hh | hh
        · omega
        · omega
        · exact d4 (by omega) hh)]
      unfold fin25
      rw [if_pos rfl]
      have := n18_dig (Lib.decDigits n.natAbs) 0 d1
      rw [d2] at this
      change dig25 _ 0 = _ at this
      rw [this]
      simp only [Prod.mk.injEq, and_true]
      omega
    · rw [numB_pos hn]
      show num25 (Lib.decDigits n.toNat) = _
      obtain ⟨d1, d2, d3, d4⟩ := dec_facts n.toNat
      have hl := (n18_len (n := n.toNat)).2 (by omega)
      obtain ⟨b, r, hd, hb, h48⟩ := dec_head (n := n.toNat)
      rw [hd] at d1 d2 d3 d4 hl ⊢
      unfold isD at hb
      rw [n18_cons, if_neg (by omega), if_neg (fun hh => by
        rcases hh with hh | ⟨hh, hr⟩
        · simp at hl; omega
        · rw [h48 hh] at hr; simp at hr)]
      unfold fin25
      rw [if_neg (by decide)]
      have := n18_dig (b :: r) 0 d1
      rw [d2] at this
      change dig25 _ 0 = _ at this
      rw [this]
      simp only [Prod.mk.injEq, and_true]
      omega
  unfold g25_0 g25_1
  rw [e]
  exact ⟨rfl, rfl⟩

theorem num_s2 {x : ByteArray} (h : g25_1 x = true) : ∃ n : Int, N18 n ∧ x = numB n := by
  obtain ⟨⟨p⟩⟩ := x
  unfold g25_1 at h
  change (num25 p).2 = true at h
  cases p with
  | nil => cases h
  | cons b r =>
    rw [n18_cons] at h
    split at h
    · rename_i hb
      have hb' : b = 45 := by rw [← UInt8.toNat_inj]; exact hb
      split at h
      · cases h
      · rename_i hc
        unfold fin25 at h
        rw [if_pos rfl] at h
        have hall := n18_all r 0 h
        cases r with
        | nil => simp at hc
        | cons c q =>
          have hcd : isD c := hall c (List.mem_cons_self ..)
          unfold isD at hcd
          have hc2 : c.toNat ≠ 48 := fun e => hc (.inr (.inr e))
          have hp : 1 ≤ dval (c :: q) 0 := dval_pos q _ (by omega)
          have hcan := dec_canon (c :: q).length (c :: q) rfl hall (by simp) (.inl hc2)
          have hlen : (c :: q).length ≤ 18 := by
            rcases Nat.lt_or_ge 18 (c :: q).length with hh | hh
            · exact absurd (.inr (.inl hh)) hc
            · exact hh
          have hlt := n18_len.1 (by rw [hcan]; exact hlen)
          refine ⟨-(dval (c :: q) 0 : Int), ⟨by omega, by omega⟩, ?_⟩
          rw [numB_neg (by omega), hb', Int.natAbs_neg, Int.natAbs_natCast, hcan]
    · rename_i hb
      split at h
      · cases h
      · rename_i hc
        unfold fin25 at h
        rw [if_neg (by decide)] at h
        have hall := n18_all (b :: r) 0 h
        have hcan := dec_canon (b :: r).length (b :: r) rfl hall (by simp) (by
          by_cases hr : 0 < r.length
          · exact .inl (fun e => hc (.inr ⟨e, hr⟩))
          · exact .inr (by rw [List.length_cons]; omega))
        have hlen : (b :: r).length ≤ 18 := by
          rw [List.length_cons]
          rcases Nat.lt_or_ge 18 (r.length + 1) with hh | hh
          · exact absurd (.inl hh) hc
          · exact hh
        have hlt := n18_len.1 (by rw [hcan]; exact hlen)
        refine ⟨(dval (b :: r) 0 : Int), ⟨by omega, by omega⟩, ?_⟩
        rw [numB_pos (by omega), Int.toNat_natCast, hcan]

theorem num_s3 {x : ByteArray} (h : g25_1 x = false) : g25_0 x = 0 := by
  obtain ⟨⟨p⟩⟩ := x
  unfold g25_1 at h
  unfold g25_0
  change (num25 p).2 = false at h
  show (num25 p).1 = 0
  cases p with
  | nil => rfl
  | cons b r =>
    rw [n18_cons] at h ⊢
    split at h
    · rename_i hb
      rw [if_pos hb]
      split at h
      · rename_i hc; rw [if_pos hc]
      · rename_i hc
        rw [if_neg hc]
        unfold fin25 at h ⊢
        rw [if_pos rfl] at h ⊢
        have := n18_zero r 0 h
        simp only [this]; rfl
    · rename_i hb
      rw [if_neg hb]
      split at h
      · rename_i hc; rw [if_pos hc]
      · rename_i hc
        rw [if_neg hc]
        unfold fin25 at h ⊢
        rw [if_neg (by decide)] at h ⊢
        exact n18_zero (b :: r) 0 h

theorem uint_dval : ∀ (l : List UInt8) (m : Nat), (∀ b ∈ l, isD b) → dval l m < 1000000000000000000 → Lib.parseUintM 18446744073709551615 m l = .ok (dval l m)
  | [], _, _, _ => rfl
  | b :: r, m, hd, h => by
    have hb : isD b := hd b (List.mem_cons_self ..)
    unfold isD at hb
    have hle := dval_le r (10 * m + (b.toNat - 48))
    have h' : dval r (10 * m + (b.toNat - 48)) < 1000000000000000000 := h
    unfold Lib.parseUintM
    rw [if_pos hb, if_neg (by omega), if_neg (by omega), Nat.mul_comm m 10]
    exact uint_dval r _ (fun c hc => hd c (List.mem_cons_of_mem _ hc)) h'

theorem uint_dec {n : Nat} (h : n < 1000000000000000000) : Lib.parseUintB 64 (Lib.decDigits n) = .ok n := by
  obtain ⟨d1, d2, d3, _⟩ := dec_facts n
  unfold Lib.parseUintB
  rw [if_neg (fun e => by rw [e] at d3; simp at d3)]
  have e : (2 : Nat) ^ 64 - 1 = 18446744073709551615 := by decide
  have := uint_dval (Lib.decDigits n) 0 d1 (by rw [d2]; exact h)
  rw [d2] at this
  rw [e]; exact this

theorem parse_dec {n : Int} (h : N18 n) : Lib.parseIntB 64 (numB n).data.toList = .ok n := by
  obtain ⟨h1, h2⟩ := h
  have e63 : (2 : Nat) ^ (64 - 1) = 9223372036854775808 := by decide
  by_cases hn : n < 0
  · rw [numB_neg hn]
    show Lib.parseIntB 64 (45 :: Lib.decDigits n.natAbs) = _
    rw [Lib.parseIntB_minus, uint_dec (by omega), e63]
    unfold Lib.signedC
    simp only
    rw [if_neg (by omega)]
    congr 1
    omega
  · rw [numB_pos hn]
    show Lib.parseIntB 64 (Lib.decDigits n.toNat) = _
    have hu := uint_dec (n := n.toNat) (by omega)
    obtain ⟨b, r, hd, hb, _⟩ := dec_head (n := n.toNat)
    unfold isD at hb
    rw [hd] at hu ⊢
    rw [Lib.parseIntB_plain _ _ _ (by omega) (by omega), hu, e63]
    unfold Lib.signlessC
    simp only
    rw [if_neg (by omega)]
    congr 1
    omega

theorem trim_dec {n : Int} : (g16_0 (numB n) ⟨#[45]⟩).size = (Lib.decDigits n.natAbs).length := by
  unfold g16_0
  show (Lib.trimPrefix (numB n).data.toList [45]).length = _
  unfold Lib.trimPrefix Lib.hasPrefix
  by_cases hn : n < 0
  · rw [numB_neg hn]
    rfl
  · rw [numB_pos hn]
    obtain ⟨b, r, hd, hb, _⟩ := dec_head (n := n.toNat)
    unfold isD at hb
    have hne : (45 : UInt8) ≠ b := fun e => by rw [← e] at hb; exact absurd hb (by decide)
    have e : n.natAbs = n.toNat := by omega
    rw [e, hd]
    have : ([45] : List UInt8).isPrefixOf (b :: r) = false := by simp [List.isPrefixOf, hne]
    show (if ([45] : List UInt8).isPrefixOf (b :: r) = true then _ else (b :: r)).length = _
    rw [this]
    rfl

theorem rd_i1 {n : Int} (h : N18 n) : g15_0 (numB n) = n ∧ g15_1 (numB n) = true := by
  have hl := (n18_len (n := n.natAbs)).2 (by unfold N18 at h; omega)
  have h0 := (dec_facts n.natAbs).2.2.1
  have e : rd15 (numB n) = some n := by
    unfold rd15 long15
    rw [trim_dec, if_neg (by rw [Bool.or_eq_true, decide_eq_true_eq, decide_eq_true_eq]; omega), parse_dec h]
    simp
  unfold g15_0 g15_1
  rw [e]
  exact ⟨rfl, rfl⟩

theorem rd_i2 {x : ByteArray} (h : g15_1 x = true) : ∃ n : Int, N18 n ∧ x = numB n := by
  unfold g15_1 rd15 at h
  split at h
  · cases h
  · rename_i hl
    split at h
    · rename_i v hv
      split at h
      · rename_i he
        unfold long15 at hl
        rw [← he, trim_dec] at hl
        have : (Lib.decDigits v.natAbs).length ≤ 18 := by
          simp at hl; omega
        have := n18_len.1 this
        exact ⟨v, ⟨by omega, by omega⟩, he.symm⟩
      · cases h
    · cases h

theorem rd_i3 {x : ByteArray} (h : g15_1 x = false) : g15_0 x = 0 := by
  unfold g15_1 at h
  unfold g15_0
  cases hr : rd15 x with
  | none => rfl
  | some v => rw [hr] at h; cases h

theorem read_dec (x : ByteArray) : g25_0 x = g15_0 x ∧ g25_1 x = g15_1 x := by
  cases hs : g25_1 x with
  | true =>
    obtain ⟨n, hn, rfl⟩ := num_s2 hs
    obtain ⟨i0, i1⟩ := rd_i1 hn
    rw [i0, i1, (num_s1 hn).1]
    exact ⟨rfl, rfl⟩
  | false =>
    cases hi : g15_1 x with
    | true =>
      obtain ⟨n, hn, rfl⟩ := rd_i2 hi
      rw [(num_s1 hn).2] at hs
      cases hs
    | false => exact ⟨(num_s3 hs).trans (rd_i3 hi).symm, rfl⟩

/-- What is read of any text is the number of a numeral; it is that text just if it is taken. -/
theorem rd_any (x : ByteArray) : ∃ n : Int, N18 n ∧ g15_0 x = n ∧ (g15_1 x = true ↔ x = numB n) := by
  cases hi : g15_1 x with
  | true =>
    obtain ⟨n, hn, rfl⟩ := rd_i2 hi
    exact ⟨n, hn, (rd_i1 hn).1, ⟨fun _ => rfl, fun _ => rfl⟩⟩
  | false =>
    have h0 : N18 0 := ⟨by omega, by omega⟩
    refine ⟨0, h0, rd_i3 hi, ⟨(fun h => by cases h), fun h => ?_⟩⟩
    rw [h, (rd_i1 h0).2] at hi
    cases hi

theorem num_free {n : Int} {k : UInt8} (h1 : ¬ isD k) (h2 : k ≠ 45) : k ∉ (numB n).data.toList := by
  intro hm
  by_cases hn : n < 0
  · rw [numB_neg hn] at hm
    rcases List.mem_cons.1 hm with h | h
    · exact h2 h
    · exact h1 ((dec_facts _).1 _ h)
  · rw [numB_pos hn] at hm
    exact h1 ((dec_facts _).1 _ hm)

end Go.Proofs.YtcppjmlhilklcaaGreatDoor

/- A law that says how functions of the program and of the specification hang together. -/
set_option linter.unusedVariables false
set_option linter.unusedSimpArgs false
set_option maxRecDepth 100000
namespace Go.Proofs.YtcppjmlhilklcaaGreatDoor
open Go Go.Am Go.Proofs

/-- Texts that are split at a blank. -/
theorem app_list (a b : ByteArray) : (a ++ b).data.toList = a.data.toList ++ b.data.toList := by
  rw [ByteArray.data_append, Array.toList_append]

theorem bytes_ext {a b : ByteArray} (h : a.data.toList = b.data.toList) : a = b := by
  obtain ⟨⟨l⟩⟩ := a
  obtain ⟨⟨m⟩⟩ := b
  simp at h
  rw [h]

theorem split_two {x : List UInt8} {k : UInt8} {a b : List UInt8} (h : splitC k x = [a, b]) : x = a ++ k :: b := by
  have := splitC_join k x
  rw [h] at this
  rw [← this]
  simp [List.intercalate]

theorem split_three {x : List UInt8} {k : UInt8} {a b c : List UInt8} (h : splitC k x = [a, b, c]) : x = a ++ k :: (b ++ k :: c) := by
  have := splitC_join k x
  rw [h] at this
  rw [← this]
  simp [List.intercalate]

theorem split_of_two {k : UInt8} {a b : List UInt8} (ha : k ∉ a) (hb : k ∉ b) : splitC k (a ++ k :: b) = [a, b] := by
  rw [splitC_hit k _ ha, splitC_free k hb]

theorem split_of_three {k : UInt8} {a b c : List UInt8} (ha : k ∉ a) (hb : k ∉ b) (hc : k ∉ c) : splitC k (a ++ k :: (b ++ k :: c)) = [a, b, c] := by
  rw [splitC_hit k _ ha, splitC_hit k _ hb, splitC_free k hc]

theorem list_three {α : Type} : ∀ {l : List α}, l.length = 3 → ∃ a b c, l = [a, b, c]
  | [a, b, c], _ => ⟨a, b, c, rfl⟩
theorem list_two {α : Type} : ∀ {l : List α}, l.length = 2 → ∃ a b, l = [a, b]
  | [a, b], _ => ⟨a, b, rfl⟩

/-- Two heads free of k. -/
theorem cut_eq {k : UInt8} : ∀ {p q b c : List UInt8}, k ∉ p → k ∉ b → p ++ k :: q = b ++ k :: c → p = b ∧ q = c
  | [], q, [], c, _, _, h => by simpa using h
  | [], q, y :: b, c, _, hb, h => by
    simp only [List.nil_append, List.cons_append, List.cons.injEq] at h
    exact absurd (by rw [h.1]; exact List.mem_cons_self ..) hb
  | x :: p, q, [], c, hp, _, h => by
    simp only [List.nil_append, List.cons_append, List.cons.injEq] at h
    exact absurd (by rw [h.1]; exact List.mem_cons_self ..) hp
  | x :: p, q, y :: b, c, hp, hb, h => by
    simp only [List.cons_append, List.cons.injEq] at h
    obtain ⟨e1, e2⟩ := cut_eq (fun hm => hp (List.mem_cons_of_mem _ hm)) (fun hm => hb (List.mem_cons_of_mem _ hm)) h.2
    exact ⟨by rw [h.1, e1], e2⟩

end Go.Proofs.YtcppjmlhilklcaaGreatDoor

/- A law that says how functions of the program and of the specification hang together. -/
set_option linter.unusedVariables false
set_option linter.unusedSimpArgs false
set_option maxRecDepth 100000
namespace Go.Proofs.YtcppjmlhilklcaaGreatDoor
open Go Go.Am Go.Proofs

theorem splitC_end (c : UInt8) : ∀ p : List UInt8, splitC c (p ++ [c]) = splitC c p ++ [[]]
  | [] => by simp [splitC]
  | a :: p => by
    have ih := splitC_end c p
    by_cases h : a = c
    · rw [List.cons_append, splitC, if_pos h, splitC, if_pos h, ih]; rfl
    · rw [List.cons_append, splitC, if_neg h, splitC, if_neg h, ih]
      cases hs : splitC c p with
      | nil => exact absurd hs (splitC_ne c p)
      | cons r rs => rfl

theorem splitC_open (c : UInt8) {b : UInt8} (hb : b ≠ c) : ∀ q : List UInt8, ∃ init last, splitC c (q ++ [b]) = init ++ [last ++ [b]]
  | [] => ⟨[], [], by rw [List.nil_append, splitC, if_neg hb, splitC]; rfl⟩
  | a :: q => by
    obtain ⟨init, last, ih⟩ := splitC_open c hb q
    by_cases h : a = c
    · exact ⟨[] :: init, last, by rw [List.cons_append, splitC, if_pos h, ih]; rfl⟩
    · cases init with
      | nil => exact ⟨[], a :: last, by rw [List.cons_append, splitC, if_neg h, ih]; rfl⟩
      | cons p ps => exact ⟨(a :: p) :: ps, last, by rw [List.cons_append, splitC, if_neg h, ih]; rfl⟩

theorem bss_snoc (ls : List (List UInt8)) (l : List UInt8) : bss (ls ++ [l]) = bss ls ++ [⟨⟨l⟩⟩] := by unfold bss; rw [List.map_append]; rfl
theorem bss_len (ls : List (List UInt8)) : (bss ls).length = ls.length := by unfold bss; rw [List.length_map]

theorem snoc_take {α : Type} (xs : List α) (x : α) : List.drop 0 (List.take (0 + Int.toNat (((xs ++ [x]).length : Nat) - 1 : Int)) (xs ++ [x])) = xs := by
  have e : 0 + Int.toNat (((xs ++ [x]).length : Nat) - 1 : Int) = xs.length := by rw [List.length_append, List.length_singleton]; omega
  rw [e, List.drop_zero, List.take_left]

theorem snoc_last {α : Type} (xs : List α) (x d : α) : List.getD (xs ++ [x]) (Int.toNat (((xs ++ [x]).length : Nat) - 1 : Int)) d = x := by
  have e : Int.toNat (((xs ++ [x]).length : Nat) - 1 : Int) = xs.length := by rw [List.length_append, List.length_singleton]; omega
  rw [e, List.getD_eq_getElem?_getD, List.getElem?_append_right (Nat.le_refl _), Nat.sub_self]
  rfl

theorem lines_end {x : ByteArray} {p : List UInt8} (h : x.data.toList = p ++ [10]) : g9_0 x = bss (splitC 10 p) ∧ g9_1 x = true := by
  have e : g24_0 x 10 = bss (splitC 10 p) ++ [⟨⟨[]⟩⟩] := by
    show bss (splitC (10 : UInt8) x.data.toList) = _
    rw [h, splitC_end, bss_snoc]
  unfold g9_0 g9_1
  rw [e, snoc_take, snoc_last]
  exact ⟨rfl, (bytes_eq _ _).2 rfl⟩

theorem lines_none {x : ByteArray} (h : x.data.toList = []) : g9_0 x = [] ∧ g9_1 x = true := by
  have e : g24_0 x 10 = [] ++ [⟨⟨[]⟩⟩] := by
    show bss (splitC (10 : UInt8) x.data.toList) = _
    rw [h]; rfl
  unfold g9_0 g9_1
  rw [e, snoc_take, snoc_last]
  exact ⟨rfl, (bytes_eq _ _).2 rfl⟩

theorem lines_open {x : ByteArray} {q : List UInt8} {b : UInt8} (hb : b ≠ 10) (h : x.data.toList = q ++ [b]) : g9_1 x = false := by
  obtain ⟨init, last, e⟩ := splitC_open 10 hb q
  have e : g24_0 x 10 = bss init ++ [⟨⟨last ++ [b]⟩⟩] := by
    show bss (splitC (10 : UInt8) x.data.toList) = _
    rw [h, e, bss_snoc]
  unfold g9_1
  rw [e, snoc_last, Bool.eq_false_iff]
  intro hh
  have := congrArg (fun b : ByteArray => b.data.toList.length) ((bytes_eq _ _).1 hh)
  simp at this

end Go.Proofs.YtcppjmlhilklcaaGreatDoor

/- A law that says how functions of the program and of the specification hang together. -/
set_option linter.unusedVariables false
set_option linter.unusedSimpArgs false
set_option maxRecDepth 100000
namespace Go.Proofs.YtcppjmlhilklcaaGreatDoor
open Go Go.Am Go.Proofs

theorem marked_blk (xs : List (ByteArray × ByteArray × ByteArray × Unit)) (h : xs.length ≤ 1048576) : P7 xs 1 ∧ (u7_0 xs 1).length = xs.length ∧ ¬ g7_0 xs 1 < 0 := by
  have hl : (u7_0 xs 1).length = xs.length := by rw [u7_0, M7_len]
  refine ⟨⟨by omega, by omega⟩, hl, ?_⟩
  unfold g7_0
  omega

theorem marked2_blk (xs ys : List (ByteArray × ByteArray × ByteArray × Unit)) (h : xs.length + ys.length ≤ 1048576) : P7 ys (g7_0 xs 1) ∧ (u7_0 ys (g7_0 xs 1)).length = ys.length ∧ ¬ g7_0 ys (g7_0 xs 1) < 0 := by
  have hl : (u7_0 ys (g7_0 xs 1)).length = ys.length := by rw [u7_0, M7_len]
  refine ⟨⟨?_, ?_⟩, hl, ?_⟩ <;> unfold g7_0 <;> omega

end Go.Proofs.YtcppjmlhilklcaaGreatDoor

/- A law that says how functions of the program and of the specification hang together. -/
set_option linter.unusedVariables false
set_option linter.unusedSimpArgs false
set_option maxRecDepth 100000
namespace Go.Proofs.YtcppjmlhilklcaaGreatDoor
open Go Go.Am Go.Proofs

theorem held_blk (xs : List (ByteArray × ByteArray × ByteArray × Unit)) (h : xs.length ≤ 1048576) : P8 (u7_0 xs 1) 1 ∧ g8_0 (u7_0 xs 1) 1 = g7_0 xs 1 := by
  have hl : (u7_0 xs 1).length = xs.length := by rw [u7_0, M7_len]
  refine ⟨⟨⟨by omega, by rw [hl]; omega⟩, fun i hi => ?_⟩, ?_⟩
  · rw [hl] at hi
    rw [getD_lt _ _ _ (by rw [hl]; exact hi)]
    simp [u7_0, M7]
  · unfold g8_0 g7_0
    rw [hl]

end Go.Proofs.YtcppjmlhilklcaaGreatDoor

/- The plain law of FnExactLoadBlocks. -/
set_option linter.unusedVariables false
set_option linter.unusedSimpArgs false
set_option maxRecDepth 100000
namespace Go.Proofs.YtcppjmlhilklcaaGreatDoor
open Go Go.Am Go.Proofs

def AR : List UInt8 := [97, 114, 99, 104, 105, 118, 101]

theorem suf_iff (l : List UInt8) : g13_0 ⟨⟨l⟩⟩ (ByteArray.mk #[10]) = true ↔ ∃ p, l = p ++ [10] := by
  unfold g13_0 g30_0
  have hs : (ByteArray.mk ⟨l⟩).size = l.length := rfl
  have h1 : (ByteArray.mk #[10]).size = 1 := rfl
  rw [hs, h1]
  rcases List.eq_nil_or_concat l with rfl | ⟨q, b, rfl⟩
  · rw [if_neg (by decide)]
    constructor
    · intro h; cases h
    · rintro ⟨p, hp⟩; simp at hp
  · rw [List.concat_eq_append, if_pos (by simp only [decide_eq_true_eq, List.length_append, List.length_singleton]; omega)]
    have e1 : Int.toNat (((q ++ [b]).length : Nat) - (1 : Nat) : Int) = q.length := by rw [List.length_append, List.length_singleton]; omega
    have e2 : Int.toNat (((q ++ [b]).length : Nat) : Int) = q.length + 1 := by rw [List.length_append, List.length_singleton]; omega
    have e3 : ByteArray.extract ⟨⟨q ++ [b]⟩⟩ q.length (q.length + 1) = ⟨⟨[b]⟩⟩ := by
      have := Lib.extract_mk (q ++ [b]) q.length (q.length + 1)
      rw [List.drop_left, Nat.add_sub_cancel_left] at this
      exact this
    rw [e1, e2, e3, bytes_eq]
    constructor
    · intro h
      have : b = 10 := by simpa using h
      exact ⟨q, by rw [this]⟩
    · rintro ⟨p, hp⟩
      have := List.append_inj_right' hp rfl
      rw [this]

theorem trim10 (p : List UInt8) : g32_0 ⟨⟨p ++ [10]⟩⟩ (ByteArray.mk #[10]) = ⟨⟨p⟩⟩ := by
  unfold g32_0
  show (⟨(Lib.trimSuffix (p ++ [10]) [10]).toArray⟩ : ByteArray) = _
  have h : Lib.hasSuffix (p ++ [10]) [10] = true := by
    unfold Lib.hasSuffix
    rw [List.isSuffixOf_iff_suffix]
    exact ⟨p, rfl⟩
  unfold Lib.trimSuffix
  rw [if_pos h]
  simp

theorem text_end {p : List UInt8} : g14_0 ⟨⟨p ++ [10]⟩⟩ = bss (splitC 10 p) := by
  unfold g14_0
  rw [if_neg, trim10]
  · exact splitB_one 10 ⟨⟨p⟩⟩
  · intro hh
    have := congrArg (fun b : ByteArray => b.data.toList.length) ((bytes_eq _ _).1 hh)
    simp at this

/-- The first line of an archive of n blocks. -/
def HdL (w : ByteArray) (n : Int) : Prop := (0 ≤ n ∧ n ≤ 32) ∧ w.data.toList = AR ++ 32 :: (numB n).data.toList

theorem blank_num (n : Int) : (32 : UInt8) ∉ (numB n).data.toList := num_free (by unfold isD; decide) (by decide)

theorem in_L {n : Int} : g26_0 n 0 32 = true ↔ 0 ≤ n ∧ n ≤ 32 := by
  unfold g26_0
  by_cases c1 : n ≥ 0
  · have c1' : 0 ≤ n := c1
    by_cases c2 : n ≤ 32 <;> simp [c1, c2]
  · have c1' : ¬ 0 ≤ n := c1
    simp [c1']

theorem head_s1 {w : ByteArray} {n : Int} (h : HdL w n) : g10_0 w = n ∧ g10_1 w = true := by
  obtain ⟨hn, hw⟩ := h
  have e : g24_0 w 32 = [⟨⟨AR⟩⟩, numB n] := by
    show bss (splitC (32 : UInt8) w.data.toList) = _
    rw [hw, split_of_two (by decide) (blank_num n)]
    rfl
  obtain ⟨n0, n1⟩ := num_s1 (n := n) ⟨by omega, by omega⟩
  unfold g10_0 g10_1
  rw [e]
  have d0 : List.getD [(⟨⟨AR⟩⟩ : ByteArray), numB n] 0 ByteArray.empty = ByteArray.mk #[97, 114, 99, 104, 105, 118, 101] := rfl
  have d1 : List.getD [(⟨⟨AR⟩⟩ : ByteArray), numB n] 1 ByteArray.empty = numB n := rfl
  have l2 : ((([(⟨⟨AR⟩⟩ : ByteArray), numB n].length : Nat) : Int) != 2) = false := rfl
  rw [d0, d1, l2, n0, n1]
  have hi := in_L.2 hn
  simp [hi]

theorem head_s2 {w : ByteArray} (h : g10_1 w = true) : ∃ n, HdL w n := by
  unfold g10_1 at h
  have e : g24_0 w 32 = bss (splitC 32 w.data.toList) := rfl
  rw [e] at h
  split at h
  · cases h
  · rename_i h2
    have hl : (splitC 32 w.data.toList).length = 2 := by
      have h2' : ((bss (splitC 32 w.data.toList)).length : Int) = 2 := by simpa using h2
      rw [bss_len] at h2'; omega
    obtain ⟨a, b, eab⟩ := list_two hl
    have hj := split_two eab
    rw [eab] at h
    have d0 : List.getD (bss [a, b]) 0 ByteArray.empty = ⟨⟨a⟩⟩ := rfl
    have d1 : List.getD (bss [a, b]) 1 ByteArray.empty = ⟨⟨b⟩⟩ := rfl
    rw [d0, d1] at h
    split at h
    · cases h
    · rename_i h3
      have ha : (⟨⟨a⟩⟩ : ByteArray) = ByteArray.mk #[97, 114, 99, 104, 105, 118, 101] := by
        rw [← bytes_eq]; simpa using h3
      have ha' : a = AR := congrArg (fun b : ByteArray => b.data.toList) ha
      split at h
      · rename_i h4
        obtain ⟨n, hn, hb⟩ := num_s2 h4
        have hb' : b = (numB n).data.toList := congrArg (fun b : ByteArray => b.data.toList) hb
        rw [hb, (num_s1 hn).1] at h
        exact ⟨n, in_L.1 h, by rw [hj, ha', hb']⟩
      · cases h

theorem ar_trim {w : ByteArray} {n : Int} (hw : w.data.toList = AR ++ 32 :: (numB n).data.toList) : g16_0 w (ByteArray.mk #[97, 114, 99, 104, 105, 118, 101, 32]) = numB n := by
  unfold g16_0
  rw [hw]
  show (⟨(Lib.trimPrefix ([97, 114, 99, 104, 105, 118, 101] ++ 32 :: (numB n).data.toList) [97, 114, 99, 104, 105, 118, 101, 32]).toArray⟩ : ByteArray) = numB n
  unfold Lib.trimPrefix Lib.hasPrefix
  rw [if_pos (by simp [List.isPrefixOf])]
  simp

theorem ar_text (n : Int) : (ByteArray.mk #[97, 114, 99, 104, 105, 118, 101, 32] ++ numB n).data.toList = AR ++ 32 :: (numB n).data.toList := by
  rw [app_list]; rfl

/-- The first line, as the program takes it. -/
def okI (w : ByteArray) : Bool := g15_1 (g16_0 w (ByteArray.mk #[97, 114, 99, 104, 105, 118, 101, 32])) && g17_0 (g15_0 (g16_0 w (ByteArray.mk #[97, 114, 99, 104, 105, 118, 101, 32]))) 0 32 && (ByteArray.toList w == ByteArray.toList (ByteArray.mk #[97, 114, 99, 104, 105, 118, 101, 32] ++ g18_0 (g15_0 (g16_0 w (ByteArray.mk #[97, 114, 99, 104, 105, 118, 101, 32])))))

theorem head_i1 {w : ByteArray} {n : Int} (h : HdL w n) : g15_0 (g16_0 w (ByteArray.mk #[97, 114, 99, 104, 105, 118, 101, 32])) = n ∧ okI w = true := by
  obtain ⟨hn, hw⟩ := h
  obtain ⟨n0, n1⟩ := rd_i1 (n := n) ⟨by omega, by omega⟩
  unfold okI
  rw [ar_trim hw, n0, n1]
  have hi : g17_0 n 0 32 = true := in_L.2 hn
  have he : (ByteArray.toList w == ByteArray.toList (ByteArray.mk #[97, 114, 99, 104, 105, 118, 101, 32] ++ g18_0 n)) = true := by
    rw [bytes_eq]
    refine bytes_ext ?_
    rw [hw]
    exact (ar_text n).symm
  rw [hi, he]
  exact ⟨rfl, rfl⟩

theorem head_i2 {w : ByteArray} (h : okI w = true) : ∃ n, HdL w n := by
  unfold okI at h
  rw [Bool.and_eq_true, Bool.and_eq_true] at h
  obtain ⟨⟨_, h2⟩, h3⟩ := h
  refine ⟨_, in_L.1 h2, ?_⟩
  have := (bytes_eq _ _).1 h3
  conv => lhs; rw [this]
  exact ar_text _

theorem ord_eq (h : List (ByteArray × ByteArray × ByteArray × Unit)) (b : (ByteArray × ByteArray × ByteArray × Unit)) : ord5 h b = ord4 h b := by
  unfold ord5 ord4
  rw [← before_cmp, Bool.not_not]

theorem ld_eq : ∀ (l : List ByteArray) (i : Nat) (h : List (ByteArray × ByteArray × ByteArray × Unit)), ld5 l i h = ld4 l (i + 1) h
  | [], _, _ => rfl
  | w :: r, i, h => by
    obtain ⟨e0, e1⟩ := parse_eq w
    have e2 : (i : Int) + 2 = ((i + 1 : Nat) : Int) + 1 := by omega
    unfold ld5 ld4
    rw [e0, e1, e2, ord_eq, ld_eq r (i + 1)]

theorem out_eq (n : Int) (s : (Int × Int) ⊕ List (ByteArray × ByteArray × ByteArray × Unit)) : out5 n s = out4 n s := by
  cases s <;> rfl

theorem out_len {n : Int} (hn : n ≤ 32) (s : (Int × Int) ⊕ List (ByteArray × ByteArray × ByteArray × Unit)) : (out4 n s).1.length ≤ 1048576 := by
  cases s with
  | inl p => exact Nat.zero_le _
  | inr h =>
    unfold out4
    simp only
    split
    · rename_i e; show h.length ≤ _; omega
    · exact Nat.zero_le _

theorem sizeC (c : UInt8) : ∀ (l p : List UInt8), p ∈ splitC c l → p.length ≤ l.length := fun l p hp => by
  have e := splitB_one c ⟨⟨l⟩⟩
  have hm : (⟨⟨p⟩⟩ : ByteArray) ∈ bss (splitC c l) := List.mem_map.2 ⟨p, hp, rfl⟩
  have h2 : (⟨⟨p⟩⟩ : ByteArray) ∈ Lib.splitB ⟨#[c]⟩ 0 (Lib.countB ⟨⟨l⟩⟩ ⟨#[c]⟩) ⟨⟨l⟩⟩ := by rw [e]; exact hm
  exact splitB_part _ _ _ _ _ h2

theorem load_eq (x : ByteArray) (hx : x.size ≤ 1048576) : P4 x ∧ P5 x ∧ all5 x = all4 x ∧ (all4 x).1.length ≤ 1048576 := by
  obtain ⟨⟨l⟩⟩ := x
  have hz : (ByteArray.mk ⟨l⟩).size = l.length := rfl
  rw [hz] at hx
  have hpp : P24 ⟨⟨l⟩⟩ 10 := ⟨by omega, by omega, by omega⟩
  have hlenS : (g24_0 ⟨⟨l⟩⟩ 10).length = l.count 10 + 1 := by
    show (bss (splitC (10 : UInt8) l)).length = _
    rw [bss_len, splitC_length]
  have hcS : l.count (10 : UInt8) ≤ l.length := List.count_le_length
  have pL : P9 ⟨⟨l⟩⟩ := by
    unfold P9
    generalize g24_0 ⟨⟨l⟩⟩ 10 = L at *
    exact ⟨hpp, by rw [i64_iff]; omega, by omega, by omega, by omega, by omega, trivial⟩
  have pH : P13 ⟨⟨l⟩⟩ (ByteArray.mk #[10]) := by
    unfold P13 P30
    have h1 : (ByteArray.mk #[10]).size = 1 := rfl
    rw [hz, h1]
    refine ⟨?_, trivial⟩
    split
    · rename_i h
      have h' := of_decide_eq_true h
      exact ⟨by rw [i64_iff]; omega, by omega, by omega, trivial⟩
    · trivial
  have ptl : P14 ⟨⟨l⟩⟩ := by
    unfold P14
    refine ifT2 fun _ => ⟨⟨?_, Nat.le_refl 1⟩, trivial⟩
    show (List.toArray _).size < _
    rw [List.size_toArray]
    have e : (ByteArray.mk ⟨l⟩).data.toList.length = l.length := rfl
    unfold Lib.trimSuffix
    split
    · rw [List.length_take]; omega
    · omega
  have pHd : ∀ w : ByteArray, w.size ≤ 1048576 → P10 w := fun w hw => by
    unfold P10
    refine ⟨⟨by omega, by omega, by omega⟩, ifT2 fun h2 => ?_⟩
    have h2' : ((g24_0 w 32).length : Int) = 2 := by simpa using h2
    exact ⟨by omega, ifT2 fun _ => ⟨by omega, trivial⟩⟩
  by_cases hs : ∃ p, l = p ++ [10]
  · obtain ⟨p, rfl⟩ := hs
    have hsf := (suf_iff (p ++ [10])).2 ⟨p, rfl⟩
    obtain ⟨l0, l1⟩ := lines_end (x := ⟨⟨p ++ [10]⟩⟩) (p := p) rfl
    have tl := text_end (p := p)
    have els : ls4 ⟨⟨p ++ [10]⟩⟩ = bss (splitC 10 p) := l0
    have eli : ls5 ⟨⟨p ++ [10]⟩⟩ = bss (splitC 10 p) := tl
    have hpl : p.length + 1 ≤ 1048576 := by rw [List.length_append, List.length_singleton] at hx; exact hx
    have hcp : p.count (10 : UInt8) ≤ p.length := List.count_le_length
    have hn : (bss (splitC 10 p)).length = p.count 10 + 1 := by rw [bss_len, splitC_length]
    have hsz : ∀ w ∈ bss (splitC 10 p), w.size ≤ 1048576 := fun w hw => by
      obtain ⟨q, hq, rfl⟩ := List.mem_map.1 hw
      have := sizeC 10 p q hq
      show q.length ≤ _
      omega
    have hhd : (bss (splitC 10 p)).getD 0 ByteArray.empty ∈ bss (splitC 10 p) := mem_getD _ 0 _ (by omega)
    have hw := hsz _ hhd
    refine ⟨⟨pL, by rw [els]; omega, fun _ => by rw [els]; exact pHd _ hw⟩, ⟨pH, ptl, fun _ => by rw [eli]; omega, by rw [eli]; omega, ?_, ?_⟩, ?_⟩
    · show ((ls5 _).getD 0 ByteArray.empty).size ≤ _
      rw [eli]; exact hw
    · rw [eli]; exact fun w hw => parse_pre w (hsz w hw)
    · have ei : all5 ⟨⟨p ++ [10]⟩⟩ = if okI ((bss (splitC 10 p)).getD 0 ByteArray.empty) = false then ([], 1, 9) else out5 (g15_0 (g16_0 ((bss (splitC 10 p)).getD 0 ByteArray.empty) (ByteArray.mk #[97, 114, 99, 104, 105, 118, 101, 32]))) (ld5 ((bss (splitC 10 p)).drop 1) 0 []) := by
        unfold all5 ok5 num5 tp5 hd5
        rw [hsf, if_neg (show ¬ true = false by decide), eli]
        rfl
      have es : all4 ⟨⟨p ++ [10]⟩⟩ = if g10_1 ((bss (splitC 10 p)).getD 0 ByteArray.empty) = false then ([], 1, 9) else out4 (g10_0 ((bss (splitC 10 p)).getD 0 ByteArray.empty)) (ld4 ((bss (splitC 10 p)).drop 1) 1 []) := by
        unfold all4
        rw [l1, els, if_neg (fun h => by rcases h with h | h; cases h; omega)]
      rw [ei, es]
      generalize (bss (splitC 10 p)).getD 0 ByteArray.empty = w
      by_cases hA : ∃ n, HdL w n
      · obtain ⟨n, hA⟩ := hA
        obtain ⟨i0, i1⟩ := head_i1 hA
        obtain ⟨s0, s1⟩ := head_s1 hA
        rw [i0, i1, s0, s1, if_neg (show ¬ true = false by decide), if_neg (show ¬ true = false by decide), out_eq, ld_eq]
        exact ⟨rfl, out_len hA.1.2 _⟩
      · have i1 : okI w = false := by rw [Bool.eq_false_iff]; exact fun h => hA (head_i2 h)
        have s1 : g10_1 w = false := by rw [Bool.eq_false_iff]; exact fun h => hA (head_s2 h)
        rw [i1, s1, if_pos rfl, if_pos rfl]
        exact ⟨rfl, Nat.zero_le _⟩
  · have hsf : g13_0 ⟨⟨l⟩⟩ (ByteArray.mk #[10]) = false := by rw [Bool.eq_false_iff]; exact fun h => hs ((suf_iff l).1 h)
    have ei : all5 ⟨⟨l⟩⟩ = ([], 0, 11) := by unfold all5; rw [hsf, if_pos rfl]
    have hlI : (ls5 ⟨⟨l⟩⟩).length ≤ 1048577 ∧ ∀ w ∈ ls5 ⟨⟨l⟩⟩, w.size ≤ 1048576 := by
      unfold ls5 g14_0
      split
      · exact ⟨Nat.zero_le _, fun w hw => by cases hw⟩
      · have ht : (g32_0 ⟨⟨l⟩⟩ (ByteArray.mk #[10])).size ≤ l.length := by
          show (List.toArray _).size ≤ _
          rw [List.size_toArray]
          have e : (ByteArray.mk ⟨l⟩).data.toList.length = l.length := rfl
          unfold Lib.trimSuffix
          split
          · rw [List.length_take]; omega
          · omega
        generalize g32_0 ⟨⟨l⟩⟩ (ByteArray.mk #[10]) = t at *
        have e : g31_0 t (ByteArray.mk #[10]) = bss (splitC 10 t.data.toList) := splitB_one 10 t
        have hc : t.data.toList.count (10 : UInt8) ≤ t.size := List.count_le_length
        refine ⟨by rw [e, bss_len, splitC_length]; omega, fun w hw => ?_⟩
        have := splitB_part _ _ _ _ w hw
        omega
    have hhd : (hd5 ⟨⟨l⟩⟩).size ≤ 1048576 := by
      unfold hd5
      cases h : ls5 ⟨⟨l⟩⟩ with
      | nil => exact Nat.zero_le _
      | cons w r => exact hlI.2 w (by rw [h]; exact List.mem_cons_self ..)
    have hlS : (ls4 ⟨⟨l⟩⟩).length ≤ 1048577 ∧ ∀ w ∈ ls4 ⟨⟨l⟩⟩, w.size ≤ 1048576 := by
      unfold ls4 g9_0
      refine ⟨by rw [List.length_drop, List.length_take]; omega, fun w hw => ?_⟩
      have hw' : w ∈ bss (splitC (10 : UInt8) l) := List.mem_of_mem_take (List.mem_of_mem_drop hw)
      obtain ⟨q, hq, rfl⟩ := List.mem_map.1 hw'
      have := sizeC 10 l q hq
      show q.length ≤ _
      omega
    have es : all4 ⟨⟨l⟩⟩ = ([], 0, 11) := by
      unfold all4
      rw [if_pos]
      rcases List.eq_nil_or_concat l with rfl | ⟨q, b, rfl⟩
      · right
        show (g9_0 _).length = 0
        rw [(lines_none rfl).1]; rfl
      · left
        rw [List.concat_eq_append] at *
        exact lines_open (b := b) (q := q) (fun e => hs ⟨q, by rw [e]⟩) rfl
    refine ⟨⟨pL, hlS.1, fun h0 => pHd _ (hlS.2 _ (mem_getD _ 0 _ (by omega)))⟩, ⟨pH, ptl, (fun h => by rw [hsf] at h; cases h), hlI.1, hhd, fun w hw => parse_pre w (hlI.2 w hw)⟩, ?_⟩
    rw [ei, es]
    exact ⟨rfl, Nat.zero_le _⟩

theorem law3 (x : ByteArray) (hw : Wf .str x) : P3 x ∧ g3_0 x = true := by
  unfold P3 g3_0
  by_cases h : (x.size : Int) > 1048576
  · simp only [h, decide_true, if_true, and_self]
  · obtain ⟨q2, q1, e, hl⟩ := load_eq x (by omega)
    have e0 : g5_0 x = g4_0 x := by unfold g5_0 g4_0; rw [e]
    have e1 : g5_1 x = g4_1 x := by unfold g5_1 g4_1; rw [e]
    have e2 : g5_2 x = g4_2 x := by unfold g5_2 g4_2; rw [e]
    have hl' : (g4_0 x).length ≤ 1048576 := hl
    obtain ⟨c1, c2, c3⟩ := marked_blk (g4_0 x) hl'
    obtain ⟨d1, d2⟩ := held_blk (g4_0 x) hl'
    simp only [h, decide_false, Bool.false_eq_true, if_false, e0, e1, e2, q1, q2, g6_0, decide_true, Bool.not_true, bne_self_eq_false, beq_self_eq_true, c1, c2, c3, d1, d2, true_and, and_self]

end Go.Proofs.YtcppjmlhilklcaaGreatDoor
