/- Several texts in one: the functions that this law reaches, and their laws. -/
import Derived.Test.YtjkeinpcphkfbaaZ12A
import Derived.Test.YtjkeinpcphkfbaaZ12B
import Derived.Shelf.Strings.Builder1
import Derived.Shelf.Strings.Builder2
import Derived.Shelf.Small.Bits
import Derived.Shelf.Strings.BuilderF
import Derived.Shelf.Strings.BuilderK
import Derived.Shelf.Strings.Builder2Cap
import Derived.Shelf.Strconv.Itoa0
import Derived.Shelf.Strings.Search1
import Derived.Shelf.Strings.Search2
import Derived.Shelf.Strings.Search3
import Derived.Shelf.LaysM
import Derived.Shelf.Strings.Shaped
import Derived.Shelf.Sort.Plain
import Derived.Shelf.Strings.Prefix
import Derived.Shelf.Bits.Mul64
import Derived.Shelf.Strings.Repeat
import Derived.Shelf.Strings.BuilderCap
import Derived.Ground.Names2Prog
import Derived.Shelf.Slices.Clone
import Derived.Shelf.Slices.In.SortNone
import Derived.Ground.SlgnProg
import Derived.Shelf.SlicesE.Clone
import Derived.Ground.SlgfProg
import Derived.Shelf.SlicesE.IndexFunc

/- Function 111 (slices.ContainsFunc[[]byte,byte]): its runs between cut points. Written by a program of this repo (gen). -/
set_option linter.unusedVariables false
set_option linter.unusedSimpArgs false
set_option maxRecDepth 100000
namespace Go.Proofs.Ytjkeinpcphkfbaa
open Go Go.Am Go.Proofs
def ext111c112 : Ext := [(134, S134c112), (112, S112)]
theorem call111c112_134 : Callable Try.prog 134 := ⟨Try.f134, Try.func134, by kernel_rfl, by kernel_rfl⟩
theorem call111c112_112 : Callable Try.prog 112 := ⟨Try.f112, Try.func112, by kernel_rfl, by kernel_rfl⟩
theorem ext111c112Ok : ExtOk Try.prog ext111c112 := ⟨⟨call111c112_134, con134c112⟩, ⟨call111c112_112, con112⟩, trivial⟩
/-! Function 111c112. -/
noncomputable def b111c112 : Code := bodyOf Try.f111
theorem hb111c112 : Try.f111.body = some b111c112 := by kernel_rfl
def sig111c112 : List AT := [AT.v (Ty.sl (Ty.int IntKind.u8)), AT.fn 112 []]
def tys111c112 : List Ty := [Ty.bool]
def P111c112 (x0 : List Int) : Prop := True
def g111c112_0 (x0 : List Int) : Bool := Decidable.decide (g134c112_0 x0 ≥ 0)
theorem p111c112_0 (x0 : List Int) : runF tab ext111c112 false 9 [] 2000 [] tys111c112 Try.f111.results [] [.code b111c112] (entE 0 0 sig111c112 (x0, (), ())) (entL sig111c112 (x0, (), ())) = some ([Dyn.mk Ty.bool (Decidable.decide (g134c112_0 x0 ≥ 0))], [], [True]) := by kernel_rfl
theorem at111c112 (x0 : List Int) (h : P111c112 x0) (w0 : World) (O : List Nat) (q : Nat → Value) : AtV Try.prog 111 (PostR [⟨Ty.bool, g111c112_0 x0⟩] [] [] q w0 O) 9 w0 O q [] [.code b111c112] (entE 0 0 sig111c112 (x0, (), ())) (entL sig111c112 (x0, (), ())) := by
  unfold P111c112 at h
  unfold g111c112_0
  exact AtV.fin Try.func111 tabOk ext111c112Ok mixed (p111c112_0 x0) ⟨trivial, trivial⟩

def S111c112 : Am.Spec := { sig := sig111c112, pre := fun ⟨x0, _⟩ => P111c112 x0, res := fun ⟨x0, _⟩ => [⟨Ty.bool, g111c112_0 x0⟩] }
theorem con111c112 : Contract Try.prog 111 S111c112 := contract_of Try.func111 hb111c112 (Nat.le_of_ble_eq_true (by kernel_rfl)) (fun ⟨x0, _⟩ h _ w0 O q => at111c112 x0 h w0 O q)


end Go.Proofs.Ytjkeinpcphkfbaa

/- Function 78 (impl.isReportLine): its runs between cut points. Written by a program of this repo (gen). -/
set_option linter.unusedVariables false
set_option linter.unusedSimpArgs false
set_option maxRecDepth 100000
namespace Go.Proofs.Ytjkeinpcphkfbaa
open Go Go.Am Go.Proofs
def ext78 : Ext := [(111, S111c112)]
theorem call78_111 : Callable Try.prog 111 := ⟨Try.f111, Try.func111, by kernel_rfl, by kernel_rfl⟩
theorem ext78Ok : ExtOk Try.prog ext78 := ⟨⟨call78_111, con111c112⟩, trivial⟩
/-! Function 78. -/
noncomputable def b78 : Code := bodyOf Try.f78
theorem hb78 : Try.f78.body = some b78 := by kernel_rfl
def sig78 : List AT := [AT.v (Ty.str)]
def tys78 : List Ty := [Ty.bool]
def P78 (x0 : ByteArray) : Prop := True
def g78_0 (x0 : ByteArray) : Bool := (if (Decidable.decide ((↑(ByteArray.size x0) : Int) ≤ 100)) = true then !g111c112_0 (bytesOf x0) else Bool.false)
theorem p78_0 (x0 : ByteArray) : runF tab ext78 false 12 [] 2000 [] tys78 Try.f78.results [true] [.code b78] (entE 0 0 sig78 (x0, ())) (entL sig78 (x0, ())) = some ([Dyn.mk Ty.bool !g111c112_0 (bytesOf x0)], [], [Decidable.decide ((↑(ByteArray.size x0) : Int) ≤ 100) = Bool.true, True]) := by kernel_rfl
theorem p78_1 (x0 : ByteArray) : runF tab ext78 false 12 [] 2000 [] tys78 Try.f78.results [false] [.code b78] (entE 0 0 sig78 (x0, ())) (entL sig78 (x0, ())) = some ([Dyn.mk Ty.bool Bool.false], [], [Decidable.decide ((↑(ByteArray.size x0) : Int) ≤ 100) = Bool.false]) := by kernel_rfl
theorem at78 (x0 : ByteArray) (h : P78 x0) (w0 : World) (O : List Nat) (q : Nat → Value) : AtV Try.prog 78 (PostR [⟨Ty.bool, g78_0 x0⟩] [] [] q w0 O) 12 w0 O q [] [.code b78] (entE 0 0 sig78 (x0, ())) (entL sig78 (x0, ())) := by
  unfold P78 at h
  unfold g78_0
  by_cases b0 : (Decidable.decide ((↑(ByteArray.size x0) : Int) ≤ 100)) = true
  · try simp only [if_pos b0] at h ⊢
    exact AtV.fin Try.func78 tabOk ext78Ok mixed (p78_0 x0) ⟨b0, trivial, trivial⟩
  · try simp only [if_neg b0] at h ⊢
    replace b0 := Bool.eq_false_iff.2 b0
    exact AtV.fin Try.func78 tabOk ext78Ok mixed (p78_1 x0) ⟨b0, trivial⟩

def S78 : Am.Spec := { sig := sig78, pre := fun ⟨x0, _⟩ => P78 x0, res := fun ⟨x0, _⟩ => [⟨Ty.bool, g78_0 x0⟩] }
theorem con78 : Contract Try.prog 78 S78 := contract_of Try.func78 hb78 (Nat.le_of_ble_eq_true (by kernel_rfl)) (fun ⟨x0, _⟩ h _ w0 O q => at78 x0 h w0 O q)


end Go.Proofs.Ytjkeinpcphkfbaa

/- Function 110 (impl.ValidReport$1): its runs between cut points. Written by a program of this repo (gen). -/
set_option linter.unusedVariables false
set_option linter.unusedSimpArgs false
set_option maxRecDepth 100000
namespace Go.Proofs.Ytjkeinpcphkfbaa
open Go Go.Am Go.Proofs
def ext110 : Ext := [(78, S78)]
theorem call110_78 : Callable Try.prog 78 := ⟨Try.f78, Try.func78, by kernel_rfl, by kernel_rfl⟩
theorem ext110Ok : ExtOk Try.prog ext110 := ⟨⟨call110_78, con78⟩, trivial⟩
/-! Function 110. -/
noncomputable def b110 : Code := bodyOf Try.f110
theorem hb110 : Try.f110.body = some b110 := by kernel_rfl
def sig110 : List AT := [AT.v (Ty.str)]
def tys110 : List Ty := [Ty.bool]
def P110 (x0 : ByteArray) : Prop := True
def g110_0 (x0 : ByteArray) : Bool := !g78_0 x0
theorem p110_0 (x0 : ByteArray) : runF tab ext110 false 6 [] 2000 [] tys110 Try.f110.results [] [.code b110] (entE 0 0 sig110 (x0, ())) (entL sig110 (x0, ())) = some ([Dyn.mk Ty.bool !g78_0 x0], [], [True]) := by kernel_rfl
theorem at110 (x0 : ByteArray) (h : P110 x0) (w0 : World) (O : List Nat) (q : Nat → Value) : AtV Try.prog 110 (PostR [⟨Ty.bool, g110_0 x0⟩] [] [] q w0 O) 6 w0 O q [] [.code b110] (entE 0 0 sig110 (x0, ())) (entL sig110 (x0, ())) := by
  unfold P110 at h
  unfold g110_0
  exact AtV.fin Try.func110 tabOk ext110Ok mixed (p110_0 x0) ⟨trivial, trivial⟩

def S110 : Am.Spec := { sig := sig110, pre := fun ⟨x0, _⟩ => P110 x0, res := fun ⟨x0, _⟩ => [⟨Ty.bool, g110_0 x0⟩] }
theorem con110 : Contract Try.prog 110 S110 := contract_of Try.func110 hb110 (Nat.le_of_ble_eq_true (by kernel_rfl)) (fun ⟨x0, _⟩ h _ w0 O q => at110 x0 h w0 O q)


end Go.Proofs.Ytjkeinpcphkfbaa

/- Function 133 (slices.IndexFunc[[]string,string]): its runs between cut points. Written by a program of this repo (gen). -/
set_option linter.unusedVariables false
set_option linter.unusedSimpArgs false
set_option maxRecDepth 100000
namespace Go.Proofs.Ytjkeinpcphkfbaa
open Go Go.Am Go.Proofs
def ext133c110 : Ext := [(110, S110)]
theorem call133c110_110 : Callable Try.prog 110 := ⟨Try.f110, Try.func110, by kernel_rfl, by kernel_rfl⟩
theorem ext133c110Ok : ExtOk Try.prog ext133c110 := ⟨⟨call133c110_110, con110⟩, trivial⟩
/-! Function 133c110. -/
noncomputable def b133c110 : Code := bodyOf Try.f133
theorem hb133c110 : Try.f133.body = some b133c110 := by kernel_rfl
def sig133c110 : List AT := [AT.v (Ty.sl Ty.str), AT.fn 110 []]
def tys133c110 : List Ty := [Ty.int IntKind.i64]
def E133c110_2 (v8 : Int) (x0 : List ByteArray) : Env := [(0, PV.a (Atom.sl Ty.str x0)), (1, PV.fn 110 []), (7, PV.a (Atom.val (Value.int IntKind.i64 (↑(List.length x0) : Int)))), (8, PV.a (Atom.val (Value.int IntKind.i64 v8)))]
def L133c110_2 (v8 : Int) (x0 : List ByteArray) : Heap := []
mutual
def R133c110 : Nat → List ByteArray → List Dyn → Prop
  | 0, _, _ => False
  | n + 1, x0, ds => (R133c110_2 n (0) (x0) ds)
def R133c110_2 : Nat → Int → List ByteArray → List Dyn → Prop
  | 0, _, _, _ => False
  | n + 1, v8, x0, ds => (if (Decidable.decide (v8 < (↑(List.length x0) : Int))) = true then ((0 ≤ v8) ∧ (v8 < (↑(List.length x0) : Int)) ∧ (if (g110_0 (List.getD x0 (Int.toNat v8) ByteArray.empty)) = true then (ds = [Dyn.mk (Ty.int IntKind.i64) v8]) else ((InR IntKind.i64 (v8 + 1)) ∧ (R133c110_2 n (v8 + 1) (x0) ds)))) else (ds = [Dyn.mk (Ty.int IntKind.i64) (-1)]))
end
theorem p133c110_0 (x0 : List ByteArray) : Am.runN tab ext133c110 false 19 [] 2000 [] [] [0, 1, 7, 8] [] [] [.code b133c110] (entE 0 0 sig133c110 (x0, (), ())) (entL sig133c110 (x0, (), ())) = some (cutAt b133c110 2, E133c110_2 (0) (x0), L133c110_2 (0) (x0), []) := by kernel_rfl
theorem p133c110_1 (v8 : Int) (x0 : List ByteArray) : runF tab ext133c110 false 19 [] 2000 [] tys133c110 Try.f133.results [true, true] (cutAt b133c110 2) (E133c110_2 v8 x0) (L133c110_2 v8 x0) = some ([Dyn.mk (Ty.int IntKind.i64) v8], [], [Decidable.decide (v8 < (↑(List.length x0) : Int)) = Bool.true, 0 ≤ v8, v8 < (↑(List.length x0) : Int), True, g110_0 (List.getD x0 (Int.toNat v8) ByteArray.empty) = Bool.true]) := by kernel_rfl
theorem p133c110_2 (v8 : Int) (x0 : List ByteArray) : Am.runN tab ext133c110 false 19 [] 2000 [] [] [0, 1, 7, 8] [] [true, false] (cutAt b133c110 2) (E133c110_2 v8 x0) (L133c110_2 v8 x0) = some (cutAt b133c110 2, E133c110_2 (v8 + 1) (x0), L133c110_2 (v8 + 1) (x0), [Decidable.decide (v8 < (↑(List.length x0) : Int)) = Bool.true, 0 ≤ v8, v8 < (↑(List.length x0) : Int), True, g110_0 (List.getD x0 (Int.toNat v8) ByteArray.empty) = Bool.false, InR IntKind.i64 (v8 + 1)]) := by kernel_rfl
theorem p133c110_3 (v8 : Int) (x0 : List ByteArray) : runF tab ext133c110 false 19 [] 2000 [] tys133c110 Try.f133.results [false] (cutAt b133c110 2) (E133c110_2 v8 x0) (L133c110_2 v8 x0) = some ([Dyn.mk (Ty.int IntKind.i64) (-1)], [], [Decidable.decide (v8 < (↑(List.length x0) : Int)) = Bool.false]) := by kernel_rfl
theorem snd133c110 : ∀ n, (∀ (x0 : List ByteArray) ds, R133c110 n x0 ds → ∀ w0 O q, AtV Try.prog 133 (PostR ds [] [] q w0 O) 19 w0 O q [] [.code b133c110] (entE 0 0 sig133c110 (x0, (), ())) (entL sig133c110 (x0, (), ()))) ∧ (∀ (v8 : Int) (x0 : List ByteArray) ds, R133c110_2 n v8 x0 ds → ∀ w0 O q, AtV Try.prog 133 (PostR ds [] [] q w0 O) 19 w0 O q [] (cutAt b133c110 2) (E133c110_2 v8 x0) (L133c110_2 v8 x0)) := by
  intro n
  induction n with
  | zero => exact ⟨fun _ _ h => by simp only [R133c110] at h, fun _ _ _ h => by simp only [R133c110_2] at h⟩
  | succ n ih =>
  obtain ⟨ih, ih2⟩ := ih
  refine ⟨?_, ?_⟩
  · intro x0 ds h w0 O q
    rw [R133c110] at h
    exact AtV.runN tabOk ext133c110Ok mixed (p133c110_0 x0) trivial (ih2 _ _ _ h w0 O q)

  · intro v8 x0 ds h w0 O q
    rw [R133c110_2] at h
    by_cases b0 : (Decidable.decide (v8 < (↑(List.length x0) : Int))) = true
    · rw [if_pos b0] at h
      obtain ⟨s0, s1, h⟩ := h
      by_cases b1 : (g110_0 (List.getD x0 (Int.toNat v8) ByteArray.empty)) = true
      · rw [if_pos b1] at h
        subst h
        exact AtV.fin Try.func133 tabOk ext133c110Ok mixed (p133c110_1 v8 x0) ⟨b0, s0, s1, trivial, b1, trivial⟩
      · rw [if_neg b1] at h
        replace b1 := Bool.eq_false_iff.2 b1
        obtain ⟨s2, h⟩ := h
        exact AtV.runN tabOk ext133c110Ok mixed (p133c110_2 v8 x0) ⟨b0, s0, s1, trivial, b1, s2, trivial⟩ (ih2 _ _ _ h w0 O q)
    · rw [if_neg b0] at h
      replace b0 := Bool.eq_false_iff.2 b0
      subst h
      exact AtV.fin Try.func133 tabOk ext133c110Ok mixed (p133c110_3 v8 x0) ⟨b0, trivial⟩



def g133c110_0 (x0 : List (ByteArray)) : Int := idx (x0.findIdx? g110_0)
def P133c110 (x0 : List (ByteArray)) : Prop := True

theorem top133c110 (x0 : List (ByteArray)) (hm : x0.length ≤ maxLen) : R133c110 (x0.length + 1 + 1) x0 [⟨.int .i64, g133c110_0 x0⟩] := by
  rw [R133c110]
  have key := loop_find x0 ByteArray.empty g110_0 [(⟨.int .i64, -1⟩ : Dyn)] (fun k => [⟨.int .i64, k⟩]) (fun n i ds => R133c110_2 n i x0 ds) (fun n => ?_) (fun n i hi hok ds hr => ?_) (fun n i hi hok => ?_)
  · unfold g133c110_0
    cases h : x0.findIdx? g110_0 <;> rw [h] at key <;> exact key
  · rw [R133c110_2, if_neg (by simp)]
  · rw [R133c110_2, if_pos (by simp; omega)]
    simp only [Int.toNat_natCast]
    refine ⟨by omega, by omega, ?_⟩
    rw [if_neg (by rw [hok]; simp)]
    exact ⟨inR_up hm hi, hr⟩
  · rw [R133c110_2, if_pos (by simp; omega)]
    simp only [Int.toNat_natCast]
    refine ⟨by omega, by omega, ?_⟩
    rw [if_pos hok] <;> trivial

def S133c110 : Am.Spec := { sig := sig133c110, pre := fun ⟨x0, _⟩ => P133c110 x0, res := fun ⟨x0, _⟩ => [⟨Ty.int .i64, g133c110_0 x0⟩] }
theorem con133c110 : Contract Try.prog 133 S133c110 := contract_of Try.func133 hb133c110 (Nat.le_of_ble_eq_true (by kernel_rfl)) (fun ⟨x0, _⟩ h hwf w0 O q =>
  (snd133c110 _).1 x0 _ (top133c110 x0 hwf.1.1) w0 O q)

theorem any133c110 (x0 : List (ByteArray)) : decide (g133c110_0 x0 ≥ 0) = x0.any g110_0 := by
  have := findIdx_any g110_0 x0
  unfold g133c110_0
  cases h : x0.any g110_0 with
  | true => rw [h] at this; simpa using this
  | false => rw [h] at this; simpa using this

end Go.Proofs.Ytjkeinpcphkfbaa

/- Function 109 (slices.ContainsFunc[[]string,string]): its runs between cut points. Written by a program of this repo (gen). -/
set_option linter.unusedVariables false
set_option linter.unusedSimpArgs false
set_option maxRecDepth 100000
namespace Go.Proofs.Ytjkeinpcphkfbaa
open Go Go.Am Go.Proofs
def ext109c110 : Ext := [(133, S133c110), (110, S110)]
theorem call109c110_133 : Callable Try.prog 133 := ⟨Try.f133, Try.func133, by kernel_rfl, by kernel_rfl⟩
theorem call109c110_110 : Callable Try.prog 110 := ⟨Try.f110, Try.func110, by kernel_rfl, by kernel_rfl⟩
theorem ext109c110Ok : ExtOk Try.prog ext109c110 := ⟨⟨call109c110_133, con133c110⟩, ⟨call109c110_110, con110⟩, trivial⟩
/-! Function 109c110. -/
noncomputable def b109c110 : Code := bodyOf Try.f109
theorem hb109c110 : Try.f109.body = some b109c110 := by kernel_rfl
def sig109c110 : List AT := [AT.v (Ty.sl Ty.str), AT.fn 110 []]
def tys109c110 : List Ty := [Ty.bool]
def P109c110 (x0 : List ByteArray) : Prop := True
def g109c110_0 (x0 : List ByteArray) : Bool := Decidable.decide (g133c110_0 x0 ≥ 0)
theorem p109c110_0 (x0 : List ByteArray) : runF tab ext109c110 false 9 [] 2000 [] tys109c110 Try.f109.results [] [.code b109c110] (entE 0 0 sig109c110 (x0, (), ())) (entL sig109c110 (x0, (), ())) = some ([Dyn.mk Ty.bool (Decidable.decide (g133c110_0 x0 ≥ 0))], [], [True]) := by kernel_rfl
theorem at109c110 (x0 : List ByteArray) (h : P109c110 x0) (w0 : World) (O : List Nat) (q : Nat → Value) : AtV Try.prog 109 (PostR [⟨Ty.bool, g109c110_0 x0⟩] [] [] q w0 O) 9 w0 O q [] [.code b109c110] (entE 0 0 sig109c110 (x0, (), ())) (entL sig109c110 (x0, (), ())) := by
  unfold P109c110 at h
  unfold g109c110_0
  exact AtV.fin Try.func109 tabOk ext109c110Ok mixed (p109c110_0 x0) ⟨trivial, trivial⟩

def S109c110 : Am.Spec := { sig := sig109c110, pre := fun ⟨x0, _⟩ => P109c110 x0, res := fun ⟨x0, _⟩ => [⟨Ty.bool, g109c110_0 x0⟩] }
theorem con109c110 : Contract Try.prog 109 S109c110 := contract_of Try.func109 hb109c110 (Nat.le_of_ble_eq_true (by kernel_rfl)) (fun ⟨x0, _⟩ h _ w0 O q => at109c110 x0 h w0 O q)


end Go.Proofs.Ytjkeinpcphkfbaa

/- Function 76 (impl.ValidReport): its runs between cut points. Written by a program of this repo (gen). -/
set_option linter.unusedVariables false
set_option linter.unusedSimpArgs false
set_option maxRecDepth 100000
namespace Go.Proofs.Ytjkeinpcphkfbaa
open Go Go.Am Go.Proofs
def ext76 : Ext := [(109, S109c110)]
theorem call76_109 : Callable Try.prog 109 := ⟨Try.f109, Try.func109, by kernel_rfl, by kernel_rfl⟩
theorem ext76Ok : ExtOk Try.prog ext76 := ⟨⟨call76_109, con109c110⟩, trivial⟩
/-! Function 76. -/
noncomputable def b76 : Code := bodyOf Try.f76
theorem hb76 : Try.f76.body = some b76 := by kernel_rfl
def sig76 : List AT := [AT.v (Ty.sl Ty.str)]
def tys76 : List Ty := [Ty.bool]
def P76 (x0 : List ByteArray) : Prop := True
def g76_0 (x0 : List ByteArray) : Bool := (if (Decidable.decide ((↑(List.length x0) : Int) ≤ 200)) = true then !g109c110_0 x0 else Bool.false)
theorem p76_0 (x0 : List ByteArray) : runF tab ext76 false 11 [] 2000 [] tys76 Try.f76.results [true] [.code b76] (entE 0 0 sig76 (x0, ())) (entL sig76 (x0, ())) = some ([Dyn.mk Ty.bool !g109c110_0 x0], [], [Decidable.decide ((↑(List.length x0) : Int) ≤ 200) = Bool.true, True]) := by kernel_rfl
theorem p76_1 (x0 : List ByteArray) : runF tab ext76 false 11 [] 2000 [] tys76 Try.f76.results [false] [.code b76] (entE 0 0 sig76 (x0, ())) (entL sig76 (x0, ())) = some ([Dyn.mk Ty.bool Bool.false], [], [Decidable.decide ((↑(List.length x0) : Int) ≤ 200) = Bool.false]) := by kernel_rfl
theorem at76 (x0 : List ByteArray) (h : P76 x0) (w0 : World) (O : List Nat) (q : Nat → Value) : AtV Try.prog 76 (PostR [⟨Ty.bool, g76_0 x0⟩] [] [] q w0 O) 11 w0 O q [] [.code b76] (entE 0 0 sig76 (x0, ())) (entL sig76 (x0, ())) := by
  unfold P76 at h
  unfold g76_0
  by_cases b0 : (Decidable.decide ((↑(List.length x0) : Int) ≤ 200)) = true
  · try simp only [if_pos b0] at h ⊢
    exact AtV.fin Try.func76 tabOk ext76Ok mixed (p76_0 x0) ⟨b0, trivial, trivial⟩
  · try simp only [if_neg b0] at h ⊢
    replace b0 := Bool.eq_false_iff.2 b0
    exact AtV.fin Try.func76 tabOk ext76Ok mixed (p76_1 x0) ⟨b0, trivial⟩

def S76 : Am.Spec := { sig := sig76, pre := fun ⟨x0, _⟩ => P76 x0, res := fun ⟨x0, _⟩ => [⟨Ty.bool, g76_0 x0⟩] }
theorem con76 : Contract Try.prog 76 S76 := contract_of Try.func76 hb76 (Nat.le_of_ble_eq_true (by kernel_rfl)) (fun ⟨x0, _⟩ h _ w0 O q => at76 x0 h w0 O q)


end Go.Proofs.Ytjkeinpcphkfbaa

/- The contracts of the library that this program uses, laid at this program. Written by a tool of the kit. -/
set_option linter.unusedVariables false
set_option maxRecDepth 100000
namespace Go.Proofs
open Go.Shelf
def Try.lays144_ren : Go.Shelf.Ren := ⟨fun | 144 => 82 | 143 => 114 | 219 => 135 | 217 => 157 | 225 => 158 | 224 => 159 | 267 => 160 | 266 => 169 | 314 => 170 | n => n, fun | 9 => 9 | 4 => 4 | 3 => 3 | 5 => 5 | 46 => 130 | 146 => 156 | 51 => 155 | n => n, fun | 1 => 0 | n => n⟩
theorem Try.lays144 : Go.Proofs.Lays.n144 Try.prog Try.lays144_ren := {
  mixed := by kernel_rfl
  f143 := Try.func114.trans (congrArg some (by kernel_rfl))
  f144 := Try.func82.trans (congrArg some (by kernel_rfl))
  f217 := Try.func157.trans (congrArg some (by kernel_rfl))
  f219 := Try.func135.trans (congrArg some (by kernel_rfl))
  f224 := Try.func159.trans (congrArg some (by kernel_rfl))
  f225 := Try.func158.trans (congrArg some (by kernel_rfl))
  f266 := Try.func169.trans (congrArg some (by kernel_rfl))
  f267 := Try.func160.trans (congrArg some (by kernel_rfl))
  f314 := Try.func170.trans (congrArg some (by kernel_rfl))
  t3 := Try.underlying3
  a3 := Try.isAgg3
  z3 := Try.sizeOf3
  v3 := Try.zeroValue3
  t4 := Try.underlying4
  a4 := Try.isAgg4
  z4 := Try.sizeOf4
  v4 := Try.zeroValue4
  t5 := Try.underlying5
  a5 := Try.isAgg5
  z5 := Try.sizeOf5
  v5 := Try.zeroValue5
  t9 := Try.underlying9
  a9 := Try.isAgg9
  z9 := Try.sizeOf9
  v9 := Try.zeroValue9
  t46 := Try.underlying130
  a46 := Try.isAgg130
  z46 := Try.sizeOf130
  v46 := Try.zeroValue130
  t51 := Try.underlying155
  a51 := Try.isAgg155
  z51 := Try.sizeOf155
  v51 := Try.zeroValue155
  t146 := Try.underlying156
  a146 := Try.isAgg156
  z146 := Try.sizeOf156
  v146 := Try.zeroValue156
  g1 := by kernel_rfl }
open Go.RowKit Go.Lib in theorem Try.strings_Contains (s sub : ByteArray) (m : Int) (w : World) (hs : s.size < 4294967281) (hm : w.cell? ⟨0, 0, none⟩ = some (.int .i64 m)) :
    Calls Try.prog 82 #[.string s, .string sub] w fun e w' => e = .returned (.bool (Lib.contains s.data.toList sub.data.toList)) ∧ w' = w := Any.strings_Contains Try.lays144 s sub m w hs hm
def Try.lays190_ren : Go.Shelf.Ren := ⟨fun | 190 => 104 | 125 => 130 | 258 => 129 | 128 => 151 | 129 => 152 | 302 => 142 | 303 => 143 | 304 => 144 | 305 => 145 | 306 => 146 | 307 => 147 | 308 => 148 | 309 => 149 | 310 => 150 | 333 => 163 | 329 => 164 | 330 => 165 | 334 => 166 | 335 => 167 | 336 => 136 | 344 => 171 | n => n, fun | 31 => 33 | 9 => 9 | 3 => 3 | 46 => 130 | 0 => 0 | 51 => 155 | 53 => 144 | 4 => 4 | 183 => 163 | 182 => 162 | 131 => 107 | 5 => 5 | 218 => 176 | 222 => 180 | 228 => 183 | 229 => 184 | n => n, fun | n => n⟩
theorem Try.lays190 : Go.Proofs.Lays.n190 Try.prog Try.lays190_ren := {
  mixed := by kernel_rfl
  f125 := Try.func130.trans (congrArg some (by kernel_rfl))
  f128 := Try.func151.trans (congrArg some (by kernel_rfl))
  f129 := Try.func152.trans (congrArg some (by kernel_rfl))
  f190 := Try.func104.trans (congrArg some (by kernel_rfl))
  f258 := Try.func129.trans (congrArg some (by kernel_rfl))
  f302 := Try.func142.trans (congrArg some (by kernel_rfl))
  f303 := Try.func143.trans (congrArg some (by kernel_rfl))
  f304 := Try.func144.trans (congrArg some (by kernel_rfl))
  f305 := Try.func145.trans (congrArg some (by kernel_rfl))
  f306 := Try.func146.trans (congrArg some (by kernel_rfl))
  f307 := Try.func147.trans (congrArg some (by kernel_rfl))
  f308 := Try.func148.trans (congrArg some (by kernel_rfl))
  f309 := Try.func149.trans (congrArg some (by kernel_rfl))
  f310 := Try.func150.trans (congrArg some (by kernel_rfl))
  f329 := Try.func164.trans (congrArg some (by kernel_rfl))
  f330 := Try.func165.trans (congrArg some (by kernel_rfl))
  f333 := Try.func163.trans (congrArg some (by kernel_rfl))
  f334 := Try.func166.trans (congrArg some (by kernel_rfl))
  f335 := Try.func167.trans (congrArg some (by kernel_rfl))
  f336 := Try.func136.trans (congrArg some (by kernel_rfl))
  f344 := Try.func171.trans (congrArg some (by kernel_rfl))
  t0 := Try.underlying0
  a0 := Try.isAgg0
  z0 := Try.sizeOf0
  v0 := Try.zeroValue0
  t3 := Try.underlying3
  a3 := Try.isAgg3
  z3 := Try.sizeOf3
  v3 := Try.zeroValue3
  t4 := Try.underlying4
  a4 := Try.isAgg4
  z4 := Try.sizeOf4
  v4 := Try.zeroValue4
  t5 := Try.underlying5
  a5 := Try.isAgg5
  z5 := Try.sizeOf5
  v5 := Try.zeroValue5
  t9 := Try.underlying9
  a9 := Try.isAgg9
  z9 := Try.sizeOf9
  v9 := Try.zeroValue9
  t31 := Try.underlying33
  a31 := Try.isAgg33
  z31 := Try.sizeOf33
  v31 := Try.zeroValue33
  t46 := Try.underlying130
  a46 := Try.isAgg130
  z46 := Try.sizeOf130
  v46 := Try.zeroValue130
  t51 := Try.underlying155
  a51 := Try.isAgg155
  z51 := Try.sizeOf155
  v51 := Try.zeroValue155
  t53 := Try.underlying144
  a53 := Try.isAgg144
  z53 := Try.sizeOf144
  v53 := Try.zeroValue144
  t131 := Try.underlying107
  a131 := Try.isAgg107
  z131 := Try.sizeOf107
  v131 := Try.zeroValue107
  t182 := Try.underlying162
  a182 := Try.isAgg162
  z182 := Try.sizeOf162
  v182 := Try.zeroValue162
  t183 := Try.underlying163
  a183 := Try.isAgg163
  z183 := Try.sizeOf163
  v183 := Try.zeroValue163
  t218 := Try.underlying176
  a218 := Try.isAgg176
  z218 := Try.sizeOf176
  v218 := Try.zeroValue176
  t222 := Try.underlying180
  a222 := Try.isAgg180
  z222 := Try.sizeOf180
  v222 := Try.zeroValue180
  t228 := Try.underlying183
  a228 := Try.isAgg183
  z228 := Try.sizeOf183
  v228 := Try.zeroValue183
  t229 := Try.underlying184
  a229 := Try.isAgg184
  z229 := Try.sizeOf184
  v229 := Try.zeroValue184 }
open Go.Sort Go.RowKit in theorem Try.slices_Sort_string (blk off cap : Nat) (ss : List (List UInt8)) (w : World) (hH : Holds encStr w blk off ss.toArray) (hblk : blk < w.heap.size) (hsz : ss.length < 4611686018427387904) :
    Calls Try.prog 104 #[.slice (some ⟨blk, off, none⟩) ss.length cap] w fun e w' =>
      e = .returned (.tuple #[]) ∧ ∃ n os, w' = grow (putRow encStr (Sort.ahead w n) blk off (ss.mergeSort fun x y => decide (x ≤ y)).toArray) os := Any.slices_Sort_string Try.lays190 blk off cap ss w hH hblk hsz
def Try.lays105_ren : Go.Shelf.Ren := ⟨fun | 105 => 91 | 212 => 120 | 99 => 121 | 165 => 122 | 166 => 123 | 170 => 124 | 169 => 125 | 263 => 137 | 264 => 138 | 206 => 139 | 240 => 140 | 241 => 141 | 276 => 161 | 277 => 162 | n => n, fun | 9 => 9 | 3 => 3 | 4 => 4 | 20 => 20 | 0 => 0 | 46 => 130 | 109 => 131 | 5 => 5 | 72 => 135 | 76 => 139 | 51 => 155 | 146 => 156 | 53 => 144 | 148 => 158 | 70 => 133 | 37 => 65 | 75 => 138 | 127 => 160 | 164 => 173 | 80 => 142 | n => n, fun | n => n⟩
theorem Try.lays105 : Go.Proofs.Lays.n105 Try.prog Try.lays105_ren := {
  mixed := by kernel_rfl
  f99 := Try.func121.trans (congrArg some (by kernel_rfl))
  f105 := Try.func91.trans (congrArg some (by kernel_rfl))
  f165 := Try.func122.trans (congrArg some (by kernel_rfl))
  f166 := Try.func123.trans (congrArg some (by kernel_rfl))
  f169 := Try.func125.trans (congrArg some (by kernel_rfl))
  f170 := Try.func124.trans (congrArg some (by kernel_rfl))
  f206 := Try.func139.trans (congrArg some (by kernel_rfl))
  f212 := Try.func120.trans (congrArg some (by kernel_rfl))
  f240 := Try.func140.trans (congrArg some (by kernel_rfl))
  f241 := Try.func141.trans (congrArg some (by kernel_rfl))
  f263 := Try.func137.trans (congrArg some (by kernel_rfl))
  f264 := Try.func138.trans (congrArg some (by kernel_rfl))
  f276 := Try.func161.trans (congrArg some (by kernel_rfl))
  f277 := Try.func162.trans (congrArg some (by kernel_rfl))
  t0 := Try.underlying0
  a0 := Try.isAgg0
  z0 := Try.sizeOf0
  v0 := Try.zeroValue0
  t3 := Try.underlying3
  a3 := Try.isAgg3
  z3 := Try.sizeOf3
  v3 := Try.zeroValue3
  t4 := Try.underlying4
  a4 := Try.isAgg4
  z4 := Try.sizeOf4
  v4 := Try.zeroValue4
  t5 := Try.underlying5
  a5 := Try.isAgg5
  z5 := Try.sizeOf5
  v5 := Try.zeroValue5
  t9 := Try.underlying9
  a9 := Try.isAgg9
  z9 := Try.sizeOf9
  v9 := Try.zeroValue9
  t20 := Try.underlying20
  a20 := Try.isAgg20
  z20 := Try.sizeOf20
  v20 := Try.zeroValue20
  t37 := Try.underlying65
  a37 := Try.isAgg65
  z37 := Try.sizeOf65
  v37 := Try.zeroValue65
  t46 := Try.underlying130
  a46 := Try.isAgg130
  z46 := Try.sizeOf130
  v46 := Try.zeroValue130
  t51 := Try.underlying155
  a51 := Try.isAgg155
  z51 := Try.sizeOf155
  v51 := Try.zeroValue155
  t53 := Try.underlying144
  a53 := Try.isAgg144
  z53 := Try.sizeOf144
  v53 := Try.zeroValue144
  t70 := Try.underlying133
  a70 := Try.isAgg133
  z70 := Try.sizeOf133
  v70 := Try.zeroValue133
  t72 := Try.underlying135
  a72 := Try.isAgg135
  z72 := Try.sizeOf135
  v72 := Try.zeroValue135
  t75 := Try.underlying138
  a75 := Try.isAgg138
  z75 := Try.sizeOf138
  v75 := Try.zeroValue138
  t76 := Try.underlying139
  a76 := Try.isAgg139
  z76 := Try.sizeOf139
  v76 := Try.zeroValue139
  t109 := Try.underlying131
  a109 := Try.isAgg131
  z109 := Try.sizeOf131
  v109 := Try.zeroValue131
  t127 := Try.underlying160
  a127 := Try.isAgg160
  z127 := Try.sizeOf160
  v127 := Try.zeroValue160
  t146 := Try.underlying156
  a146 := Try.isAgg156
  z146 := Try.sizeOf156
  v146 := Try.zeroValue156
  t148 := Try.underlying158
  a148 := Try.isAgg158
  z148 := Try.sizeOf158
  v148 := Try.zeroValue158
  t164 := Try.underlying173
  a164 := Try.isAgg173
  z164 := Try.sizeOf173
  v164 := Try.zeroValue173 }
theorem Try.Builder_Extra_105 : Builder.Extra Try.prog Try.lays105_ren := {
  sizeBuilder := by kernel_rfl
  liesBuilder := by kernel_rfl
  t5 := Try.underlying5
  a5 := Try.isAgg5
  z5 := Try.sizeOf5
  v5 := Try.zeroValue5
  infoByte := by kernel_rfl
  cellsByte := by kernel_rfl
  sizeByte := by kernel_rfl
  neB5 := by decide }
open Go.RowKit Go.Lib in theorem Try.strings_Repeat (s : ByteArray) (c : Nat) (w : World) (hc : c ≤ 9223372036854775807) (hlen : s.size * c ≤ 140737488355328) :
    Calls Try.prog 91 #[.string s, .int .i64 c] w fun e w' => e = .returned (.string ⟨(Lib.repeatL s.data.toList c).toArray⟩) ∧ Below w.heap.size w w' := Any.strings_Repeat Try.lays105 Try.Builder_Extra_105 s c w hc hlen
def Try.laysNm216_ren : Go.Shelf.Ren := ⟨fun | 16 => 103 | n => n, fun | 24 => 33 | 9 => 9 | 4 => 4 | n => n, fun | n => n⟩
theorem Try.laysNm216 : Go.Proofs.Lays2.n16 Try.prog Try.laysNm216_ren := {
  mixed := by kernel_rfl
  f16 := Try.func103.trans (congrArg some (by kernel_rfl))
  t4 := Try.underlying4
  a4 := Try.isAgg4
  z4 := Try.sizeOf4
  v4 := Try.zeroValue4
  t9 := Try.underlying9
  a9 := Try.isAgg9
  z9 := Try.sizeOf9
  v9 := Try.zeroValue9
  t24 := Try.underlying33
  a24 := Try.isAgg33
  z24 := Try.sizeOf33
  v24 := Try.zeroValue33
  i9 := by kernel_rfl }
open Go.RowKit Go.Lib in theorem Try.slices_Clone_string (b off n c : Nat) (zs : List ByteArray) (w : World) (hz : n ≤ zs.length) (hbig : n * 16 ≤ 140737488355328) (hc : ∀ j, j < zs.length → w.cell? ⟨b, off + j, none⟩ = some (.string (zs.getD j ByteArray.empty))) :
    Calls Try.prog 103 #[.slice (some ⟨b, off, none⟩) n c] w fun e w' => ∃ v', e = .returned v' ∧ w'.ownsRow w.heap.size 9 1 v' n ((zs.take n).map (Value.string)) ∧ v' ≠ .slice none 0 0 ∧ Below w.heap.size w w' := Any.slices_Clone_string Try.laysNm216 b off n c zs w hz hbig hc
open Go.RowKit Go.Lib in theorem Try.slices_Clone_string_nil (n c : Nat) (w : World) :
    Calls Try.prog 103 #[.slice none n c] w fun e w' => e = .returned (.slice none 0 0) ∧ w' = w := Any.slices_Clone_string_nil Try.laysNm216 n c w
open Go.RowKit Go.Lib in theorem Try.slices_Clone_string_zero (a : Addr) (c : Nat) (w : World) :
    Calls Try.prog 103 #[.slice (some a) 0 c] w fun e w' => ∃ v', e = .returned v' ∧ w'.ownsRow w.heap.size 9 1 v' 0 [] ∧ v' ≠ .slice none 0 0 ∧ Below w.heap.size w w' := Any.slices_Clone_string_zero Try.laysNm216 a c w
open Go.RowKit Go.Sort in theorem Try.slices_Sort_string_none (p : Option Addr) (cap : Nat) (w : World) :
    Calls Try.prog 104 #[.slice p 0 cap] w fun e w' => e = .returned (.tuple #[]) ∧ w' = w := Any.slices_Sort_string_none Try.lays190 p cap w
end Go.Proofs

/- Function 103 (slices.Clone[[]string,string]): its contract, off what is known of the library. -/
set_option linter.unusedVariables false
set_option linter.unusedSimpArgs false
set_option maxRecDepth 100000
namespace Go.Proofs.Ytjkeinpcphkfbaa
open Go Go.Am Go.Proofs

def sig103 : List AT := [AT.v (Ty.sl Ty.str)]
def g103_0 (x0 : List ByteArray) : List ByteArray := x0
def P103 (x0 : List ByteArray) : Prop := x0.length ≤ 1048576
def S103 : Am.Spec := { sig := sig103, pre := fun ⟨x0, _⟩ => P103 x0, res := fun ⟨x0, _⟩ => [⟨Ty.sl Ty.str, g103_0 x0⟩] }

theorem strs_flat103 : ∀ xs : List ByteArray, (xs.map (fcells .str)).flatten = xs.map Value.string
  | [] => rfl
  | x :: r => by
    rw [List.map_cons, List.flatten_cons, strs_flat103 r]
    rfl

theorem con103 : Contract Try.prog 103 S103 := by
  rintro w ⟨x0, u⟩ vs bss hgo hp ⟨v, s, b, bs, rfl, rfl, ⟨rfl, ho⟩, rfl, rfl⟩ hn
  have hp : x0.length ≤ 1048576 := hp
  have hm : x0.length ≤ maxLen := by unfold maxLen; omega
  have hs : ∀ x ∈ x0, Wf .str x := (wf_slAt (fun _ _ => RepC.wf) ho).2
  have hfin : ∀ (v' : Value) (w' : World), w'.ownsRow w.heap.size 9 1 v' x0.length (x0.map Value.string) → Go.RowKit.Below w.heap.size w w' →
      ∃ rs ubs rbs, Ending.returned v' = .returned (packV rs) ∧ Kept ([[]] : List (List Nat)).flatten w w' ∧ ResRep w' [⟨Ty.sl Ty.str, x0⟩] rs rbs ∧ UpdRep w' [] (ownVals sig103 [v]) ubs ∧ (ubs.flatten ++ rbs.flatten).Nodup ∧ ∀ b ∈ ubs.flatten ++ rbs.flatten, ¬ Am.Good w ([[]] : List (List Nat)).flatten b := fun v' w' h1 h2 => by
    have e := strs_flat103 x0
    obtain ⟨bs, g1, g2, g3⟩ := own_of_row (t := .str) rfl hs hm (by rw [e]; exact h1)
    refine ⟨[v'], [], [bs], rfl, Kept.of_below h2, ⟨_, _, _, _, _, rfl, rfl, g1, rfl, rfl, rfl⟩, ⟨rfl, rfl⟩, by simpa using g2, fun b hb hg => ?_⟩
    simp at hb
    have := g3 b hb
    have := hg.1
    omega
  obtain ⟨css, bss, hrow, hflat, hcase⟩ := SlAt.row ho
  rcases hcase with ⟨ad, rfl, rfl⟩ | ⟨b', off, cap, rfl, hG, hcells⟩
  · cases ad with
    | none =>
      refine (Try.slices_Clone_string_nil 0 0 w).mono ?_
      rintro e w' ⟨rfl, rfl⟩
      exact hfin _ _ ⟨rfl, .inl ⟨rfl, rfl⟩⟩ (Go.RowKit.Below.refl _ _)
    | some a =>
      refine (Try.slices_Clone_string_zero a 0 w).mono ?_
      rintro e w' ⟨v', rfl, h1, _, h2⟩
      exact hfin _ _ h1 h2
  · have hc : ∀ j, j < x0.length → w.cell? ⟨b', off + j, none⟩ = some (.string (x0.getD j ByteArray.empty)) := fun j hj => by
      have e1 := (strs_cells (w := w) (hrow.mono fun y c b _ h => ⟨h.1.1, h.1.2, h.2⟩)).1
      refine hcells j _ ?_
      rw [e1, List.getElem?_map, List.getElem?_eq_getElem hj, getD_lt _ _ _ hj]
      rfl
    refine (Try.slices_Clone_string b' off x0.length cap x0 w (Nat.le_refl _) (by omega) hc).mono ?_
    rintro e w' ⟨v', rfl, h1, _, h2⟩
    rw [List.take_of_length_le (Nat.le_refl _)] at h1
    exact hfin _ _ h1 h2

end Go.Proofs.Ytjkeinpcphkfbaa

/- Function 104 (slices.Sort[[]string,string]): its contract, off what is known of the library. -/
set_option linter.unusedVariables false
set_option linter.unusedSimpArgs false
set_option maxRecDepth 100000
namespace Go.Proofs.Ytjkeinpcphkfbaa
open Go Go.Am Go.Proofs

def sig104 : List AT := [AT.own Ty.str]
/-- The strings in order. -/
def u104_0 (x0 : List ByteArray) : List ByteArray := sortB x0
def P104 (x0 : List ByteArray) : Prop := x0.length ≤ 1048576
def S104 : Am.Spec := { sig := sig104, pre := fun ⟨x0, _⟩ => P104 x0, upd := fun ⟨x0, _⟩ => [some ⟨Ty.str, u104_0 x0⟩], res := fun _ => [] }

theorem u104_perm (x0 : List ByteArray) : (u104_0 x0).Perm x0 := sortB_perm x0

theorem u104_bls (x0 : List ByteArray) : bls (u104_0 x0) = (bls x0).mergeSort fun x y => decide (x ≤ y) := by
  unfold u104_0 sortB bls sbl
  rw [List.map_map]
  conv => rhs; rw [← List.map_id (List.mergeSort _ _)]
  rfl

theorem con104 : Contract Try.prog 104 S104 := by
  rintro w ⟨x0, u⟩ vs bss hgo hp ⟨v, s, b, bs, rfl, rfl, ho, rfl, rfl⟩ hn
  have hp : x0.length ≤ 1048576 := hp
  simp only [List.flatten_cons, List.flatten_nil, List.append_nil] at hn ⊢
  obtain ⟨hs, hcase⟩ := strs_own ho
  have hlen : (u104_0 x0).length = x0.length := (u104_perm x0).length_eq
  have hs' : ∀ y ∈ u104_0 x0, y.size ≤ maxLen := fun y hy => hs y ((u104_perm x0).mem_iff.1 hy)
  have hm : x0.length ≤ maxLen := by unfold maxLen; omega
  rcases hcase with ⟨ad, rfl, rfl, rfl⟩ | ⟨b', off, cap, cur, ty, fz, rfl, h2, h3, h4, h5, h6, rfl, h8⟩
  · refine (Try.slices_Sort_string_none ad 0 w).mono ?_
    rintro e w' ⟨rfl, rfl⟩
    refine ⟨[], [[]], [], rfl, Kept.refl _ _, ⟨rfl, rfl⟩, ⟨_, _, _, _, rfl, rfl, ?_, rfl, rfl⟩, by simp, by simp⟩
    exact ⟨_, rfl, by simp [u104_0, sortB, bls, sbl], .inl ⟨_, rfl, by simp [u104_0, sortB, bls, sbl], rfl⟩⟩
  · have hb : b' < w.heap.size := by
      rcases Nat.lt_or_ge b' w.heap.size with h | h
      · exact h
      · rw [Array.getElem?_eq_none h] at h5; cases h5
    have hbl : (bls x0).length = x0.length := by simp [bls]
    have := Try.slices_Sort_string b' off cap (bls x0) w (strs_holds h5 h6 h8) hb (by rw [hbl]; omega)
    rw [hbl] at this
    refine this.mono ?_
    rintro e w' ⟨rfl, n, os, hw⟩
    rw [← u104_bls] at hw
    obtain ⟨g1, g2⟩ := strs_turned hlen hm hs' h2 h3 h4 h5 h6 hw
    refine ⟨[], [[b']], [], rfl, g2, ⟨rfl, rfl⟩, ⟨_, _, _, _, rfl, rfl, g1, rfl, rfl⟩, by simp, fun b hb hg => ?_⟩
    simp at hb
    exact hg.2 (by simp [hb])

end Go.Proofs.Ytjkeinpcphkfbaa

/- Function 58 (impl.SortLines): its runs between cut points. Written by a program of this repo (gen). -/
set_option linter.unusedVariables false
set_option linter.unusedSimpArgs false
set_option maxRecDepth 100000
namespace Go.Proofs.Ytjkeinpcphkfbaa
open Go Go.Am Go.Proofs
def ext58 : Ext := [(76, S76), (103, S103), (104, S104)]
theorem call58_76 : Callable Try.prog 76 := ⟨Try.f76, Try.func76, by kernel_rfl, by kernel_rfl⟩
theorem call58_103 : Callable Try.prog 103 := ⟨Try.f103, Try.func103, by kernel_rfl, by kernel_rfl⟩
theorem call58_104 : Callable Try.prog 104 := ⟨Try.f104, Try.func104, by kernel_rfl, by kernel_rfl⟩
theorem ext58Ok : ExtOk Try.prog ext58 := ⟨⟨call58_76, con76⟩, ⟨call58_103, con103⟩, ⟨call58_104, con104⟩, trivial⟩
/-! Function 58. -/
noncomputable def b58 : Code := bodyOf Try.f58
theorem hb58 : Try.f58.body = some b58 := by kernel_rfl
def sig58 : List AT := [AT.v (Ty.sl Ty.str)]
def tys58 : List Ty := [Ty.sl Ty.str, Ty.int IntKind.i64]
def P58 (x0 : List ByteArray) : Prop := (if (!g76_0 x0) = true then True else ((P103 x0) ∧ ((P104 (g103_0 x0)) ∧ (List.length (u104_0 (g103_0 x0)) = List.length (g103_0 x0)) ∧ True)))
def g58_0 (x0 : List ByteArray) : List ByteArray := (if (!g76_0 x0) = true then [] else u104_0 (g103_0 x0))
def g58_1 (x0 : List ByteArray) : Int := (if (!g76_0 x0) = true then 1 else 0)
theorem p58_0 (x0 : List ByteArray) : runF tab ext58 false 13 [] 2000 [] tys58 Try.f58.results [true] [.code b58] (entE 0 0 sig58 (x0, ())) (entL sig58 (x0, ())) = some ([Dyn.mk (Ty.sl Ty.str) [], Dyn.mk (Ty.int IntKind.i64) 1], [], [True, (!g76_0 x0) = Bool.true]) := by kernel_rfl
theorem p58_1 (x0 : List ByteArray) : runF tab ext58 false 13 [] 2000 [] tys58 Try.f58.results [false] [.code b58] (entE 0 0 sig58 (x0, ())) (entL sig58 (x0, ())) = some ([Dyn.mk (Ty.sl Ty.str) (u104_0 (g103_0 x0)), Dyn.mk (Ty.int IntKind.i64) 0], [], [True, (!g76_0 x0) = Bool.false, P103 x0, P104 (g103_0 x0), List.length (u104_0 (g103_0 x0)) = List.length (g103_0 x0)]) := by kernel_rfl
theorem at58 (x0 : List ByteArray) (h : P58 x0) (w0 : World) (O : List Nat) (q : Nat → Value) : AtV Try.prog 58 (PostR [⟨Ty.sl Ty.str, g58_0 x0⟩, ⟨Ty.int IntKind.i64, g58_1 x0⟩] [] [] q w0 O) 13 w0 O q [] [.code b58] (entE 0 0 sig58 (x0, ())) (entL sig58 (x0, ())) := by
  unfold P58 at h
  unfold g58_0 g58_1
  by_cases b0 : (!g76_0 x0) = true
  · try simp only [if_pos b0] at h ⊢
    exact AtV.fin Try.func58 tabOk ext58Ok mixed (p58_0 x0) ⟨trivial, b0, trivial⟩
  · try simp only [if_neg b0] at h ⊢
    replace b0 := Bool.eq_false_iff.2 b0
    obtain ⟨s0, h⟩ := h
    obtain ⟨s1, s2, h⟩ := h
    exact AtV.fin Try.func58 tabOk ext58Ok mixed (p58_1 x0) ⟨trivial, b0, s0, s1, s2, trivial⟩

def S58 : Am.Spec := { sig := sig58, pre := fun ⟨x0, _⟩ => P58 x0, res := fun ⟨x0, _⟩ => [⟨Ty.sl Ty.str, g58_0 x0⟩, ⟨Ty.int IntKind.i64, g58_1 x0⟩] }
theorem con58 : Contract Try.prog 58 S58 := contract_of Try.func58 hb58 (Nat.le_of_ble_eq_true (by kernel_rfl)) (fun ⟨x0, _⟩ h _ w0 O q => at58 x0 h w0 O q)


end Go.Proofs.Ytjkeinpcphkfbaa

/- Function 28 (laws.eqStringS): its runs between cut points. Written by a program of this repo (gen). -/
set_option linter.unusedVariables false
set_option linter.unusedSimpArgs false
set_option maxRecDepth 100000
namespace Go.Proofs.Ytjkeinpcphkfbaa
open Go Go.Am Go.Proofs
def ext28 : Ext := []
theorem ext28Ok : ExtOk Try.prog ext28 := trivial
/-! Function 28. -/
noncomputable def b28 : Code := bodyOf Try.f28
theorem hb28 : Try.f28.body = some b28 := by kernel_rfl
def sig28 : List AT := [AT.v (Ty.sl Ty.str), AT.v (Ty.sl Ty.str)]
def tys28 : List Ty := [Ty.bool]
def E28_4 (v5 : Int) (x0 : List ByteArray) (x1 : List ByteArray) : Env := [(0, PV.a (Atom.sl Ty.str x0)), (1, PV.a (Atom.sl Ty.str x1)), (5, PV.a (Atom.val (Value.int IntKind.i64 v5)))]
def L28_4 (v5 : Int) (x0 : List ByteArray) (x1 : List ByteArray) : Heap := []
mutual
def R28 : Nat → List ByteArray → List ByteArray → List Dyn → Prop
  | 0, _, _, _ => False
  | n + 1, x0, x1, ds => (if ((↑(List.length x0) : Int) != (↑(List.length x1) : Int)) = true then (ds = [Dyn.mk Ty.bool Bool.false]) else (R28_4 n (0) (x0) (x1) ds))
def R28_4 : Nat → Int → List ByteArray → List ByteArray → List Dyn → Prop
  | 0, _, _, _, _ => False
  | n + 1, v5, x0, x1, ds => (if (Decidable.decide (v5 < (↑(List.length x0) : Int))) = true then ((0 ≤ v5) ∧ (v5 < (↑(List.length x0) : Int)) ∧ ((0 ≤ v5) ∧ (v5 < (↑(List.length x1) : Int)) ∧ (if (!ByteArray.toList (List.getD x0 (Int.toNat v5) ByteArray.empty) == ByteArray.toList (List.getD x1 (Int.toNat v5) ByteArray.empty)) = true then (ds = [Dyn.mk Ty.bool Bool.false]) else ((InR IntKind.i64 (v5 + 1)) ∧ (R28_4 n (v5 + 1) (x0) (x1) ds))))) else (ds = [Dyn.mk Ty.bool Bool.true]))
end
theorem p28_0 (x0 : List ByteArray) (x1 : List ByteArray) : runF tab ext28 false 26 [] 2000 [] tys28 Try.f28.results [true] [.code b28] (entE 0 0 sig28 (x0, x1, ())) (entL sig28 (x0, x1, ())) = some ([Dyn.mk Ty.bool Bool.false], [], [((↑(List.length x0) : Int) != (↑(List.length x1) : Int)) = Bool.true]) := by kernel_rfl
theorem p28_1 (x0 : List ByteArray) (x1 : List ByteArray) : Am.runN tab ext28 false 26 [] 2000 [] [] [0, 1, 5] [] [false] [.code b28] (entE 0 0 sig28 (x0, x1, ())) (entL sig28 (x0, x1, ())) = some (cutAt b28 4, E28_4 (0) (x0) (x1), L28_4 (0) (x0) (x1), [((↑(List.length x0) : Int) != (↑(List.length x1) : Int)) = Bool.false]) := by kernel_rfl
theorem p28_2 (v5 : Int) (x0 : List ByteArray) (x1 : List ByteArray) : runF tab ext28 false 26 [] 2000 [] tys28 Try.f28.results [true, true] (cutAt b28 4) (E28_4 v5 x0 x1) (L28_4 v5 x0 x1) = some ([Dyn.mk Ty.bool Bool.false], [], [Decidable.decide (v5 < (↑(List.length x0) : Int)) = Bool.true, 0 ≤ v5, v5 < (↑(List.length x0) : Int), 0 ≤ v5, v5 < (↑(List.length x1) : Int), (!ByteArray.toList (List.getD x0 (Int.toNat v5) ByteArray.empty) == ByteArray.toList (List.getD x1 (Int.toNat v5) ByteArray.empty)) = Bool.true]) := by kernel_rfl
theorem p28_3 (v5 : Int) (x0 : List ByteArray) (x1 : List ByteArray) : Am.runN tab ext28 false 26 [] 2000 [] [] [0, 1, 5] [] [true, false] (cutAt b28 4) (E28_4 v5 x0 x1) (L28_4 v5 x0 x1) = some (cutAt b28 4, E28_4 (v5 + 1) (x0) (x1), L28_4 (v5 + 1) (x0) (x1), [Decidable.decide (v5 < (↑(List.length x0) : Int)) = Bool.true, 0 ≤ v5, v5 < (↑(List.length x0) : Int), 0 ≤ v5, v5 < (↑(List.length x1) : Int), (!ByteArray.toList (List.getD x0 (Int.toNat v5) ByteArray.empty) == ByteArray.toList (List.getD x1 (Int.toNat v5) ByteArray.empty)) = Bool.false, InR IntKind.i64 (v5 + 1)]) := by kernel_rfl
theorem p28_4 (v5 : Int) (x0 : List ByteArray) (x1 : List ByteArray) : runF tab ext28 false 26 [] 2000 [] tys28 Try.f28.results [false] (cutAt b28 4) (E28_4 v5 x0 x1) (L28_4 v5 x0 x1) = some ([Dyn.mk Ty.bool Bool.true], [], [Decidable.decide (v5 < (↑(List.length x0) : Int)) = Bool.false]) := by kernel_rfl
theorem snd28 : ∀ n, (∀ (x0 : List ByteArray) (x1 : List ByteArray) ds, R28 n x0 x1 ds → ∀ w0 O q, AtV Try.prog 28 (PostR ds [] [] q w0 O) 26 w0 O q [] [.code b28] (entE 0 0 sig28 (x0, x1, ())) (entL sig28 (x0, x1, ()))) ∧ (∀ (v5 : Int) (x0 : List ByteArray) (x1 : List ByteArray) ds, R28_4 n v5 x0 x1 ds → ∀ w0 O q, AtV Try.prog 28 (PostR ds [] [] q w0 O) 26 w0 O q [] (cutAt b28 4) (E28_4 v5 x0 x1) (L28_4 v5 x0 x1)) := by
  intro n
  induction n with
  | zero => exact ⟨fun _ _ _ h => by simp only [R28] at h, fun _ _ _ _ h => by simp only [R28_4] at h⟩
  | succ n ih =>
  obtain ⟨ih, ih4⟩ := ih
  refine ⟨?_, ?_⟩
  · intro x0 x1 ds h w0 O q
    rw [R28] at h
    by_cases b0 : ((↑(List.length x0) : Int) != (↑(List.length x1) : Int)) = true
    · rw [if_pos b0] at h
      subst h
      exact AtV.fin Try.func28 tabOk ext28Ok mixed (p28_0 x0 x1) ⟨b0, trivial⟩
    · rw [if_neg b0] at h
      replace b0 := Bool.eq_false_iff.2 b0
      exact AtV.runN tabOk ext28Ok mixed (p28_1 x0 x1) ⟨b0, trivial⟩ (ih4 _ _ _ _ h w0 O q)

  · intro v5 x0 x1 ds h w0 O q
    rw [R28_4] at h
    by_cases b0 : (Decidable.decide (v5 < (↑(List.length x0) : Int))) = true
    · rw [if_pos b0] at h
      obtain ⟨s0, s1, h⟩ := h
      obtain ⟨s2, s3, h⟩ := h
      by_cases b1 : (!ByteArray.toList (List.getD x0 (Int.toNat v5) ByteArray.empty) == ByteArray.toList (List.getD x1 (Int.toNat v5) ByteArray.empty)) = true
      · rw [if_pos b1] at h
        subst h
        exact AtV.fin Try.func28 tabOk ext28Ok mixed (p28_2 v5 x0 x1) ⟨b0, s0, s1, s2, s3, b1, trivial⟩
      · rw [if_neg b1] at h
        replace b1 := Bool.eq_false_iff.2 b1
        obtain ⟨s4, h⟩ := h
        exact AtV.runN tabOk ext28Ok mixed (p28_3 v5 x0 x1) ⟨b0, s0, s1, s2, s3, b1, s4, trivial⟩ (ih4 _ _ _ _ h w0 O q)
    · rw [if_neg b0] at h
      replace b0 := Bool.eq_false_iff.2 b0
      subst h
      exact AtV.fin Try.func28 tabOk ext28Ok mixed (p28_4 v5 x0 x1) ⟨b0, trivial⟩



theorem eq28 (x0 x1 : List (ByteArray)) (hl : x0.length = x1.length) (hm : x0.length ≤ maxLen) : ∀ k i : Nat, i + k = x0.length → R28_4 (k + 1) (i : Int) x0 x1 [⟨.bool, decide (x0.drop i = x1.drop i)⟩] := by
  intro k
  induction k with
  | zero =>
    intro i hi
    have h1 : ¬ (i : Int) < (x0.length : Int) := by omega
    rw [R28_4, if_neg (by simpa using h1), drop_end x0 i (by omega), drop_end x1 i (by omega)]
    simp
  | succ k ih =>
    intro i hi
    have h1 : (i : Int) < (x0.length : Int) := by omega
    rw [R28_4, if_pos (by simpa using h1)]
    refine ⟨by omega, h1, by omega, by omega, ?_⟩
    simp only [Int.toNat_natCast]
    rw [drop_get x0 i ByteArray.empty (by omega), drop_get x1 i ByteArray.empty (by omega)]
    by_cases he : x0.getD i ByteArray.empty = x1.getD i ByteArray.empty
    · have hd := (bytes_eq _ _).2 he
      rw [if_neg (by rw [hd]; simp)]
      refine ⟨inR_up hm (by omega), ?_⟩
      have := ih (i + 1) (by omega)
      simp only [he, List.cons.injEq, true_and]
      exact this
    · have hd : (ByteArray.toList (x0.getD i ByteArray.empty) == ByteArray.toList (x1.getD i ByteArray.empty)) = false :=
        (bytes_ne _ _).2 he
      rw [if_pos (by rw [hd]; rfl)]
      simp only [he, List.cons.injEq, false_and, decide_false]

def g28_0 (x0 x1 : List (ByteArray)) : Bool := decide (x0 = x1)
def P28 (x0 x1 : List (ByteArray)) : Prop := True
def S28 : Am.Spec := { sig := sig28, pre := fun ⟨x0, x1, _⟩ => P28 x0 x1, res := fun ⟨x0, x1, _⟩ => [⟨Ty.bool, g28_0 x0 x1⟩] }
theorem con28 : Contract Try.prog 28 S28 := contract_of Try.func28 hb28 (Nat.le_of_ble_eq_true (by kernel_rfl)) (fun ⟨x0, x1, _⟩ h hwf w0 O q => by
  refine (snd28 (x0.length + 2)).1 x0 x1 _ ?_ w0 O q
  show R28 (x0.length + 1 + 1) x0 x1 [⟨Ty.bool, decide (x0 = x1)⟩]
  rw [R28]
  by_cases hl : x0.length = x1.length
  · rw [if_neg (by simp [hl])]
    have := eq28 x0 x1 hl hwf.1.1 x0.length 0 (by omega)
    simpa using this
  · rw [if_pos (by simp; omega)]
    have : x0 ≠ x1 := fun h => hl (by rw [h])
    simp [this])

end Go.Proofs.Ytjkeinpcphkfbaa

/- Function 72 (laws.markText): its runs between cut points. Written by a program of this repo (gen). -/
set_option linter.unusedVariables false
set_option linter.unusedSimpArgs false
set_option maxRecDepth 100000
namespace Go.Proofs.Ytjkeinpcphkfbaa
open Go Go.Am Go.Proofs
def ext72 : Ext := []
theorem ext72Ok : ExtOk Try.prog ext72 := trivial
/-! Function 72. -/
noncomputable def b72 : Code := bodyOf Try.f72
theorem hb72 : Try.f72.body = some b72 := by kernel_rfl
def sig72 : List AT := [AT.v (Ty.int IntKind.i64)]
def tys72 : List Ty := [Ty.str]
def E72_4 (v3 : ByteArray) (x0 : Int) : Env := [(0, PV.a (Atom.val (Value.int IntKind.i64 x0))), (3, PV.a (Atom.val (Value.string v3)))]
def L72_4 (v3 : ByteArray) (x0 : Int) : Heap := []
mutual
def R72 : Nat → Int → List Dyn → Prop
  | 0, _, _ => False
  | n + 1, x0, ds => (if (Decidable.decide (x0 ≤ 0)) = true then (ds = [Dyn.mk Ty.str (ByteArray.mk #[109, 48])]) else (R72_4 n (ByteArray.mk #[]) (x0) ds))
def R72_4 : Nat → ByteArray → Int → List Dyn → Prop
  | 0, _, _, _ => False
  | n + 1, v3, x0, ds => (if (Decidable.decide (x0 > 0)) = true then ((InR IntKind.i64 (Int.tmod x0 10)) ∧ ((InR IntKind.i64 (48 + Int.tmod x0 10)) ∧ ((InR IntKind.u8 (48 + Int.tmod x0 10)) ∧ ((ByteArray.size (bytesStr [48 + Int.tmod x0 10]) + ByteArray.size v3 ≤ 9223372036854775807) ∧ ((InR IntKind.i64 (Int.tdiv x0 10)) ∧ (R72_4 n (bytesStr [48 + Int.tmod x0 10] ++ v3) (Int.tdiv x0 10) ds)))))) else ((1 + ByteArray.size v3 ≤ 9223372036854775807) ∧ (ds = [Dyn.mk Ty.str (ByteArray.mk #[109] ++ v3)])))
end
theorem p72_0 (x0 : Int) : runF tab ext72 false 20 [] 2000 [] tys72 Try.f72.results [true] [.code b72] (entE 0 0 sig72 (x0, ())) (entL sig72 (x0, ())) = some ([Dyn.mk Ty.str (ByteArray.mk #[109, 48])], [], [Decidable.decide (x0 ≤ 0) = Bool.true]) := by kernel_rfl
theorem p72_1 (x0 : Int) : Am.runN tab ext72 false 20 [] 2000 [] [] [0, 3] [] [false] [.code b72] (entE 0 0 sig72 (x0, ())) (entL sig72 (x0, ())) = some (cutAt b72 4, E72_4 (ByteArray.mk #[]) (x0), L72_4 (ByteArray.mk #[]) (x0), [Decidable.decide (x0 ≤ 0) = Bool.false]) := by kernel_rfl
theorem p72_2 (v3 : ByteArray) (x0 : Int) : Am.runN tab ext72 false 20 [] 2000 [] [] [0, 3] [] [true] (cutAt b72 4) (E72_4 v3 x0) (L72_4 v3 x0) = some (cutAt b72 4, E72_4 (bytesStr [48 + Int.tmod x0 10] ++ v3) (Int.tdiv x0 10), L72_4 (bytesStr [48 + Int.tmod x0 10] ++ v3) (Int.tdiv x0 10), [Decidable.decide (x0 > 0) = Bool.true, (10 : Int) ≠ (0 : Int), InR IntKind.i64 (Int.tmod x0 10), InR IntKind.i64 (48 + Int.tmod x0 10), InR IntKind.u8 (48 + Int.tmod x0 10), ByteArray.size (bytesStr [48 + Int.tmod x0 10]) + ByteArray.size v3 ≤ 9223372036854775807, (10 : Int) ≠ (0 : Int), InR IntKind.i64 (Int.tdiv x0 10)]) := by kernel_rfl
theorem p72_3 (v3 : ByteArray) (x0 : Int) : runF tab ext72 false 20 [] 2000 [] tys72 Try.f72.results [false] (cutAt b72 4) (E72_4 v3 x0) (L72_4 v3 x0) = some ([Dyn.mk Ty.str (ByteArray.mk #[109] ++ v3)], [], [Decidable.decide (x0 > 0) = Bool.false, 1 + ByteArray.size v3 ≤ 9223372036854775807]) := by kernel_rfl
theorem snd72 : ∀ n, (∀ (x0 : Int) ds, R72 n x0 ds → ∀ w0 O q, AtV Try.prog 72 (PostR ds [] [] q w0 O) 20 w0 O q [] [.code b72] (entE 0 0 sig72 (x0, ())) (entL sig72 (x0, ()))) ∧ (∀ (v3 : ByteArray) (x0 : Int) ds, R72_4 n v3 x0 ds → ∀ w0 O q, AtV Try.prog 72 (PostR ds [] [] q w0 O) 20 w0 O q [] (cutAt b72 4) (E72_4 v3 x0) (L72_4 v3 x0)) := by
  intro n
  induction n with
  | zero => exact ⟨fun _ _ h => by simp only [R72] at h, fun _ _ _ h => by simp only [R72_4] at h⟩
  | succ n ih =>
  obtain ⟨ih, ih4⟩ := ih
  refine ⟨?_, ?_⟩
  · intro x0 ds h w0 O q
    rw [R72] at h
    by_cases b0 : (Decidable.decide (x0 ≤ 0)) = true
    · rw [if_pos b0] at h
      subst h
      exact AtV.fin Try.func72 tabOk ext72Ok mixed (p72_0 x0) ⟨b0, trivial⟩
    · rw [if_neg b0] at h
      replace b0 := Bool.eq_false_iff.2 b0
      exact AtV.runN tabOk ext72Ok mixed (p72_1 x0) ⟨b0, trivial⟩ (ih4 _ _ _ h w0 O q)

  · intro v3 x0 ds h w0 O q
    rw [R72_4] at h
    by_cases b0 : (Decidable.decide (x0 > 0)) = true
    · rw [if_pos b0] at h
      obtain ⟨s0, h⟩ := h
      obtain ⟨s1, h⟩ := h
      obtain ⟨s2, h⟩ := h
      obtain ⟨s3, h⟩ := h
      obtain ⟨s4, h⟩ := h
      exact AtV.runN tabOk ext72Ok mixed (p72_2 v3 x0) ⟨b0, (by decide), s0, s1, s2, s3, (by decide), s4, trivial⟩ (ih4 _ _ _ h w0 O q)
    · rw [if_neg b0] at h
      replace b0 := Bool.eq_false_iff.2 b0
      obtain ⟨s0, h⟩ := h
      subst h
      exact AtV.fin Try.func72 tabOk ext72Ok mixed (p72_3 v3 x0) ⟨b0, s0, trivial⟩



def loop72 : Nat → ByteArray → Int → ByteArray
  | 0, v, _ => v
  | n + 1, v, x => if 0 < x then loop72 n (bytesStr [48 + Int.tmod x 10] ++ v) (Int.tdiv x 10) else v

theorem run72 : ∀ (n : Nat) (v : ByteArray) (x : Int), x < 10 ^ n → InR .i64 x → v.size + n ≤ 1000 → R72_4 (n + 1) v x [⟨.str, ByteArray.mk #[109] ++ loop72 n v x⟩] := by
  intro n
  induction n with
  | zero =>
    intro v x h1 _ h2
    rw [R72_4, if_neg (by simp at h1 ⊢; omega)]
    exact ⟨by omega, rfl⟩
  | succ n ih =>
    intro v x h1 hi h2
    rw [i64_iff] at hi
    rw [R72_4]
    by_cases hx : 0 < x
    · rw [if_pos (by simpa using hx)]
      have e1 : Int.tmod x 10 = x % 10 := Int.tmod_eq_emod_of_nonneg (by omega)
      have e2 : Int.tdiv x 10 = x / 10 := Int.tdiv_eq_ediv_of_nonneg (by omega)
      have hs : (bytesStr [48 + Int.tmod x 10]).size = 1 := bytesStr_size _
      have hp : (10 : Int) ^ (n + 1) = 10 * 10 ^ n := by rw [Int.pow_succ, Int.mul_comm]
      refine ⟨by rw [i64_iff, e1]; omega, by rw [i64_iff, e1]; omega, by rw [u8_iff, e1]; omega, by rw [hs]; omega, by rw [i64_iff, e2]; omega, ?_⟩
      have := ih (bytesStr [48 + Int.tmod x 10] ++ v) (Int.tdiv x 10) (by rw [e2]; omega) (by rw [i64_iff, e2]; omega) (by rw [ByteArray.size_append, hs]; omega)
      simp only [loop72, if_pos hx]
      exact this
    · rw [if_neg (by simp; omega)]
      simp only [loop72, if_neg hx]
      exact ⟨by omega, trivial⟩

def g72_0 (x0 : Int) : ByteArray := if x0 ≤ 0 then ByteArray.mk #[109, 48] else ByteArray.mk #[109] ++ loop72 19 (ByteArray.mk #[]) x0
def P72 (x0 : Int) : Prop := True

theorem top72 (x0 : Int) (hi : InR .i64 x0) : R72 21 x0 [⟨.str, g72_0 x0⟩] := by
  rw [R72]
  unfold g72_0
  by_cases h : x0 ≤ 0
  · rw [if_pos (by simpa using h), if_pos h]
  · rw [if_neg (by simpa using h), if_neg h]
    have hi' := hi
    rw [i64_iff] at hi'
    exact run72 19 _ x0 (by omega) hi (by decide)

def S72 : Am.Spec := { sig := sig72, pre := fun ⟨x0, _⟩ => P72 x0, res := fun ⟨x0, _⟩ => [⟨.str, g72_0 x0⟩] }
theorem con72 : Contract Try.prog 72 S72 := contract_of Try.func72 hb72 (Nat.le_of_ble_eq_true (by kernel_rfl)) (fun ⟨x0, _⟩ h hwf w0 O q =>
  (snd72 _).1 x0 _ (top72 x0 hwf.1) w0 O q)

end Go.Proofs.Ytjkeinpcphkfbaa

/- Function 29 (laws.markStringS): its runs between cut points. Written by a program of this repo (gen). -/
set_option linter.unusedVariables false
set_option linter.unusedSimpArgs false
set_option maxRecDepth 100000
namespace Go.Proofs.Ytjkeinpcphkfbaa
open Go Go.Am Go.Proofs
def ext29 : Ext := [(72, S72)]
theorem call29_72 : Callable Try.prog 72 := ⟨Try.f72, Try.func72, by kernel_rfl, by kernel_rfl⟩
theorem ext29Ok : ExtOk Try.prog ext29 := ⟨⟨call29_72, con72⟩, trivial⟩
/-! Function 29. -/
noncomputable def b29 : Code := bodyOf Try.f29
theorem hb29 : Try.f29.body = some b29 := by kernel_rfl
def sig29 : List AT := [AT.own Ty.str, AT.v (Ty.int IntKind.i64)]
def tys29 : List Ty := [Ty.int IntKind.i64]
def E29_2 (v5 : Int) (x1 : Int) (x0 : List ByteArray) : Env := [(0, PV.a (Atom.osl 0 Option.none)), (1, PV.a (Atom.val (Value.int IntKind.i64 x1))), (5, PV.a (Atom.val (Value.int IntKind.i64 v5)))]
def L29_2 (v5 : Int) (x1 : Int) (x0 : List ByteArray) : Heap := [Option.some (Arr.mk Ty.str x0 Bool.false)]
mutual
def R29 : Nat → List ByteArray → Int → List Dyn → List (Option Lst) → Prop
  | 0, _, _, _, _ => False
  | n + 1, x0, x1, ds, us => (R29_2 n (0) (x1) (x0) ds us)
def R29_2 : Nat → Int → Int → List ByteArray → List Dyn → List (Option Lst) → Prop
  | 0, _, _, _, _, _ => False
  | n + 1, v5, x1, x0, ds, us => (if (Decidable.decide (v5 < (↑(List.length x0) : Int))) = true then ((0 ≤ v5) ∧ (v5 < (↑(List.length x0) : Int)) ∧ ((InR IntKind.i64 (x1 + 1)) ∧ ((InR IntKind.i64 (v5 + 1)) ∧ (R29_2 n (v5 + 1) (x1 + 1) (List.set x0 (Int.toNat v5) (g72_0 x1)) ds us)))) else (ds = [Dyn.mk (Ty.int IntKind.i64) x1] ∧ us = [Option.some (Lst.mk Ty.str x0)]))
end
theorem p29_0 (x0 : List ByteArray) (x1 : Int) : Am.runN tab ext29 false 20 [] 2000 [0] [] [0, 1, 5] [true] [] [.code b29] (entE 0 0 sig29 (x0, x1, ())) (entL sig29 (x0, x1, ())) = some (cutAt b29 2, E29_2 (0) (x1) (x0), L29_2 (0) (x1) (x0), []) := by kernel_rfl
theorem p29_1 (v5 : Int) (x1 : Int) (x0 : List ByteArray) : Am.runN tab ext29 false 20 [] 2000 [0] [] [0, 1, 5] [true] [true] (cutAt b29 2) (E29_2 v5 x1 x0) (L29_2 v5 x1 x0) = some (cutAt b29 2, E29_2 (v5 + 1) (x1 + 1) (List.set x0 (Int.toNat v5) (g72_0 x1)), L29_2 (v5 + 1) (x1 + 1) (List.set x0 (Int.toNat v5) (g72_0 x1)), [Decidable.decide (v5 < (↑(List.length x0) : Int)) = Bool.true, True, 0 ≤ v5, v5 < (↑(List.length x0) : Int), InR IntKind.i64 (x1 + 1), InR IntKind.i64 (v5 + 1)]) := by kernel_rfl
theorem p29_2 (v5 : Int) (x1 : Int) (x0 : List ByteArray) : runF tab ext29 false 20 [] 2000 [0] tys29 Try.f29.results [false] (cutAt b29 2) (E29_2 v5 x1 x0) (L29_2 v5 x1 x0) = some ([Dyn.mk (Ty.int IntKind.i64) x1], [Option.some (Lst.mk Ty.str x0)], [Decidable.decide (v5 < (↑(List.length x0) : Int)) = Bool.false]) := by kernel_rfl
theorem snd29 : ∀ n, (∀ (x0 : List ByteArray) (x1 : Int) ds us, R29 n x0 x1 ds us → ∀ w0 O q, AtV Try.prog 29 (PostR ds us [0] q w0 O) 20 w0 O q [0] [.code b29] (entE 0 0 sig29 (x0, x1, ())) (entL sig29 (x0, x1, ()))) ∧ (∀ (v5 : Int) (x1 : Int) (x0 : List ByteArray) ds us, R29_2 n v5 x1 x0 ds us → ∀ w0 O q, AtV Try.prog 29 (PostR ds us [0] q w0 O) 20 w0 O q [0] (cutAt b29 2) (E29_2 v5 x1 x0) (L29_2 v5 x1 x0)) := by
  intro n
  induction n with
  | zero => exact ⟨fun _ _ _ _ h => by simp only [R29] at h, fun _ _ _ _ _ h => by simp only [R29_2] at h⟩
  | succ n ih =>
  obtain ⟨ih, ih2⟩ := ih
  refine ⟨?_, ?_⟩
  · intro x0 x1 ds us h w0 O q
    rw [R29] at h
    exact AtV.runN tabOk ext29Ok mixed (p29_0 x0 x1) trivial (ih2 _ _ _ _ _ h w0 O q)

  · intro v5 x1 x0 ds us h w0 O q
    rw [R29_2] at h
    by_cases b0 : (Decidable.decide (v5 < (↑(List.length x0) : Int))) = true
    · rw [if_pos b0] at h
      obtain ⟨s0, s1, h⟩ := h
      obtain ⟨s2, h⟩ := h
      obtain ⟨s3, h⟩ := h
      exact AtV.runN tabOk ext29Ok mixed (p29_1 v5 x1 x0) ⟨b0, trivial, s0, s1, s2, s3, trivial⟩ (ih2 _ _ _ _ _ h w0 O q)
    · rw [if_neg b0] at h
      replace b0 := Bool.eq_false_iff.2 b0
      obtain ⟨h, h'⟩ := h; subst h; subst h'
      exact AtV.fin Try.func29 tabOk ext29Ok mixed (p29_2 v5 x1 x0) ⟨b0, trivial⟩



def M29 (x1 : Int) (n : Nat) : List ByteArray := (List.range n).map fun (j : Nat) => g72_0 (x1 + (j : Int))

theorem M29_len (x1 : Int) (n : Nat) : (M29 x1 n).length = n := by simp [M29]

theorem M29_step (x1 : Int) (x0 : List ByteArray) (i : Nat) (h : i < x0.length) : (M29 x1 i ++ x0.drop i).set i (g72_0 (x1 + (i : Int))) = M29 x1 (i + 1) ++ x0.drop (i + 1) := by
  rw [List.set_append_right _ _ (by rw [M29_len]; exact Nat.le_refl _), M29_len, Nat.sub_self, List.drop_eq_getElem_cons h, List.set_cons_zero]
  simp [M29, List.range_succ]

theorem run29 (x0 : List ByteArray) (x1 : Int) (hm : x0.length ≤ maxLen) (h0 : 0 ≤ x1) (h1 : x1 + x0.length ≤ 9223372036854775807) : ∀ (k i : Nat), i + k = x0.length →
    R29_2 (k + 1) (i : Int) (x1 + (i : Int)) (M29 x1 i ++ x0.drop i) [⟨.int .i64, x1 + (x0.length : Int)⟩] [some ⟨.str, M29 x1 x0.length⟩] := by
  intro k
  induction k with
  | zero =>
    intro i hi
    have hl : (M29 x1 i ++ x0.drop i).length = x0.length := by simp [M29_len]; omega
    rw [R29_2, if_neg (by rw [hl]; simp; omega), drop_end x0 i (by omega), List.append_nil]
    have : i = x0.length := by omega
    subst this
    exact ⟨rfl, rfl⟩
  | succ k ih =>
    intro i hi
    have hl : (M29 x1 i ++ x0.drop i).length = x0.length := by simp [M29_len]; omega
    rw [R29_2, if_pos (by rw [hl]; simp; omega), hl]
    simp only [Int.toNat_natCast]
    refine ⟨by omega, by omega, by rw [i64_iff]; omega, inR_up hm (by omega), ?_⟩
    rw [M29_step x1 x0 i (by omega), Int.add_assoc]
    exact ih (i + 1) (by omega)

def P29 (x0 : List ByteArray) (x1 : Int) : Prop := 0 ≤ x1 ∧ x1 + x0.length ≤ 9223372036854775807
def g29_0 (x0 : List ByteArray) (x1 : Int) : Int := x1 + (x0.length : Int)
def u29_0 (x0 : List ByteArray) (x1 : Int) : List ByteArray := M29 x1 x0.length

theorem top29 (x0 : List ByteArray) (x1 : Int) (hm : x0.length ≤ maxLen) (h : P29 x0 x1) : R29 (x0.length + 1 + 1) x0 x1 [⟨.int .i64, g29_0 x0 x1⟩] [some ⟨.str, u29_0 x0 x1⟩] := by
  rw [R29]
  have := run29 x0 x1 hm h.1 h.2 x0.length 0 (by omega)
  simpa [M29, g29_0, u29_0] using this

def S29 : Am.Spec := { sig := sig29, pre := fun ⟨x0, x1, _⟩ => P29 x0 x1, upd := fun ⟨x0, x1, _⟩ => [some ⟨.str, u29_0 x0 x1⟩], res := fun ⟨x0, x1, _⟩ => [⟨.int .i64, g29_0 x0 x1⟩] }
theorem con29 : Contract Try.prog 29 S29 := contract_of Try.func29 hb29 (Nat.le_of_ble_eq_true (by kernel_rfl)) (fun ⟨x0, x1, _⟩ h hwf w0 O q =>
  (snd29 _).1 x0 x1 _ _ (top29 x0 x1 hwf.1.1 h) w0 O q)

end Go.Proofs.Ytjkeinpcphkfbaa

/- Function 42 (laws.heldStringS): its runs between cut points. Written by a program of this repo (gen). -/
set_option linter.unusedVariables false
set_option linter.unusedSimpArgs false
set_option maxRecDepth 100000
namespace Go.Proofs.Ytjkeinpcphkfbaa
open Go Go.Am Go.Proofs
def ext42 : Ext := [(72, S72)]
theorem call42_72 : Callable Try.prog 72 := ⟨Try.f72, Try.func72, by kernel_rfl, by kernel_rfl⟩
theorem ext42Ok : ExtOk Try.prog ext42 := ⟨⟨call42_72, con72⟩, trivial⟩
/-! Function 42. -/
noncomputable def b42 : Code := bodyOf Try.f42
theorem hb42 : Try.f42.body = some b42 := by kernel_rfl
def sig42 : List AT := [AT.v (Ty.sl Ty.str), AT.v (Ty.int IntKind.i64)]
def tys42 : List Ty := [Ty.int IntKind.i64]
def E42_2 (v5 : Int) (x0 : List ByteArray) (x1 : Int) : Env := [(0, PV.a (Atom.sl Ty.str x0)), (1, PV.a (Atom.val (Value.int IntKind.i64 x1))), (5, PV.a (Atom.val (Value.int IntKind.i64 v5)))]
def L42_2 (v5 : Int) (x0 : List ByteArray) (x1 : Int) : Heap := []
mutual
def R42 : Nat → List ByteArray → Int → List Dyn → Prop
  | 0, _, _, _ => False
  | n + 1, x0, x1, ds => (R42_2 n (0) (x0) (x1) ds)
def R42_2 : Nat → Int → List ByteArray → Int → List Dyn → Prop
  | 0, _, _, _, _ => False
  | n + 1, v5, x0, x1, ds => (if (Decidable.decide (v5 < (↑(List.length x0) : Int))) = true then ((0 ≤ v5) ∧ (v5 < (↑(List.length x0) : Int)) ∧ (if (!ByteArray.toList (List.getD x0 (Int.toNat v5) ByteArray.empty) == ByteArray.toList (g72_0 x1)) = true then (ds = [Dyn.mk (Ty.int IntKind.i64) (-1)]) else ((InR IntKind.i64 (x1 + 1)) ∧ ((InR IntKind.i64 (v5 + 1)) ∧ (R42_2 n (v5 + 1) (x0) (x1 + 1) ds))))) else (ds = [Dyn.mk (Ty.int IntKind.i64) x1]))
end
theorem p42_0 (x0 : List ByteArray) (x1 : Int) : Am.runN tab ext42 false 22 [] 2000 [] [] [0, 1, 5] [] [] [.code b42] (entE 0 0 sig42 (x0, x1, ())) (entL sig42 (x0, x1, ())) = some (cutAt b42 2, E42_2 (0) (x0) (x1), L42_2 (0) (x0) (x1), []) := by kernel_rfl
theorem p42_1 (v5 : Int) (x0 : List ByteArray) (x1 : Int) : runF tab ext42 false 22 [] 2000 [] tys42 Try.f42.results [true, true] (cutAt b42 2) (E42_2 v5 x0 x1) (L42_2 v5 x0 x1) = some ([Dyn.mk (Ty.int IntKind.i64) (-1)], [], [Decidable.decide (v5 < (↑(List.length x0) : Int)) = Bool.true, 0 ≤ v5, v5 < (↑(List.length x0) : Int), True, (!ByteArray.toList (List.getD x0 (Int.toNat v5) ByteArray.empty) == ByteArray.toList (g72_0 x1)) = Bool.true]) := by kernel_rfl
theorem p42_2 (v5 : Int) (x0 : List ByteArray) (x1 : Int) : Am.runN tab ext42 false 22 [] 2000 [] [] [0, 1, 5] [] [true, false] (cutAt b42 2) (E42_2 v5 x0 x1) (L42_2 v5 x0 x1) = some (cutAt b42 2, E42_2 (v5 + 1) (x0) (x1 + 1), L42_2 (v5 + 1) (x0) (x1 + 1), [Decidable.decide (v5 < (↑(List.length x0) : Int)) = Bool.true, 0 ≤ v5, v5 < (↑(List.length x0) : Int), True, (!ByteArray.toList (List.getD x0 (Int.toNat v5) ByteArray.empty) == ByteArray.toList (g72_0 x1)) = Bool.false, InR IntKind.i64 (x1 + 1), InR IntKind.i64 (v5 + 1)]) := by kernel_rfl
theorem p42_3 (v5 : Int) (x0 : List ByteArray) (x1 : Int) : runF tab ext42 false 22 [] 2000 [] tys42 Try.f42.results [false] (cutAt b42 2) (E42_2 v5 x0 x1) (L42_2 v5 x0 x1) = some ([Dyn.mk (Ty.int IntKind.i64) x1], [], [Decidable.decide (v5 < (↑(List.length x0) : Int)) = Bool.false]) := by kernel_rfl
theorem snd42 : ∀ n, (∀ (x0 : List ByteArray) (x1 : Int) ds, R42 n x0 x1 ds → ∀ w0 O q, AtV Try.prog 42 (PostR ds [] [] q w0 O) 22 w0 O q [] [.code b42] (entE 0 0 sig42 (x0, x1, ())) (entL sig42 (x0, x1, ()))) ∧ (∀ (v5 : Int) (x0 : List ByteArray) (x1 : Int) ds, R42_2 n v5 x0 x1 ds → ∀ w0 O q, AtV Try.prog 42 (PostR ds [] [] q w0 O) 22 w0 O q [] (cutAt b42 2) (E42_2 v5 x0 x1) (L42_2 v5 x0 x1)) := by
  intro n
  induction n with
  | zero => exact ⟨fun _ _ _ h => by simp only [R42] at h, fun _ _ _ _ h => by simp only [R42_2] at h⟩
  | succ n ih =>
  obtain ⟨ih, ih2⟩ := ih
  refine ⟨?_, ?_⟩
  · intro x0 x1 ds h w0 O q
    rw [R42] at h
    exact AtV.runN tabOk ext42Ok mixed (p42_0 x0 x1) trivial (ih2 _ _ _ _ h w0 O q)

  · intro v5 x0 x1 ds h w0 O q
    rw [R42_2] at h
    by_cases b0 : (Decidable.decide (v5 < (↑(List.length x0) : Int))) = true
    · rw [if_pos b0] at h
      obtain ⟨s0, s1, h⟩ := h
      by_cases b1 : (!ByteArray.toList (List.getD x0 (Int.toNat v5) ByteArray.empty) == ByteArray.toList (g72_0 x1)) = true
      · rw [if_pos b1] at h
        subst h
        exact AtV.fin Try.func42 tabOk ext42Ok mixed (p42_1 v5 x0 x1) ⟨b0, s0, s1, trivial, b1, trivial⟩
      · rw [if_neg b1] at h
        replace b1 := Bool.eq_false_iff.2 b1
        obtain ⟨s2, h⟩ := h
        obtain ⟨s3, h⟩ := h
        exact AtV.runN tabOk ext42Ok mixed (p42_2 v5 x0 x1) ⟨b0, s0, s1, trivial, b1, s2, s3, trivial⟩ (ih2 _ _ _ _ h w0 O q)
    · rw [if_neg b0] at h
      replace b0 := Bool.eq_false_iff.2 b0
      subst h
      exact AtV.fin Try.func42 tabOk ext42Ok mixed (p42_3 v5 x0 x1) ⟨b0, trivial⟩



theorem run42 (x0 : List ByteArray) (x1 : Int) (hm : x0.length ≤ maxLen) (h0 : 0 ≤ x1) (h1 : x1 + x0.length ≤ 9223372036854775807) (he : ∀ i : Nat, i < x0.length → x0.getD i ByteArray.empty = g72_0 (x1 + (i : Int))) : ∀ (k i : Nat), i + k = x0.length →
    R42_2 (k + 1) (i : Int) x0 (x1 + (i : Int)) [⟨.int .i64, x1 + (x0.length : Int)⟩] := by
  intro k
  induction k with
  | zero =>
    intro i hi
    rw [R42_2, if_neg (by simp; omega)]
    have : i = x0.length := by omega
    subst this
    rfl
  | succ k ih =>
    intro i hi
    rw [R42_2, if_pos (by simp; omega)]
    simp only [Int.toNat_natCast]
    have hb := (bytes_eq _ _).2 (he i (by omega))
    refine ⟨by omega, by omega, ?_⟩
    rw [if_neg (by rw [hb]; simp)]
    refine ⟨by rw [i64_iff]; omega, inR_up hm (by omega), ?_⟩
    rw [Int.add_assoc]
    exact ih (i + 1) (by omega)

def P42 (x0 : List ByteArray) (x1 : Int) : Prop := (0 ≤ x1 ∧ x1 + x0.length ≤ 9223372036854775807) ∧ ∀ i : Nat, i < x0.length → x0.getD i ByteArray.empty = g72_0 (x1 + (i : Int))
def g42_0 (x0 : List ByteArray) (x1 : Int) : Int := x1 + (x0.length : Int)

theorem top42 (x0 : List ByteArray) (x1 : Int) (hm : x0.length ≤ maxLen) (h : P42 x0 x1) : R42 (x0.length + 1 + 1) x0 x1 [⟨.int .i64, g42_0 x0 x1⟩] := by
  rw [R42]
  have := run42 x0 x1 hm h.1.1 h.1.2 h.2 x0.length 0 (by omega)
  simpa [g42_0] using this

def S42 : Am.Spec := { sig := sig42, pre := fun ⟨x0, x1, _⟩ => P42 x0 x1, res := fun ⟨x0, x1, _⟩ => [⟨.int .i64, g42_0 x0 x1⟩] }
theorem con42 : Contract Try.prog 42 S42 := contract_of Try.func42 hb42 (Nat.le_of_ble_eq_true (by kernel_rfl)) (fun ⟨x0, x1, _⟩ h hwf w0 O q =>
  (snd42 _).1 x0 x1 _ (top42 x0 x1 hwf.1.1 h) w0 O q)

end Go.Proofs.Ytjkeinpcphkfbaa

/- Function 12 (laws.FnExactSortLines): its runs between cut points. Written by a program of this repo (gen). -/
set_option linter.unusedVariables false
set_option linter.unusedSimpArgs false
set_option maxRecDepth 100000
namespace Go.Proofs.Ytjkeinpcphkfbaa
open Go Go.Am Go.Proofs
def ext12 : Ext := [(23, S23), (25, S25), (57, S57), (58, S58), (28, S28), (29, S29), (42, S42)]
theorem call12_23 : Callable Try.prog 23 := ⟨Try.f23, Try.func23, by kernel_rfl, by kernel_rfl⟩
theorem call12_25 : Callable Try.prog 25 := ⟨Try.f25, Try.func25, by kernel_rfl, by kernel_rfl⟩
theorem call12_57 : Callable Try.prog 57 := ⟨Try.f57, Try.func57, by kernel_rfl, by kernel_rfl⟩
theorem call12_58 : Callable Try.prog 58 := ⟨Try.f58, Try.func58, by kernel_rfl, by kernel_rfl⟩
theorem call12_28 : Callable Try.prog 28 := ⟨Try.f28, Try.func28, by kernel_rfl, by kernel_rfl⟩
theorem call12_29 : Callable Try.prog 29 := ⟨Try.f29, Try.func29, by kernel_rfl, by kernel_rfl⟩
theorem call12_42 : Callable Try.prog 42 := ⟨Try.f42, Try.func42, by kernel_rfl, by kernel_rfl⟩
theorem ext12Ok : ExtOk Try.prog ext12 := ⟨⟨call12_23, con23⟩, ⟨call12_25, con25⟩, ⟨call12_57, con57⟩, ⟨call12_58, con58⟩, ⟨call12_28, con28⟩, ⟨call12_29, con29⟩, ⟨call12_42, con42⟩, trivial⟩
/-! Function 12. -/
noncomputable def b12 : Code := bodyOf Try.f12
theorem hb12 : Try.f12.body = some b12 := by kernel_rfl
def sig12 : List AT := [AT.v (Ty.sl Ty.str)]
def tys12 : List Ty := [Ty.bool]
def P12 (x0 : List ByteArray) : Prop := ((P23 x0 1048576) ∧ (if (Decidable.decide (g23_0 x0 1048576 < 0)) = true then True else ((P25 x0) ∧ ((P57 (g25_0 x0)) ∧ ((P25 x0) ∧ ((P58 (g25_0 x0)) ∧ (if (!g28_0 (g58_0 (g25_0 x0)) (g57_0 (g25_0 x0))) = true then True else (if (g58_1 (g25_0 x0) != g57_1 (g25_0 x0)) = true then True else ((P25 x0) ∧ (if (!g28_0 (g25_0 x0) (g25_0 x0)) = true then True else ((P29 (g25_0 x0) 1) ∧ (List.length (u29_0 (g25_0 x0) 1) = List.length (g25_0 x0)) ∧ (if (Decidable.decide (g29_0 (g25_0 x0) 1 < 0)) = true then True else ((P29 (g58_0 (g25_0 x0)) 1) ∧ (List.length (u29_0 (g58_0 (g25_0 x0)) 1) = List.length (g58_0 (g25_0 x0))) ∧ ((P42 (u29_0 (g58_0 (g25_0 x0)) 1) 1) ∧ (if (Decidable.decide (g42_0 (u29_0 (g58_0 (g25_0 x0)) 1) 1 < 0)) = true then True else (if (g42_0 (u29_0 (g58_0 (g25_0 x0)) 1) 1 != g29_0 (g58_0 (g25_0 x0)) 1) = true then True else ((P25 x0) ∧ ((P58 (g25_0 x0)) ∧ ((P42 (u29_0 (g58_0 (g25_0 x0)) 1) 1) ∧ True)))))))))))))))))))
def g12_0 (x0 : List ByteArray) : Bool := (if (Decidable.decide (g23_0 x0 1048576 < 0)) = true then Bool.true else (if (!g28_0 (g58_0 (g25_0 x0)) (g57_0 (g25_0 x0))) = true then Bool.false else (if (g58_1 (g25_0 x0) != g57_1 (g25_0 x0)) = true then Bool.false else (if (!g28_0 (g25_0 x0) (g25_0 x0)) = true then Bool.false else (if (Decidable.decide (g29_0 (g25_0 x0) 1 < 0)) = true then Bool.false else (if (Decidable.decide (g42_0 (u29_0 (g58_0 (g25_0 x0)) 1) 1 < 0)) = true then Bool.false else (if (g42_0 (u29_0 (g58_0 (g25_0 x0)) 1) 1 != g29_0 (g58_0 (g25_0 x0)) 1) = true then Bool.false else Bool.true)))))))
theorem p12_0 (x0 : List ByteArray) : runF tab ext12 false 96 [] 2000 [] tys12 Try.f12.results [true] [.code b12] (entE 0 0 sig12 (x0, ())) (entL sig12 (x0, ())) = some ([Dyn.mk Ty.bool Bool.true], [], [P23 x0 1048576, Decidable.decide (g23_0 x0 1048576 < 0) = Bool.true]) := by kernel_rfl
theorem p12_1 (x0 : List ByteArray) : runF tab ext12 false 96 [] 2000 [] tys12 Try.f12.results [false, true, true] [.code b12] (entE 0 0 sig12 (x0, ())) (entL sig12 (x0, ())) = some ([Dyn.mk Ty.bool Bool.false], [], [P23 x0 1048576, Decidable.decide (g23_0 x0 1048576 < 0) = Bool.false, P25 x0, P57 (g25_0 x0), P25 x0, P58 (g25_0 x0), True, (!g28_0 (g58_0 (g25_0 x0)) (g57_0 (g25_0 x0))) = Bool.true, Bool.true = Bool.true]) := by kernel_rfl
theorem p12_2 (x0 : List ByteArray) : runF tab ext12 false 96 [] 2000 [] tys12 Try.f12.results [false, false, true] [.code b12] (entE 0 0 sig12 (x0, ())) (entL sig12 (x0, ())) = some ([Dyn.mk Ty.bool Bool.false], [], [P23 x0 1048576, Decidable.decide (g23_0 x0 1048576 < 0) = Bool.false, P25 x0, P57 (g25_0 x0), P25 x0, P58 (g25_0 x0), True, (!g28_0 (g58_0 (g25_0 x0)) (g57_0 (g25_0 x0))) = Bool.false, (g58_1 (g25_0 x0) != g57_1 (g25_0 x0)) = Bool.true]) := by kernel_rfl
theorem p12_3 (x0 : List ByteArray) : runF tab ext12 false 96 [] 2000 [] tys12 Try.f12.results [false, false, false, true] [.code b12] (entE 0 0 sig12 (x0, ())) (entL sig12 (x0, ())) = some ([Dyn.mk Ty.bool Bool.false], [], [P23 x0 1048576, Decidable.decide (g23_0 x0 1048576 < 0) = Bool.false, P25 x0, P57 (g25_0 x0), P25 x0, P58 (g25_0 x0), True, (!g28_0 (g58_0 (g25_0 x0)) (g57_0 (g25_0 x0))) = Bool.false, (g58_1 (g25_0 x0) != g57_1 (g25_0 x0)) = Bool.false, P25 x0, True, (!g28_0 (g25_0 x0) (g25_0 x0)) = Bool.true]) := by kernel_rfl
theorem p12_4 (x0 : List ByteArray) : runF tab ext12 false 96 [] 2000 [] tys12 Try.f12.results [false, false, false, false, true, true, true] [.code b12] (entE 0 0 sig12 (x0, ())) (entL sig12 (x0, ())) = some ([Dyn.mk Ty.bool Bool.false], [], [P23 x0 1048576, Decidable.decide (g23_0 x0 1048576 < 0) = Bool.false, P25 x0, P57 (g25_0 x0), P25 x0, P58 (g25_0 x0), True, (!g28_0 (g58_0 (g25_0 x0)) (g57_0 (g25_0 x0))) = Bool.false, (g58_1 (g25_0 x0) != g57_1 (g25_0 x0)) = Bool.false, P25 x0, True, (!g28_0 (g25_0 x0) (g25_0 x0)) = Bool.false, P29 (g25_0 x0) 1, List.length (u29_0 (g25_0 x0) 1) = List.length (g25_0 x0), Decidable.decide (g29_0 (g25_0 x0) 1 < 0) = Bool.true, Bool.true = Bool.true, Bool.true = Bool.true]) := by kernel_rfl
theorem p12_5 (x0 : List ByteArray) : runF tab ext12 false 96 [] 2000 [] tys12 Try.f12.results [false, false, false, false, false, false, false, true] [.code b12] (entE 0 0 sig12 (x0, ())) (entL sig12 (x0, ())) = some ([Dyn.mk Ty.bool Bool.false], [], [P23 x0 1048576, Decidable.decide (g23_0 x0 1048576 < 0) = Bool.false, P25 x0, P57 (g25_0 x0), P25 x0, P58 (g25_0 x0), True, (!g28_0 (g58_0 (g25_0 x0)) (g57_0 (g25_0 x0))) = Bool.false, (g58_1 (g25_0 x0) != g57_1 (g25_0 x0)) = Bool.false, P25 x0, True, (!g28_0 (g25_0 x0) (g25_0 x0)) = Bool.false, P29 (g25_0 x0) 1, List.length (u29_0 (g25_0 x0) 1) = List.length (g25_0 x0), Decidable.decide (g29_0 (g25_0 x0) 1 < 0) = Bool.false, True, (!g28_0 (g58_0 (g25_0 x0)) (g57_0 (g25_0 x0))) = Bool.false, (g58_1 (g25_0 x0) != g57_1 (g25_0 x0)) = Bool.false, P29 (g58_0 (g25_0 x0)) 1, List.length (u29_0 (g58_0 (g25_0 x0)) 1) = List.length (g58_0 (g25_0 x0)), P42 (u29_0 (g58_0 (g25_0 x0)) 1) 1, Decidable.decide (g42_0 (u29_0 (g58_0 (g25_0 x0)) 1) 1 < 0) = Bool.true]) := by kernel_rfl
theorem p12_6 (x0 : List ByteArray) : runF tab ext12 false 96 [] 2000 [] tys12 Try.f12.results [false, false, false, false, false, false, false, false, true] [.code b12] (entE 0 0 sig12 (x0, ())) (entL sig12 (x0, ())) = some ([Dyn.mk Ty.bool Bool.false], [], [P23 x0 1048576, Decidable.decide (g23_0 x0 1048576 < 0) = Bool.false, P25 x0, P57 (g25_0 x0), P25 x0, P58 (g25_0 x0), True, (!g28_0 (g58_0 (g25_0 x0)) (g57_0 (g25_0 x0))) = Bool.false, (g58_1 (g25_0 x0) != g57_1 (g25_0 x0)) = Bool.false, P25 x0, True, (!g28_0 (g25_0 x0) (g25_0 x0)) = Bool.false, P29 (g25_0 x0) 1, List.length (u29_0 (g25_0 x0) 1) = List.length (g25_0 x0), Decidable.decide (g29_0 (g25_0 x0) 1 < 0) = Bool.false, True, (!g28_0 (g58_0 (g25_0 x0)) (g57_0 (g25_0 x0))) = Bool.false, (g58_1 (g25_0 x0) != g57_1 (g25_0 x0)) = Bool.false, P29 (g58_0 (g25_0 x0)) 1, List.length (u29_0 (g58_0 (g25_0 x0)) 1) = List.length (g58_0 (g25_0 x0)), P42 (u29_0 (g58_0 (g25_0 x0)) 1) 1, Decidable.decide (g42_0 (u29_0 (g58_0 (g25_0 x0)) 1) 1 < 0) = Bool.false, (g42_0 (u29_0 (g58_0 (g25_0 x0)) 1) 1 != g29_0 (g58_0 (g25_0 x0)) 1) = Bool.true]) := by kernel_rfl
theorem p12_7 (x0 : List ByteArray) : runF tab ext12 false 96 [] 2000 [] tys12 Try.f12.results [false, false, false, false, false, false, false, false, false, false, false, false, false] [.code b12] (entE 0 0 sig12 (x0, ())) (entL sig12 (x0, ())) = some ([Dyn.mk Ty.bool Bool.true], [], [P23 x0 1048576, Decidable.decide (g23_0 x0 1048576 < 0) = Bool.false, P25 x0, P57 (g25_0 x0), P25 x0, P58 (g25_0 x0), True, (!g28_0 (g58_0 (g25_0 x0)) (g57_0 (g25_0 x0))) = Bool.false, (g58_1 (g25_0 x0) != g57_1 (g25_0 x0)) = Bool.false, P25 x0, True, (!g28_0 (g25_0 x0) (g25_0 x0)) = Bool.false, P29 (g25_0 x0) 1, List.length (u29_0 (g25_0 x0) 1) = List.length (g25_0 x0), Decidable.decide (g29_0 (g25_0 x0) 1 < 0) = Bool.false, True, (!g28_0 (g58_0 (g25_0 x0)) (g57_0 (g25_0 x0))) = Bool.false, (g58_1 (g25_0 x0) != g57_1 (g25_0 x0)) = Bool.false, P29 (g58_0 (g25_0 x0)) 1, List.length (u29_0 (g58_0 (g25_0 x0)) 1) = List.length (g58_0 (g25_0 x0)), P42 (u29_0 (g58_0 (g25_0 x0)) 1) 1, Decidable.decide (g42_0 (u29_0 (g58_0 (g25_0 x0)) 1) 1 < 0) = Bool.false, (g42_0 (u29_0 (g58_0 (g25_0 x0)) 1) 1 != g29_0 (g58_0 (g25_0 x0)) 1) = Bool.false, P25 x0, P58 (g25_0 x0), True, (!g28_0 (g58_0 (g25_0 x0)) (g57_0 (g25_0 x0))) = Bool.false, (g58_1 (g25_0 x0) != g57_1 (g25_0 x0)) = Bool.false, P42 (u29_0 (g58_0 (g25_0 x0)) 1) 1, Decidable.decide (g42_0 (u29_0 (g58_0 (g25_0 x0)) 1) 1 < 0) = Bool.false, (g42_0 (u29_0 (g58_0 (g25_0 x0)) 1) 1 != g29_0 (g58_0 (g25_0 x0)) 1) = Bool.false]) := by kernel_rfl
theorem at12 (x0 : List ByteArray) (h : P12 x0) (w0 : World) (O : List Nat) (q : Nat → Value) : AtV Try.prog 12 (PostR [⟨Ty.bool, g12_0 x0⟩] [] [] q w0 O) 96 w0 O q [] [.code b12] (entE 0 0 sig12 (x0, ())) (entL sig12 (x0, ())) := by
  unfold P12 at h
  unfold g12_0
  obtain ⟨s0, h⟩ := h
  by_cases b0 : (Decidable.decide (g23_0 x0 1048576 < 0)) = true
  · try simp only [if_pos b0] at h ⊢
    exact AtV.fin Try.func12 tabOk ext12Ok mixed (p12_0 x0) ⟨s0, b0, trivial⟩
  · try simp only [if_neg b0] at h ⊢
    replace b0 := Bool.eq_false_iff.2 b0
    obtain ⟨s1, h⟩ := h
    obtain ⟨s2, h⟩ := h
    obtain ⟨s3, h⟩ := h
    obtain ⟨s4, h⟩ := h
    by_cases b1 : (!g28_0 (g58_0 (g25_0 x0)) (g57_0 (g25_0 x0))) = true
    · try simp only [if_pos b1] at h ⊢
      exact AtV.fin Try.func12 tabOk ext12Ok mixed (p12_1 x0) ⟨s0, b0, s1, s2, s3, s4, trivial, b1, rfl, trivial⟩
    · try simp only [if_neg b1] at h ⊢
      replace b1 := Bool.eq_false_iff.2 b1
      by_cases b2 : (g58_1 (g25_0 x0) != g57_1 (g25_0 x0)) = true
      · try simp only [if_pos b2] at h ⊢
        exact AtV.fin Try.func12 tabOk ext12Ok mixed (p12_2 x0) ⟨s0, b0, s1, s2, s3, s4, trivial, b1, b2, trivial⟩
      · try simp only [if_neg b2] at h ⊢
        replace b2 := Bool.eq_false_iff.2 b2
        obtain ⟨s5, h⟩ := h
        by_cases b3 : (!g28_0 (g25_0 x0) (g25_0 x0)) = true
        · try simp only [if_pos b3] at h ⊢
          exact AtV.fin Try.func12 tabOk ext12Ok mixed (p12_3 x0) ⟨s0, b0, s1, s2, s3, s4, trivial, b1, b2, s5, trivial, b3, trivial⟩
        · try simp only [if_neg b3] at h ⊢
          replace b3 := Bool.eq_false_iff.2 b3
          obtain ⟨s6, s7, h⟩ := h
          by_cases b4 : (Decidable.decide (g29_0 (g25_0 x0) 1 < 0)) = true
          · try simp only [if_pos b4] at h ⊢
            exact AtV.fin Try.func12 tabOk ext12Ok mixed (p12_4 x0) ⟨s0, b0, s1, s2, s3, s4, trivial, b1, b2, s5, trivial, b3, s6, s7, b4, rfl, rfl, trivial⟩
          · try simp only [if_neg b4] at h ⊢
            replace b4 := Bool.eq_false_iff.2 b4
            obtain ⟨s8, s9, h⟩ := h
            obtain ⟨s10, h⟩ := h
            by_cases b5 : (Decidable.decide (g42_0 (u29_0 (g58_0 (g25_0 x0)) 1) 1 < 0)) = true
            · try simp only [if_pos b5] at h ⊢
              exact AtV.fin Try.func12 tabOk ext12Ok mixed (p12_5 x0) ⟨s0, b0, s1, s2, s3, s4, trivial, b1, b2, s5, trivial, b3, s6, s7, b4, trivial, b1, b2, s8, s9, s10, b5, trivial⟩
            · try simp only [if_neg b5] at h ⊢
              replace b5 := Bool.eq_false_iff.2 b5
              by_cases b6 : (g42_0 (u29_0 (g58_0 (g25_0 x0)) 1) 1 != g29_0 (g58_0 (g25_0 x0)) 1) = true
              · try simp only [if_pos b6] at h ⊢
                exact AtV.fin Try.func12 tabOk ext12Ok mixed (p12_6 x0) ⟨s0, b0, s1, s2, s3, s4, trivial, b1, b2, s5, trivial, b3, s6, s7, b4, trivial, b1, b2, s8, s9, s10, b5, b6, trivial⟩
              · try simp only [if_neg b6] at h ⊢
                replace b6 := Bool.eq_false_iff.2 b6
                obtain ⟨s11, h⟩ := h
                obtain ⟨s12, h⟩ := h
                obtain ⟨s13, h⟩ := h
                exact AtV.fin Try.func12 tabOk ext12Ok mixed (p12_7 x0) ⟨s0, b0, s1, s2, s3, s4, trivial, b1, b2, s5, trivial, b3, s6, s7, b4, trivial, b1, b2, s8, s9, s10, b5, b6, s11, s12, trivial, b1, b2, s13, b5, b6, trivial⟩

def S12 : Am.Spec := { sig := sig12, pre := fun ⟨x0, _⟩ => P12 x0, res := fun ⟨x0, _⟩ => [⟨Ty.bool, g12_0 x0⟩] }
theorem con12 : Contract Try.prog 12 S12 := contract_of Try.func12 hb12 (Nat.le_of_ble_eq_true (by kernel_rfl)) (fun ⟨x0, _⟩ h _ w0 O q => at12 x0 h w0 O q)


end Go.Proofs.Ytjkeinpcphkfbaa

/- A law that says how functions of the program and of the specification hang together. -/
set_option linter.unusedVariables false
set_option linter.unusedSimpArgs false
set_option maxRecDepth 100000
namespace Go.Proofs.Ytjkeinpcphkfbaa
open Go Go.Am Go.Proofs

theorem reportLine (s : ByteArray) : g78_0 s = g75_0 s := by
  unfold g78_0 g111c112_0 g75_0
  rw [any134c112]
  have hq : (!(bytesOf s).any g112_0) = (bytesOf s).all ok75 := by
    rw [List.not_any_eq_all_not]
    congr 1
    funext b
    simp only [g112_0, ok75]
    by_cases h1 : b < 32 <;> by_cases h2 : b > 126 <;> simp [h1, h2] <;> omega
  rw [hq]
  by_cases h : ((s.size : Nat) : Int) ≤ 100
  · have h' : s.size ≤ 100 := by omega
    simp [h, h']
  · have h' : ¬ s.size ≤ 100 := by omega
    simp [h, h']

theorem report (x : List ByteArray) : g76_0 x = g73_0 x := by
  unfold g76_0 g73_0 g109c110_0
  rw [any133c110]
  have hq : (!x.any g110_0) = x.all g75_0 := by
    rw [List.not_any_eq_all_not]
    congr 1
    funext b
    simp only [g110_0, reportLine, Bool.not_not]
  rw [hq]
  by_cases h : ((x.length : Nat) : Int) ≤ 200
  · have h' : x.length ≤ 200 := by omega
    simp [h, h']
  · have h' : ¬ x.length ≤ 200 := by omega
    simp [h, h']

end Go.Proofs.Ytjkeinpcphkfbaa

/- A law that says how functions of the program and of the specification hang together. -/
set_option linter.unusedVariables false
set_option linter.unusedSimpArgs false
set_option maxRecDepth 100000
namespace Go.Proofs.Ytjkeinpcphkfbaa
open Go Go.Am Go.Proofs

theorem sort_eq (x : List ByteArray) : g58_0 x = g57_0 x ∧ g58_1 x = g57_1 x := by
  unfold g58_0 g57_0 g58_1 g57_1
  rw [report]
  exact ⟨rfl, rfl⟩

theorem sort_len (x : List ByteArray) : (g57_0 x).length ≤ x.length := by
  unfold g57_0
  split
  · simp
  · exact (Nat.le_of_eq (sortB_perm x).length_eq)

theorem sort_pre (x : List ByteArray) (h1 : x.length ≤ 1048576) : P57 x ∧ P58 x := by
  unfold P57 P58
  refine ⟨?_, ?_⟩
  · split
    · trivial
    · exact ⟨h1, trivial⟩
  · split
    · trivial
    · exact ⟨h1, h1, (sortB_perm x).length_eq, trivial⟩

end Go.Proofs.Ytjkeinpcphkfbaa

/- A law that says how functions of the program and of the specification hang together. -/
set_option linter.unusedVariables false
set_option linter.unusedSimpArgs false
set_option maxRecDepth 100000
namespace Go.Proofs.Ytjkeinpcphkfbaa
open Go Go.Am Go.Proofs

theorem marked_str (xs : List ByteArray) (h : xs.length ≤ 1048576) : P29 xs 1 ∧ (u29_0 xs 1).length = xs.length ∧ P42 (u29_0 xs 1) 1 ∧
    g42_0 (u29_0 xs 1) 1 = g29_0 xs 1 ∧ ¬ g29_0 xs 1 < 0 := by
  have hl : (u29_0 xs 1).length = xs.length := by rw [u29_0, M29_len]
  refine ⟨⟨by omega, by omega⟩, hl, ⟨⟨by omega, by rw [hl]; omega⟩, fun i hi => ?_⟩, ?_, ?_⟩
  · rw [hl] at hi
    rw [getD_lt _ _ _ (by rw [hl]; exact hi)]
    simp [u29_0, M29]
  · unfold g42_0 g29_0
    rw [hl]
  · unfold g29_0
    omega

end Go.Proofs.Ytjkeinpcphkfbaa

/- The plain law of FnExactSortLines. -/
set_option linter.unusedVariables false
set_option linter.unusedSimpArgs false
set_option maxRecDepth 100000
namespace Go.Proofs.Ytjkeinpcphkfbaa
open Go Go.Am Go.Proofs

theorem law12 (x : List ByteArray) (hw : Wf (.sl .str) x) : P12 x ∧ g12_0 x = true := by
  unfold P12 g12_0
  by_cases h : g23_0 x 1048576 < 0
  · simp only [h, decide_true, if_true, and_true]
    exact (show (0 : Int) ≤ 1048576 from by decide)
  · have hs := sz23_sum x 1048576 h
    have hp : P25 x := by
      show 16 * (x.length : Int) ≤ 281474976710656
      omega
    have hz : P23 x 1048576 := (show (0 : Int) ≤ 1048576 from by decide)
    have hl := sort_len x
    obtain ⟨e0, e1⟩ := sort_eq x
    obtain ⟨q1, q2⟩ := sort_pre x (by omega)
    obtain ⟨b1, b2, b3, b4, b5⟩ := marked_str x (by omega)
    obtain ⟨m1, m2, m3, m4, m5⟩ := marked_str (g57_0 x) (by omega)
    simp only [h, decide_false, Bool.false_eq_true, if_false, g25_0, e0, e1, q1, q2, g28_0, decide_true, Bool.not_true, bne_self_eq_false, b1, b2, b5, m1, m2, m3, m4, m5, hp, hz, true_and, and_self]

end Go.Proofs.Ytjkeinpcphkfbaa
