/- Several texts in one: the functions that this law reaches, and their laws. -/
import Derived.Test.YtjkeinpcphkfbaaZ7A
import Derived.Test.YtjkeinpcphkfbaaZ7B

/- Function 111 (slices.ContainsFunc[[]byte,byte]): its runs between cut points. Written by a program of this repo (gen). -/
set_option linter.unusedVariables false
set_option linter.unusedSimpArgs false
set_option maxRecDepth 100000
namespace Go.Proofs.Ytjkeinpcphkfbaa
open Go Go.Am Go.Proofs
def ext111c112 : Ext := [(134, S134c112), (112, S112)]
theorem call111c112_134 : Callable Try.prog 134 := ⟨Try.f134, Try.func134, by kernel_rfl, by kernel_rfl⟩
theorem call111c112_112 : Callable Try.prog 112 := ⟨Try.f112, Try.func112, by kernel_rfl, by kernel_rfl⟩
theorem ext111c112Ok : ExtOk Try.prog ext111c112 := ⟨⟨call111c112_134, con134c112⟩, ⟨call111c112_112, con112⟩, trivial⟩
/-! Function 111c112. -/
noncomputable def b111c112 : Code := bodyOf Try.f111
theorem hb111c112 : Try.f111.body = some b111c112 := by kernel_rfl
def sig111c112 : List AT := [AT.v (Ty.sl (Ty.int IntKind.u8)), AT.fn 112 []]
def tys111c112 : List Ty := [Ty.bool]
def P111c112 (x0 : List Int) : Prop := True
def g111c112_0 (x0 : List Int) : Bool := Decidable.decide (g134c112_0 x0 ≥ 0)
theorem p111c112_0 (x0 : List Int) : runF tab ext111c112 false 9 [] 2000 [] tys111c112 Try.f111.results [] [.code b111c112] (entE 0 0 sig111c112 (x0, (), ())) (entL sig111c112 (x0, (), ())) = some ([Dyn.mk Ty.bool (Decidable.decide (g134c112_0 x0 ≥ 0))], [], [True]) := by kernel_rfl
theorem at111c112 (x0 : List Int) (h : P111c112 x0) (w0 : World) (O : List Nat) (q : Nat → Value) : AtV Try.prog 111 (PostR [⟨Ty.bool, g111c112_0 x0⟩] [] [] q w0 O) 9 w0 O q [] [.code b111c112] (entE 0 0 sig111c112 (x0, (), ())) (entL sig111c112 (x0, (), ())) := by
  unfold P111c112 at h
  unfold g111c112_0
  exact AtV.fin Try.func111 tabOk ext111c112Ok mixed (p111c112_0 x0) ⟨trivial, trivial⟩

def S111c112 : Am.Spec := { sig := sig111c112, pre := fun ⟨x0, _⟩ => P111c112 x0, res := fun ⟨x0, _⟩ => [⟨Ty.bool, g111c112_0 x0⟩] }
theorem con111c112 : Contract Try.prog 111 S111c112 := contract_of Try.func111 hb111c112 (Nat.le_of_ble_eq_true (by kernel_rfl)) (fun ⟨x0, _⟩ h _ w0 O q => at111c112 x0 h w0 O q)


end Go.Proofs.Ytjkeinpcphkfbaa

/- Function 78 (impl.isReportLine): its runs between cut points. Written by a program of this repo (gen). -/
set_option linter.unusedVariables false
set_option linter.unusedSimpArgs false
set_option maxRecDepth 100000
namespace Go.Proofs.Ytjkeinpcphkfbaa
open Go Go.Am Go.Proofs
def ext78 : Ext := [(111, S111c112)]
theorem call78_111 : Callable Try.prog 111 := ⟨Try.f111, Try.func111, by kernel_rfl, by kernel_rfl⟩
theorem ext78Ok : ExtOk Try.prog ext78 := ⟨⟨call78_111, con111c112⟩, trivial⟩
/-! Function 78. -/
noncomputable def b78 : Code := bodyOf Try.f78
theorem hb78 : Try.f78.body = some b78 := by kernel_rfl
def sig78 : List AT := [AT.v (Ty.str)]
def tys78 : List Ty := [Ty.bool]
def P78 (x0 : ByteArray) : Prop := True
def g78_0 (x0 : ByteArray) : Bool := (if (Decidable.decide ((↑(ByteArray.size x0) : Int) ≤ 100)) = true then !g111c112_0 (bytesOf x0) else Bool.false)
theorem p78_0 (x0 : ByteArray) : runF tab ext78 false 12 [] 2000 [] tys78 Try.f78.results [true] [.code b78] (entE 0 0 sig78 (x0, ())) (entL sig78 (x0, ())) = some ([Dyn.mk Ty.bool !g111c112_0 (bytesOf x0)], [], [Decidable.decide ((↑(ByteArray.size x0) : Int) ≤ 100) = Bool.true, True]) := by kernel_rfl
theorem p78_1 (x0 : ByteArray) : runF tab ext78 false 12 [] 2000 [] tys78 Try.f78.results [false] [.code b78] (entE 0 0 sig78 (x0, ())) (entL sig78 (x0, ())) = some ([Dyn.mk Ty.bool Bool.false], [], [Decidable.decide ((↑(ByteArray.size x0) : Int) ≤ 100) = Bool.false]) := by kernel_rfl
theorem at78 (x0 : ByteArray) (h : P78 x0) (w0 : World) (O : List Nat) (q : Nat → Value) : AtV Try.prog 78 (PostR [⟨Ty.bool, g78_0 x0⟩] [] [] q w0 O) 12 w0 O q [] [.code b78] (entE 0 0 sig78 (x0, ())) (entL sig78 (x0, ())) := by
  unfold P78 at h
  unfold g78_0
  by_cases b0 : (Decidable.decide ((↑(ByteArray.size x0) : Int) ≤ 100)) = true
  · try simp only [if_pos b0] at h ⊢
    exact AtV.fin Try.func78 tabOk ext78Ok mixed (p78_0 x0) ⟨b0, trivial, trivial⟩
  · try simp only [if_neg b0] at h ⊢
    replace b0 := Bool.eq_false_iff.2 b0
    exact AtV.fin Try.func78 tabOk ext78Ok mixed (p78_1 x0) ⟨b0, trivial⟩

def S78 : Am.Spec := { sig := sig78, pre := fun ⟨x0, _⟩ => P78 x0, res := fun ⟨x0, _⟩ => [⟨Ty.bool, g78_0 x0⟩] }
theorem con78 : Contract Try.prog 78 S78 := contract_of Try.func78 hb78 (Nat.le_of_ble_eq_true (by kernel_rfl)) (fun ⟨x0, _⟩ h _ w0 O q => at78 x0 h w0 O q)


end Go.Proofs.Ytjkeinpcphkfbaa

/- Function 110 (impl.ValidReport$1): its runs between cut points. Written by a program of this repo (gen). -/
set_option linter.unusedVariables false
set_option linter.unusedSimpArgs false
set_option maxRecDepth 100000
namespace Go.Proofs.Ytjkeinpcphkfbaa
open Go Go.Am Go.Proofs
def ext110 : Ext := [(78, S78)]
theorem call110_78 : Callable Try.prog 78 := ⟨Try.f78, Try.func78, by kernel_rfl, by kernel_rfl⟩
theorem ext110Ok : ExtOk Try.prog ext110 := ⟨⟨call110_78, con78⟩, trivial⟩
/-! Function 110. -/
noncomputable def b110 : Code := bodyOf Try.f110
theorem hb110 : Try.f110.body = some b110 := by kernel_rfl
def sig110 : List AT := [AT.v (Ty.str)]
def tys110 : List Ty := [Ty.bool]
def P110 (x0 : ByteArray) : Prop := True
def g110_0 (x0 : ByteArray) : Bool := !g78_0 x0
theorem p110_0 (x0 : ByteArray) : runF tab ext110 false 6 [] 2000 [] tys110 Try.f110.results [] [.code b110] (entE 0 0 sig110 (x0, ())) (entL sig110 (x0, ())) = some ([Dyn.mk Ty.bool !g78_0 x0], [], [True]) := by kernel_rfl
theorem at110 (x0 : ByteArray) (h : P110 x0) (w0 : World) (O : List Nat) (q : Nat → Value) : AtV Try.prog 110 (PostR [⟨Ty.bool, g110_0 x0⟩] [] [] q w0 O) 6 w0 O q [] [.code b110] (entE 0 0 sig110 (x0, ())) (entL sig110 (x0, ())) := by
  unfold P110 at h
  unfold g110_0
  exact AtV.fin Try.func110 tabOk ext110Ok mixed (p110_0 x0) ⟨trivial, trivial⟩

def S110 : Am.Spec := { sig := sig110, pre := fun ⟨x0, _⟩ => P110 x0, res := fun ⟨x0, _⟩ => [⟨Ty.bool, g110_0 x0⟩] }
theorem con110 : Contract Try.prog 110 S110 := contract_of Try.func110 hb110 (Nat.le_of_ble_eq_true (by kernel_rfl)) (fun ⟨x0, _⟩ h _ w0 O q => at110 x0 h w0 O q)


end Go.Proofs.Ytjkeinpcphkfbaa

/- Function 133 (slices.IndexFunc[[]string,string]): its runs between cut points. Written by a program of this repo (gen). -/
set_option linter.unusedVariables false
set_option linter.unusedSimpArgs false
set_option maxRecDepth 100000
namespace Go.Proofs.Ytjkeinpcphkfbaa
open Go Go.Am Go.Proofs
def ext133c110 : Ext := [(110, S110)]
theorem call133c110_110 : Callable Try.prog 110 := ⟨Try.f110, Try.func110, by kernel_rfl, by kernel_rfl⟩
theorem ext133c110Ok : ExtOk Try.prog ext133c110 := ⟨⟨call133c110_110, con110⟩, trivial⟩
/-! Function 133c110. -/
noncomputable def b133c110 : Code := bodyOf Try.f133
theorem hb133c110 : Try.f133.body = some b133c110 := by kernel_rfl
def sig133c110 : List AT := [AT.v (Ty.sl Ty.str), AT.fn 110 []]
def tys133c110 : List Ty := [Ty.int IntKind.i64]
def E133c110_2 (v8 : Int) (x0 : List ByteArray) : Env := [(0, PV.a (Atom.sl Ty.str x0)), (1, PV.fn 110 []), (7, PV.a (Atom.val (Value.int IntKind.i64 (↑(List.length x0) : Int)))), (8, PV.a (Atom.val (Value.int IntKind.i64 v8)))]
def L133c110_2 (v8 : Int) (x0 : List ByteArray) : Heap := []
mutual
def R133c110 : Nat → List ByteArray → List Dyn → Prop
  | 0, _, _ => False
  | n + 1, x0, ds => (R133c110_2 n (0) (x0) ds)
def R133c110_2 : Nat → Int → List ByteArray → List Dyn → Prop
  | 0, _, _, _ => False
  | n + 1, v8, x0, ds => (if (Decidable.decide (v8 < (↑(List.length x0) : Int))) = true then ((0 ≤ v8) ∧ (v8 < (↑(List.length x0) : Int)) ∧ (if (g110_0 (List.getD x0 (Int.toNat v8) ByteArray.empty)) = true then (ds = [Dyn.mk (Ty.int IntKind.i64) v8]) else ((InR IntKind.i64 (v8 + 1)) ∧ (R133c110_2 n (v8 + 1) (x0) ds)))) else (ds = [Dyn.mk (Ty.int IntKind.i64) (-1)]))
end
theorem p133c110_0 (x0 : List ByteArray) : Am.runN tab ext133c110 false 19 [] 2000 [] [] [0, 1, 7, 8] [] [] [.code b133c110] (entE 0 0 sig133c110 (x0, (), ())) (entL sig133c110 (x0, (), ())) = some (cutAt b133c110 2, E133c110_2 (0) (x0), L133c110_2 (0) (x0), []) := by kernel_rfl
theorem p133c110_1 (v8 : Int) (x0 : List ByteArray) : runF tab ext133c110 false 19 [] 2000 [] tys133c110 Try.f133.results [true, true] (cutAt b133c110 2) (E133c110_2 v8 x0) (L133c110_2 v8 x0) = some ([Dyn.mk (Ty.int IntKind.i64) v8], [], [Decidable.decide (v8 < (↑(List.length x0) : Int)) = Bool.true, 0 ≤ v8, v8 < (↑(List.length x0) : Int), True, g110_0 (List.getD x0 (Int.toNat v8) ByteArray.empty) = Bool.true]) := by kernel_rfl
theorem p133c110_2 (v8 : Int) (x0 : List ByteArray) : Am.runN tab ext133c110 false 19 [] 2000 [] [] [0, 1, 7, 8] [] [true, false] (cutAt b133c110 2) (E133c110_2 v8 x0) (L133c110_2 v8 x0) = some (cutAt b133c110 2, E133c110_2 (v8 + 1) (x0), L133c110_2 (v8 + 1) (x0), [Decidable.decide (v8 < (↑(List.length x0) : Int)) = Bool.true, 0 ≤ v8, v8 < (↑(List.length x0) : Int), True, g110_0 (List.getD x0 (Int.toNat v8) ByteArray.empty) = Bool.false, InR IntKind.i64 (v8 + 1)]) := by kernel_rfl
theorem p133c110_3 (v8 : Int) (x0 : List ByteArray) : runF tab ext133c110 false 19 [] 2000 [] tys133c110 Try.f133.results [false] (cutAt b133c110 2) (E133c110_2 v8 x0) (L133c110_2 v8 x0) = some ([Dyn.mk (Ty.int IntKind.i64) (-1)], [], [Decidable.decide (v8 < (↑(List.length x0) : Int)) = Bool.false]) := by kernel_rfl
theorem snd133c110 : ∀ n, (∀ (x0 : List ByteArray) ds, R133c110 n x0 ds → ∀ w0 O q, AtV Try.prog 133 (PostR ds [] [] q w0 O) 19 w0 O q [] [.code b133c110] (entE 0 0 sig133c110 (x0, (), ())) (entL sig133c110 (x0, (), ()))) ∧ (∀ (v8 : Int) (x0 : List ByteArray) ds, R133c110_2 n v8 x0 ds → ∀ w0 O q, AtV Try.prog 133 (PostR ds [] [] q w0 O) 19 w0 O q [] (cutAt b133c110 2) (E133c110_2 v8 x0) (L133c110_2 v8 x0)) := by
  intro n
  induction n with
  | zero => exact ⟨fun _ _ h => by simp only [R133c110] at h, fun _ _ _ h => by simp only [R133c110_2] at h⟩
  | succ n ih =>
  obtain ⟨ih, ih2⟩ := ih
  refine ⟨?_, ?_⟩
  · intro x0 ds h w0 O q
    rw [R133c110] at h
    exact AtV.runN tabOk ext133c110Ok mixed (p133c110_0 x0) trivial (ih2 _ _ _ h w0 O q)

  · intro v8 x0 ds h w0 O q
    rw [R133c110_2] at h
    by_cases b0 : (Decidable.decide (v8 < (↑(List.length x0) : Int))) = true
    · rw [if_pos b0] at h
      obtain ⟨s0, s1, h⟩ := h
      by_cases b1 : (g110_0 (List.getD x0 (Int.toNat v8) ByteArray.empty)) = true
      · rw [if_pos b1] at h
        subst h
        exact AtV.fin Try.func133 tabOk ext133c110Ok mixed (p133c110_1 v8 x0) ⟨b0, s0, s1, trivial, b1, trivial⟩
      · rw [if_neg b1] at h
        replace b1 := Bool.eq_false_iff.2 b1
        obtain ⟨s2, h⟩ := h
        exact AtV.runN tabOk ext133c110Ok mixed (p133c110_2 v8 x0) ⟨b0, s0, s1, trivial, b1, s2, trivial⟩ (ih2 _ _ _ h w0 O q)
    · rw [if_neg b0] at h
      replace b0 := Bool.eq_false_iff.2 b0
      subst h
      exact AtV.fin Try.func133 tabOk ext133c110Ok mixed (p133c110_3 v8 x0) ⟨b0, trivial⟩



def g133c110_0 (x0 : List (ByteArray)) : Int := idx (x0.findIdx? g110_0)
def P133c110 (x0 : List (ByteArray)) : Prop := True

theorem top133c110 (x0 : List (ByteArray)) (hm : x0.length ≤ maxLen) : R133c110 (x0.length + 1 + 1) x0 [⟨.int .i64, g133c110_0 x0⟩] := by
  rw [R133c110]
  have key := loop_find x0 ByteArray.empty g110_0 [(⟨.int .i64, -1⟩ : Dyn)] (fun k => [⟨.int .i64, k⟩]) (fun n i ds => R133c110_2 n i x0 ds) (fun n => ?_) (fun n i hi hok ds hr => ?_) (fun n i hi hok => ?_)
  · unfold g133c110_0
    cases h : x0.findIdx? g110_0 <;> rw [h] at key <;> exact key
  · rw [R133c110_2, if_neg (by simp)]
  · rw [R133c110_2, if_pos (by simp; omega)]
    simp only [Int.toNat_natCast]
    refine ⟨by omega, by omega, ?_⟩
    rw [if_neg (by rw [hok]; simp)]
    exact ⟨inR_up hm hi, hr⟩
  · rw [R133c110_2, if_pos (by simp; omega)]
    simp only [Int.toNat_natCast]
    refine ⟨by omega, by omega, ?_⟩
    rw [if_pos hok] <;> trivial

def S133c110 : Am.Spec := { sig := sig133c110, pre := fun ⟨x0, _⟩ => P133c110 x0, res := fun ⟨x0, _⟩ => [⟨Ty.int .i64, g133c110_0 x0⟩] }
theorem con133c110 : Contract Try.prog 133 S133c110 := contract_of Try.func133 hb133c110 (Nat.le_of_ble_eq_true (by kernel_rfl)) (fun ⟨x0, _⟩ h hwf w0 O q =>
  (snd133c110 _).1 x0 _ (top133c110 x0 hwf.1.1) w0 O q)

theorem any133c110 (x0 : List (ByteArray)) : decide (g133c110_0 x0 ≥ 0) = x0.any g110_0 := by
  have := findIdx_any g110_0 x0
  unfold g133c110_0
  cases h : x0.any g110_0 with
  | true => rw [h] at this; simpa using this
  | false => rw [h] at this; simpa using this

end Go.Proofs.Ytjkeinpcphkfbaa

/- Function 109 (slices.ContainsFunc[[]string,string]): its runs between cut points. Written by a program of this repo (gen). -/
set_option linter.unusedVariables false
set_option linter.unusedSimpArgs false
set_option maxRecDepth 100000
namespace Go.Proofs.Ytjkeinpcphkfbaa
open Go Go.Am Go.Proofs
def ext109c110 : Ext := [(133, S133c110), (110, S110)]
theorem call109c110_133 : Callable Try.prog 133 := ⟨Try.f133, Try.func133, by kernel_rfl, by kernel_rfl⟩
theorem call109c110_110 : Callable Try.prog 110 := ⟨Try.f110, Try.func110, by kernel_rfl, by kernel_rfl⟩
theorem ext109c110Ok : ExtOk Try.prog ext109c110 := ⟨⟨call109c110_133, con133c110⟩, ⟨call109c110_110, con110⟩, trivial⟩
/-! Function 109c110. -/
noncomputable def b109c110 : Code := bodyOf Try.f109
theorem hb109c110 : Try.f109.body = some b109c110 := by kernel_rfl
def sig109c110 : List AT := [AT.v (Ty.sl Ty.str), AT.fn 110 []]
def tys109c110 : List Ty := [Ty.bool]
def P109c110 (x0 : List ByteArray) : Prop := True
def g109c110_0 (x0 : List ByteArray) : Bool := Decidable.decide (g133c110_0 x0 ≥ 0)
theorem p109c110_0 (x0 : List ByteArray) : runF tab ext109c110 false 9 [] 2000 [] tys109c110 Try.f109.results [] [.code b109c110] (entE 0 0 sig109c110 (x0, (), ())) (entL sig109c110 (x0, (), ())) = some ([Dyn.mk Ty.bool (Decidable.decide (g133c110_0 x0 ≥ 0))], [], [True]) := by kernel_rfl
theorem at109c110 (x0 : List ByteArray) (h : P109c110 x0) (w0 : World) (O : List Nat) (q : Nat → Value) : AtV Try.prog 109 (PostR [⟨Ty.bool, g109c110_0 x0⟩] [] [] q w0 O) 9 w0 O q [] [.code b109c110] (entE 0 0 sig109c110 (x0, (), ())) (entL sig109c110 (x0, (), ())) := by
  unfold P109c110 at h
  unfold g109c110_0
  exact AtV.fin Try.func109 tabOk ext109c110Ok mixed (p109c110_0 x0) ⟨trivial, trivial⟩

def S109c110 : Am.Spec := { sig := sig109c110, pre := fun ⟨x0, _⟩ => P109c110 x0, res := fun ⟨x0, _⟩ => [⟨Ty.bool, g109c110_0 x0⟩] }
theorem con109c110 : Contract Try.prog 109 S109c110 := contract_of Try.func109 hb109c110 (Nat.le_of_ble_eq_true (by kernel_rfl)) (fun ⟨x0, _⟩ h _ w0 O q => at109c110 x0 h w0 O q)


end Go.Proofs.Ytjkeinpcphkfbaa

/- Function 76 (impl.ValidReport): its runs between cut points. Written by a program of this repo (gen). -/
set_option linter.unusedVariables false
set_option linter.unusedSimpArgs false
set_option maxRecDepth 100000
namespace Go.Proofs.Ytjkeinpcphkfbaa
open Go Go.Am Go.Proofs
def ext76 : Ext := [(109, S109c110)]
theorem call76_109 : Callable Try.prog 109 := ⟨Try.f109, Try.func109, by kernel_rfl, by kernel_rfl⟩
theorem ext76Ok : ExtOk Try.prog ext76 := ⟨⟨call76_109, con109c110⟩, trivial⟩
/-! Function 76. -/
noncomputable def b76 : Code := bodyOf Try.f76
theorem hb76 : Try.f76.body = some b76 := by kernel_rfl
def sig76 : List AT := [AT.v (Ty.sl Ty.str)]
def tys76 : List Ty := [Ty.bool]
def P76 (x0 : List ByteArray) : Prop := True
def g76_0 (x0 : List ByteArray) : Bool := (if (Decidable.decide ((↑(List.length x0) : Int) ≤ 200)) = true then !g109c110_0 x0 else Bool.false)
theorem p76_0 (x0 : List ByteArray) : runF tab ext76 false 11 [] 2000 [] tys76 Try.f76.results [true] [.code b76] (entE 0 0 sig76 (x0, ())) (entL sig76 (x0, ())) = some ([Dyn.mk Ty.bool !g109c110_0 x0], [], [Decidable.decide ((↑(List.length x0) : Int) ≤ 200) = Bool.true, True]) := by kernel_rfl
theorem p76_1 (x0 : List ByteArray) : runF tab ext76 false 11 [] 2000 [] tys76 Try.f76.results [false] [.code b76] (entE 0 0 sig76 (x0, ())) (entL sig76 (x0, ())) = some ([Dyn.mk Ty.bool Bool.false], [], [Decidable.decide ((↑(List.length x0) : Int) ≤ 200) = Bool.false]) := by kernel_rfl
theorem at76 (x0 : List ByteArray) (h : P76 x0) (w0 : World) (O : List Nat) (q : Nat → Value) : AtV Try.prog 76 (PostR [⟨Ty.bool, g76_0 x0⟩] [] [] q w0 O) 11 w0 O q [] [.code b76] (entE 0 0 sig76 (x0, ())) (entL sig76 (x0, ())) := by
  unfold P76 at h
  unfold g76_0
  by_cases b0 : (Decidable.decide ((↑(List.length x0) : Int) ≤ 200)) = true
  · try simp only [if_pos b0] at h ⊢
    exact AtV.fin Try.func76 tabOk ext76Ok mixed (p76_0 x0) ⟨b0, trivial, trivial⟩
  · try simp only [if_neg b0] at h ⊢
    replace b0 := Bool.eq_false_iff.2 b0
    exact AtV.fin Try.func76 tabOk ext76Ok mixed (p76_1 x0) ⟨b0, trivial⟩

def S76 : Am.Spec := { sig := sig76, pre := fun ⟨x0, _⟩ => P76 x0, res := fun ⟨x0, _⟩ => [⟨Ty.bool, g76_0 x0⟩] }
theorem con76 : Contract Try.prog 76 S76 := contract_of Try.func76 hb76 (Nat.le_of_ble_eq_true (by kernel_rfl)) (fun ⟨x0, _⟩ h _ w0 O q => at76 x0 h w0 O q)


end Go.Proofs.Ytjkeinpcphkfbaa

/- Function 92 (impl.orFull): its runs between cut points. Written by a program of this repo (gen). -/
set_option linter.unusedVariables false
set_option linter.unusedSimpArgs false
set_option maxRecDepth 100000
namespace Go.Proofs.Ytjkeinpcphkfbaa
open Go Go.Am Go.Proofs
def ext92 : Ext := [(76, S76)]
theorem call92_76 : Callable Try.prog 76 := ⟨Try.f76, Try.func76, by kernel_rfl, by kernel_rfl⟩
theorem ext92Ok : ExtOk Try.prog ext92 := ⟨⟨call92_76, con76⟩, trivial⟩
/-! Function 92. -/
noncomputable def b92 : Code := bodyOf Try.f92
theorem hb92 : Try.f92.body = some b92 := by kernel_rfl
def sig92 : List AT := [AT.own Ty.str]
def tys92 : List Ty := [Ty.sl Ty.str, Ty.int IntKind.i64]
def P92 (x0 : List ByteArray) : Prop := True
def g92_0 (x0 : List ByteArray) : List ByteArray := (if (!g76_0 x0) = true then [] else x0)
def g92_1 (x0 : List ByteArray) : Int := (if (!g76_0 x0) = true then 5 else 0)
theorem p92_0 (x0 : List ByteArray) : runF tab ext92 false 8 [] 2000 [0] tys92 Try.f92.results [true] [.code b92] (entE 0 0 sig92 (x0, ())) (entL sig92 (x0, ())) = some ([Dyn.mk (Ty.sl Ty.str) [], Dyn.mk (Ty.int IntKind.i64) 5], [Option.some (Lst.mk Ty.str x0)], [True, (!g76_0 x0) = Bool.true]) := by kernel_rfl
theorem p92_1 (x0 : List ByteArray) : runF tab ext92 false 8 [] 2000 [0] tys92 Try.f92.results [false] [.code b92] (entE 0 0 sig92 (x0, ())) (entL sig92 (x0, ())) = some ([Dyn.mk (Ty.sl Ty.str) x0, Dyn.mk (Ty.int IntKind.i64) 0], [Option.none], [True, (!g76_0 x0) = Bool.false]) := by kernel_rfl
theorem at92 (x0 : List ByteArray) (h : P92 x0) (w0 : World) (O : List Nat) (q : Nat → Value) : AtV Try.prog 92 (PostR [⟨Ty.sl Ty.str, g92_0 x0⟩, ⟨Ty.int IntKind.i64, g92_1 x0⟩] [none] [0] q w0 O) 8 w0 O q [0] [.code b92] (entE 0 0 sig92 (x0, ())) (entL sig92 (x0, ())) := by
  unfold P92 at h
  unfold g92_0 g92_1
  by_cases b0 : (!g76_0 x0) = true
  · try simp only [if_pos b0] at h ⊢
    exact AtV.forget (AtV.fin Try.func92 tabOk ext92Ok mixed (p92_0 x0) ⟨trivial, b0, trivial⟩)
  · try simp only [if_neg b0] at h ⊢
    replace b0 := Bool.eq_false_iff.2 b0
    exact AtV.forget (AtV.fin Try.func92 tabOk ext92Ok mixed (p92_1 x0) ⟨trivial, b0, trivial⟩)

def S92 : Am.Spec := { sig := sig92, pre := fun ⟨x0, _⟩ => P92 x0, upd := fun _ => [none], res := fun ⟨x0, _⟩ => [⟨Ty.sl Ty.str, g92_0 x0⟩, ⟨Ty.int IntKind.i64, g92_1 x0⟩] }
theorem con92 : Contract Try.prog 92 S92 := contract_of Try.func92 hb92 (Nat.le_of_ble_eq_true (by kernel_rfl)) (fun ⟨x0, _⟩ h _ w0 O q => at92 x0 h w0 O q)


end Go.Proofs.Ytjkeinpcphkfbaa

/- Function 90 (impl.BarLines$1): its runs between cut points. Written by a program of this repo (gen). -/
set_option linter.unusedVariables false
set_option linter.unusedSimpArgs false
set_option maxRecDepth 100000
namespace Go.Proofs.Ytjkeinpcphkfbaa
open Go Go.Am Go.Proofs
def ext90 : Ext := [(77, S77)]
theorem call90_77 : Callable Try.prog 77 := ⟨Try.f77, Try.func77, by kernel_rfl, by kernel_rfl⟩
theorem ext90Ok : ExtOk Try.prog ext90 := ⟨⟨call90_77, con77⟩, trivial⟩
/-! Function 90. -/
noncomputable def b90 : Code := bodyOf Try.f90
theorem hb90 : Try.f90.body = some b90 := by kernel_rfl
def sig90 : List AT := [AT.v (Ty.int IntKind.i64)]
def tys90 : List Ty := [Ty.bool]
def P90 (x0 : Int) : Prop := True
def g90_0 (x0 : Int) : Bool := !g77_0 x0 0 1000000000000
theorem p90_0 (x0 : Int) : runF tab ext90 false 6 [] 2000 [] tys90 Try.f90.results [] [.code b90] (entE 0 0 sig90 (x0, ())) (entL sig90 (x0, ())) = some ([Dyn.mk Ty.bool !g77_0 x0 0 1000000000000], [], [True]) := by kernel_rfl
theorem at90 (x0 : Int) (h : P90 x0) (w0 : World) (O : List Nat) (q : Nat → Value) : AtV Try.prog 90 (PostR [⟨Ty.bool, g90_0 x0⟩] [] [] q w0 O) 6 w0 O q [] [.code b90] (entE 0 0 sig90 (x0, ())) (entL sig90 (x0, ())) := by
  unfold P90 at h
  unfold g90_0
  exact AtV.fin Try.func90 tabOk ext90Ok mixed (p90_0 x0) ⟨trivial, trivial⟩

def S90 : Am.Spec := { sig := sig90, pre := fun ⟨x0, _⟩ => P90 x0, res := fun ⟨x0, _⟩ => [⟨Ty.bool, g90_0 x0⟩] }
theorem con90 : Contract Try.prog 90 S90 := contract_of Try.func90 hb90 (Nat.le_of_ble_eq_true (by kernel_rfl)) (fun ⟨x0, _⟩ h _ w0 O q => at90 x0 h w0 O q)


end Go.Proofs.Ytjkeinpcphkfbaa

/- Function 119 (slices.IndexFunc[[]int64,int64]): its runs between cut points. Written by a program of this repo (gen). -/
set_option linter.unusedVariables false
set_option linter.unusedSimpArgs false
set_option maxRecDepth 100000
namespace Go.Proofs.Ytjkeinpcphkfbaa
open Go Go.Am Go.Proofs
def ext119c90 : Ext := [(90, S90)]
theorem call119c90_90 : Callable Try.prog 90 := ⟨Try.f90, Try.func90, by kernel_rfl, by kernel_rfl⟩
theorem ext119c90Ok : ExtOk Try.prog ext119c90 := ⟨⟨call119c90_90, con90⟩, trivial⟩
/-! Function 119c90. -/
noncomputable def b119c90 : Code := bodyOf Try.f119
theorem hb119c90 : Try.f119.body = some b119c90 := by kernel_rfl
def sig119c90 : List AT := [AT.v (Ty.sl (Ty.int IntKind.i64)), AT.fn 90 []]
def tys119c90 : List Ty := [Ty.int IntKind.i64]
def E119c90_2 (v8 : Int) (x0 : List Int) : Env := [(0, PV.a (Atom.sl (Ty.int IntKind.i64) x0)), (1, PV.fn 90 []), (7, PV.a (Atom.val (Value.int IntKind.i64 (↑(List.length x0) : Int)))), (8, PV.a (Atom.val (Value.int IntKind.i64 v8)))]
def L119c90_2 (v8 : Int) (x0 : List Int) : Heap := []
mutual
def R119c90 : Nat → List Int → List Dyn → Prop
  | 0, _, _ => False
  | n + 1, x0, ds => (R119c90_2 n (0) (x0) ds)
def R119c90_2 : Nat → Int → List Int → List Dyn → Prop
  | 0, _, _, _ => False
  | n + 1, v8, x0, ds => (if (Decidable.decide (v8 < (↑(List.length x0) : Int))) = true then ((0 ≤ v8) ∧ (v8 < (↑(List.length x0) : Int)) ∧ (if (g90_0 (List.getD x0 (Int.toNat v8) 0)) = true then (ds = [Dyn.mk (Ty.int IntKind.i64) v8]) else ((InR IntKind.i64 (v8 + 1)) ∧ (R119c90_2 n (v8 + 1) (x0) ds)))) else (ds = [Dyn.mk (Ty.int IntKind.i64) (-1)]))
end
theorem p119c90_0 (x0 : List Int) : Am.runN tab ext119c90 false 19 [] 2000 [] [] [0, 1, 7, 8] [] [] [.code b119c90] (entE 0 0 sig119c90 (x0, (), ())) (entL sig119c90 (x0, (), ())) = some (cutAt b119c90 2, E119c90_2 (0) (x0), L119c90_2 (0) (x0), []) := by kernel_rfl
theorem p119c90_1 (v8 : Int) (x0 : List Int) : runF tab ext119c90 false 19 [] 2000 [] tys119c90 Try.f119.results [true, true] (cutAt b119c90 2) (E119c90_2 v8 x0) (L119c90_2 v8 x0) = some ([Dyn.mk (Ty.int IntKind.i64) v8], [], [Decidable.decide (v8 < (↑(List.length x0) : Int)) = Bool.true, 0 ≤ v8, v8 < (↑(List.length x0) : Int), True, g90_0 (List.getD x0 (Int.toNat v8) 0) = Bool.true]) := by kernel_rfl
theorem p119c90_2 (v8 : Int) (x0 : List Int) : Am.runN tab ext119c90 false 19 [] 2000 [] [] [0, 1, 7, 8] [] [true, false] (cutAt b119c90 2) (E119c90_2 v8 x0) (L119c90_2 v8 x0) = some (cutAt b119c90 2, E119c90_2 (v8 + 1) (x0), L119c90_2 (v8 + 1) (x0), [Decidable.decide (v8 < (↑(List.length x0) : Int)) = Bool.true, 0 ≤ v8, v8 < (↑(List.length x0) : Int), True, g90_0 (List.getD x0 (Int.toNat v8) 0) = Bool.false, InR IntKind.i64 (v8 + 1)]) := by kernel_rfl
theorem p119c90_3 (v8 : Int) (x0 : List Int) : runF tab ext119c90 false 19 [] 2000 [] tys119c90 Try.f119.results [false] (cutAt b119c90 2) (E119c90_2 v8 x0) (L119c90_2 v8 x0) = some ([Dyn.mk (Ty.int IntKind.i64) (-1)], [], [Decidable.decide (v8 < (↑(List.length x0) : Int)) = Bool.false]) := by kernel_rfl
theorem snd119c90 : ∀ n, (∀ (x0 : List Int) ds, R119c90 n x0 ds → ∀ w0 O q, AtV Try.prog 119 (PostR ds [] [] q w0 O) 19 w0 O q [] [.code b119c90] (entE 0 0 sig119c90 (x0, (), ())) (entL sig119c90 (x0, (), ()))) ∧ (∀ (v8 : Int) (x0 : List Int) ds, R119c90_2 n v8 x0 ds → ∀ w0 O q, AtV Try.prog 119 (PostR ds [] [] q w0 O) 19 w0 O q [] (cutAt b119c90 2) (E119c90_2 v8 x0) (L119c90_2 v8 x0)) := by
  intro n
  induction n with
  | zero => exact ⟨fun _ _ h => by simp only [R119c90] at h, fun _ _ _ h => by simp only [R119c90_2] at h⟩
  | succ n ih =>
  obtain ⟨ih, ih2⟩ := ih
  refine ⟨?_, ?_⟩
  · intro x0 ds h w0 O q
    rw [R119c90] at h
    exact AtV.runN tabOk ext119c90Ok mixed (p119c90_0 x0) trivial (ih2 _ _ _ h w0 O q)

  · intro v8 x0 ds h w0 O q
    rw [R119c90_2] at h
    by_cases b0 : (Decidable.decide (v8 < (↑(List.length x0) : Int))) = true
    · rw [if_pos b0] at h
      obtain ⟨s0, s1, h⟩ := h
      by_cases b1 : (g90_0 (List.getD x0 (Int.toNat v8) 0)) = true
      · rw [if_pos b1] at h
        subst h
        exact AtV.fin Try.func119 tabOk ext119c90Ok mixed (p119c90_1 v8 x0) ⟨b0, s0, s1, trivial, b1, trivial⟩
      · rw [if_neg b1] at h
        replace b1 := Bool.eq_false_iff.2 b1
        obtain ⟨s2, h⟩ := h
        exact AtV.runN tabOk ext119c90Ok mixed (p119c90_2 v8 x0) ⟨b0, s0, s1, trivial, b1, s2, trivial⟩ (ih2 _ _ _ h w0 O q)
    · rw [if_neg b0] at h
      replace b0 := Bool.eq_false_iff.2 b0
      subst h
      exact AtV.fin Try.func119 tabOk ext119c90Ok mixed (p119c90_3 v8 x0) ⟨b0, trivial⟩



def g119c90_0 (x0 : List (Int)) : Int := idx (x0.findIdx? g90_0)
def P119c90 (x0 : List (Int)) : Prop := True

theorem top119c90 (x0 : List (Int)) (hm : x0.length ≤ maxLen) : R119c90 (x0.length + 1 + 1) x0 [⟨.int .i64, g119c90_0 x0⟩] := by
  rw [R119c90]
  have key := loop_find x0 (0 : Int) g90_0 [(⟨.int .i64, -1⟩ : Dyn)] (fun k => [⟨.int .i64, k⟩]) (fun n i ds => R119c90_2 n i x0 ds) (fun n => ?_) (fun n i hi hok ds hr => ?_) (fun n i hi hok => ?_)
  · unfold g119c90_0
    cases h : x0.findIdx? g90_0 <;> rw [h] at key <;> exact key
  · rw [R119c90_2, if_neg (by simp)]
  · rw [R119c90_2, if_pos (by simp; omega)]
    simp only [Int.toNat_natCast]
    refine ⟨by omega, by omega, ?_⟩
    rw [if_neg (by rw [hok]; simp)]
    exact ⟨inR_up hm hi, hr⟩
  · rw [R119c90_2, if_pos (by simp; omega)]
    simp only [Int.toNat_natCast]
    refine ⟨by omega, by omega, ?_⟩
    rw [if_pos hok] <;> trivial

def S119c90 : Am.Spec := { sig := sig119c90, pre := fun ⟨x0, _⟩ => P119c90 x0, res := fun ⟨x0, _⟩ => [⟨Ty.int .i64, g119c90_0 x0⟩] }
theorem con119c90 : Contract Try.prog 119 S119c90 := contract_of Try.func119 hb119c90 (Nat.le_of_ble_eq_true (by kernel_rfl)) (fun ⟨x0, _⟩ h hwf w0 O q =>
  (snd119c90 _).1 x0 _ (top119c90 x0 hwf.1.1) w0 O q)

theorem any119c90 (x0 : List (Int)) : decide (g119c90_0 x0 ≥ 0) = x0.any g90_0 := by
  have := findIdx_any g90_0 x0
  unfold g119c90_0
  cases h : x0.any g90_0 with
  | true => rw [h] at this; simpa using this
  | false => rw [h] at this; simpa using this

end Go.Proofs.Ytjkeinpcphkfbaa

/- Function 89 (slices.ContainsFunc[[]int64,int64]): its runs between cut points. Written by a program of this repo (gen). -/
set_option linter.unusedVariables false
set_option linter.unusedSimpArgs false
set_option maxRecDepth 100000
namespace Go.Proofs.Ytjkeinpcphkfbaa
open Go Go.Am Go.Proofs
def ext89c90 : Ext := [(119, S119c90), (90, S90)]
theorem call89c90_119 : Callable Try.prog 119 := ⟨Try.f119, Try.func119, by kernel_rfl, by kernel_rfl⟩
theorem call89c90_90 : Callable Try.prog 90 := ⟨Try.f90, Try.func90, by kernel_rfl, by kernel_rfl⟩
theorem ext89c90Ok : ExtOk Try.prog ext89c90 := ⟨⟨call89c90_119, con119c90⟩, ⟨call89c90_90, con90⟩, trivial⟩
/-! Function 89c90. -/
noncomputable def b89c90 : Code := bodyOf Try.f89
theorem hb89c90 : Try.f89.body = some b89c90 := by kernel_rfl
def sig89c90 : List AT := [AT.v (Ty.sl (Ty.int IntKind.i64)), AT.fn 90 []]
def tys89c90 : List Ty := [Ty.bool]
def P89c90 (x0 : List Int) : Prop := True
def g89c90_0 (x0 : List Int) : Bool := Decidable.decide (g119c90_0 x0 ≥ 0)
theorem p89c90_0 (x0 : List Int) : runF tab ext89c90 false 9 [] 2000 [] tys89c90 Try.f89.results [] [.code b89c90] (entE 0 0 sig89c90 (x0, (), ())) (entL sig89c90 (x0, (), ())) = some ([Dyn.mk Ty.bool (Decidable.decide (g119c90_0 x0 ≥ 0))], [], [True]) := by kernel_rfl
theorem at89c90 (x0 : List Int) (h : P89c90 x0) (w0 : World) (O : List Nat) (q : Nat → Value) : AtV Try.prog 89 (PostR [⟨Ty.bool, g89c90_0 x0⟩] [] [] q w0 O) 9 w0 O q [] [.code b89c90] (entE 0 0 sig89c90 (x0, (), ())) (entL sig89c90 (x0, (), ())) := by
  unfold P89c90 at h
  unfold g89c90_0
  exact AtV.fin Try.func89 tabOk ext89c90Ok mixed (p89c90_0 x0) ⟨trivial, trivial⟩

def S89c90 : Am.Spec := { sig := sig89c90, pre := fun ⟨x0, _⟩ => P89c90 x0, res := fun ⟨x0, _⟩ => [⟨Ty.bool, g89c90_0 x0⟩] }
theorem con89c90 : Contract Try.prog 89 S89c90 := contract_of Try.func89 hb89c90 (Nat.le_of_ble_eq_true (by kernel_rfl)) (fun ⟨x0, _⟩ h _ w0 O q => at89c90 x0 h w0 O q)


end Go.Proofs.Ytjkeinpcphkfbaa

/- Function 41 (impl.BarLines): its runs between cut points. Written by a program of this repo (gen). -/
set_option linter.unusedVariables false
set_option linter.unusedSimpArgs false
set_option maxRecDepth 100000
namespace Go.Proofs.Ytjkeinpcphkfbaa
open Go Go.Am Go.Proofs
def ext41 : Ext := [(77, S77), (91, S91), (92, S92), (89, S89c90)]
theorem call41_77 : Callable Try.prog 77 := ⟨Try.f77, Try.func77, by kernel_rfl, by kernel_rfl⟩
theorem call41_91 : Callable Try.prog 91 := ⟨Try.f91, Try.func91, by kernel_rfl, by kernel_rfl⟩
theorem call41_92 : Callable Try.prog 92 := ⟨Try.f92, Try.func92, by kernel_rfl, by kernel_rfl⟩
theorem call41_89 : Callable Try.prog 89 := ⟨Try.f89, Try.func89, by kernel_rfl, by kernel_rfl⟩
theorem ext41Ok : ExtOk Try.prog ext41 := ⟨⟨call41_77, con77⟩, ⟨call41_91, con91⟩, ⟨call41_92, con92⟩, ⟨call41_89, con89c90⟩, trivial⟩
/-! Function 41. -/
noncomputable def b41 : Code := bodyOf Try.f41
theorem hb41 : Try.f41.body = some b41 := by kernel_rfl
def sig41 : List AT := [AT.v (Ty.sl (Ty.int IntKind.i64)), AT.v (Ty.int IntKind.i64)]
def tys41 : List Ty := [Ty.sl Ty.str, Ty.int IntKind.i64]
def E41_5 (v6 : Int) (v22 : Int) (x0 : List Int) (x1 : Int) : Env := [(0, PV.a (Atom.sl (Ty.int IntKind.i64) x0)), (1, PV.a (Atom.val (Value.int IntKind.i64 x1))), (6, PV.a (Atom.val (Value.int IntKind.i64 v6))), (20, PV.a (Atom.sl (Ty.int IntKind.i64) x0)), (21, PV.a (Atom.val (Value.int IntKind.i64 (↑(List.length x0) : Int)))), (22, PV.a (Atom.val (Value.int IntKind.i64 v22)))]
def L41_5 (v6 : Int) (v22 : Int) (x0 : List Int) (x1 : Int) : Heap := []
def E41_11 (v32 : Int) (h0 : List ByteArray) (x1 : Int) (v6 : Int) (x0 : List Int) : Env := [(1, PV.a (Atom.val (Value.int IntKind.i64 x1))), (6, PV.a (Atom.val (Value.int IntKind.i64 v6))), (9, PV.a (Atom.osl 0 Option.none)), (30, PV.a (Atom.sl (Ty.int IntKind.i64) x0)), (31, PV.a (Atom.val (Value.int IntKind.i64 (↑(List.length x0) : Int)))), (32, PV.a (Atom.val (Value.int IntKind.i64 v32)))]
def L41_11 (v32 : Int) (h0 : List ByteArray) (x1 : Int) (v6 : Int) (x0 : List Int) : Heap := [Option.some (Arr.mk Ty.str h0 Bool.false)]
mutual
def R41 : Nat → List Int → Int → List Dyn → Prop
  | 0, _, _, _ => False
  | n + 1, x0, x1, ds => (if (g89c90_0 x0) = true then (ds = [Dyn.mk (Ty.sl Ty.str) [], Dyn.mk (Ty.int IntKind.i64) 2]) else (if (!g77_0 x1 1 100) = true then (ds = [Dyn.mk (Ty.sl Ty.str) [], Dyn.mk (Ty.int IntKind.i64) 2]) else (R41_5 n (0) (0) (x0) (x1) ds)))
def R41_5 : Nat → Int → Int → List Int → Int → List Dyn → Prop
  | 0, _, _, _, _, _ => False
  | n + 1, v6, v22, x0, x1, ds => (if (Decidable.decide (v22 < (↑(List.length x0) : Int))) = true then ((0 ≤ v22) ∧ (v22 < (↑(List.length x0) : Int)) ∧ ((InR IntKind.i64 (v22 + 1)) ∧ (R41_5 n (if v6 < List.getD x0 (Int.toNat v22) 0 then List.getD x0 (Int.toNat v22) 0 else v6) (v22 + 1) (x0) (x1) ds))) else (R41_11 n (0) ([]) (x1) (v6) (x0) ds))
def R41_11 : Nat → Int → List ByteArray → Int → Int → List Int → List Dyn → Prop
  | 0, _, _, _, _, _, _ => False
  | n + 1, v32, h0, x1, v6, x0, ds => (if (Decidable.decide (v32 < (↑(List.length x0) : Int))) = true then ((0 ≤ v32) ∧ (v32 < (↑(List.length x0) : Int)) ∧ (if (Decidable.decide (v6 > 0)) = true then ((InR IntKind.i64 (List.getD x0 (Int.toNat v32) 0 * x1)) ∧ ((v6 ≠ 0) ∧ (InR IntKind.i64 (Int.tdiv (List.getD x0 (Int.toNat v32) 0 * x1) v6)) ∧ ((P91 (ByteArray.mk #[35]) (Int.tdiv (List.getD x0 (Int.toNat v32) 0 * x1) v6)) ∧ (((List.length h0 + 1) * 16 ≤ 140737488355328) ∧ ((InR IntKind.i64 (v32 + 1)) ∧ (R41_11 n (v32 + 1) (h0 ++ [g91_0 (ByteArray.mk #[35]) (Int.tdiv (List.getD x0 (Int.toNat v32) 0 * x1) v6)]) (x1) (v6) (x0) ds)))))) else ((P91 (ByteArray.mk #[35]) 0) ∧ (((List.length h0 + 1) * 16 ≤ 140737488355328) ∧ ((InR IntKind.i64 (v32 + 1)) ∧ (R41_11 n (v32 + 1) (h0 ++ [g91_0 (ByteArray.mk #[35]) 0]) (x1) (v6) (x0) ds)))))) else (ds = [Dyn.mk (Ty.sl Ty.str) (g92_0 h0), Dyn.mk (Ty.int IntKind.i64) (g92_1 h0)]))
end
theorem p41_0 (x0 : List Int) (x1 : Int) : runF tab ext41 false 53 [] 2000 [] tys41 Try.f41.results [true, true] [.code b41] (entE 0 0 sig41 (x0, x1, ())) (entL sig41 (x0, x1, ())) = some ([Dyn.mk (Ty.sl Ty.str) [], Dyn.mk (Ty.int IntKind.i64) 2], [], [True, g89c90_0 x0 = Bool.true, Bool.true = Bool.true]) := by kernel_rfl
theorem p41_1 (x0 : List Int) (x1 : Int) : runF tab ext41 false 53 [] 2000 [] tys41 Try.f41.results [false, true] [.code b41] (entE 0 0 sig41 (x0, x1, ())) (entL sig41 (x0, x1, ())) = some ([Dyn.mk (Ty.sl Ty.str) [], Dyn.mk (Ty.int IntKind.i64) 2], [], [True, g89c90_0 x0 = Bool.false, True, (!g77_0 x1 1 100) = Bool.true]) := by kernel_rfl
theorem p41_2 (x0 : List Int) (x1 : Int) : Am.runN tab ext41 false 53 [] 2000 [] [] [0, 1, 6, 20, 21, 22] [] [false, false] [.code b41] (entE 0 0 sig41 (x0, x1, ())) (entL sig41 (x0, x1, ())) = some (cutAt b41 5, E41_5 (0) (0) (x0) (x1), L41_5 (0) (0) (x0) (x1), [True, g89c90_0 x0 = Bool.false, True, (!g77_0 x1 1 100) = Bool.false]) := by kernel_rfl
theorem p41_3 (v6 : Int) (v22 : Int) (x0 : List Int) (x1 : Int) : Am.runN tab ext41 false 53 [] 2000 [] [] [0, 1, 6, 20, 21, 22] [] [true] (cutAt b41 5) (E41_5 v6 v22 x0 x1) (L41_5 v6 v22 x0 x1) = some (cutAt b41 5, E41_5 (if v6 < List.getD x0 (Int.toNat v22) 0 then List.getD x0 (Int.toNat v22) 0 else v6) (v22 + 1) (x0) (x1), L41_5 (if v6 < List.getD x0 (Int.toNat v22) 0 then List.getD x0 (Int.toNat v22) 0 else v6) (v22 + 1) (x0) (x1), [Decidable.decide (v22 < (↑(List.length x0) : Int)) = Bool.true, 0 ≤ v22, v22 < (↑(List.length x0) : Int), InR IntKind.i64 (v22 + 1)]) := by kernel_rfl
theorem p41_4 (v6 : Int) (v22 : Int) (x0 : List Int) (x1 : Int) : Am.runN tab ext41 false 53 [] 2000 [] [(9, Ty.str)] [1, 6, 9, 30, 31, 32] [true] [false] (cutAt b41 5) (E41_5 v6 v22 x0 x1) (L41_5 v6 v22 x0 x1) = some (cutAt b41 11, E41_11 (0) ([]) (x1) (v6) (x0), L41_11 (0) ([]) (x1) (v6) (x0), [Decidable.decide (v22 < (↑(List.length x0) : Int)) = Bool.false]) := by kernel_rfl
theorem p41_5 (v32 : Int) (h0 : List ByteArray) (x1 : Int) (v6 : Int) (x0 : List Int) : Am.runN tab ext41 false 53 [] 2000 [] [(9, Ty.str)] [1, 6, 9, 30, 31, 32] [true] [true, true] (cutAt b41 11) (E41_11 v32 h0 x1 v6 x0) (L41_11 v32 h0 x1 v6 x0) = some (cutAt b41 11, E41_11 (v32 + 1) (h0 ++ [g91_0 (ByteArray.mk #[35]) (Int.tdiv (List.getD x0 (Int.toNat v32) 0 * x1) v6)]) (x1) (v6) (x0), L41_11 (v32 + 1) (h0 ++ [g91_0 (ByteArray.mk #[35]) (Int.tdiv (List.getD x0 (Int.toNat v32) 0 * x1) v6)]) (x1) (v6) (x0), [Decidable.decide (v32 < (↑(List.length x0) : Int)) = Bool.true, 0 ≤ v32, v32 < (↑(List.length x0) : Int), Decidable.decide (v6 > 0) = Bool.true, InR IntKind.i64 (List.getD x0 (Int.toNat v32) 0 * x1), v6 ≠ 0, InR IntKind.i64 (Int.tdiv (List.getD x0 (Int.toNat v32) 0 * x1) v6), P91 (ByteArray.mk #[35]) (Int.tdiv (List.getD x0 (Int.toNat v32) 0 * x1) v6), (List.length h0 + 1) * 16 ≤ 140737488355328, InR IntKind.i64 (v32 + 1)]) := by kernel_rfl
theorem p41_6 (v32 : Int) (h0 : List ByteArray) (x1 : Int) (v6 : Int) (x0 : List Int) : Am.runN tab ext41 false 53 [] 2000 [] [(9, Ty.str)] [1, 6, 9, 30, 31, 32] [true] [true, false] (cutAt b41 11) (E41_11 v32 h0 x1 v6 x0) (L41_11 v32 h0 x1 v6 x0) = some (cutAt b41 11, E41_11 (v32 + 1) (h0 ++ [g91_0 (ByteArray.mk #[35]) 0]) (x1) (v6) (x0), L41_11 (v32 + 1) (h0 ++ [g91_0 (ByteArray.mk #[35]) 0]) (x1) (v6) (x0), [Decidable.decide (v32 < (↑(List.length x0) : Int)) = Bool.true, 0 ≤ v32, v32 < (↑(List.length x0) : Int), Decidable.decide (v6 > 0) = Bool.false, P91 (ByteArray.mk #[35]) 0, (List.length h0 + 1) * 16 ≤ 140737488355328, InR IntKind.i64 (v32 + 1)]) := by kernel_rfl
theorem p41_7 (v32 : Int) (h0 : List ByteArray) (x1 : Int) (v6 : Int) (x0 : List Int) : runF tab ext41 false 53 [] 2000 [] tys41 Try.f41.results [false] (cutAt b41 11) (E41_11 v32 h0 x1 v6 x0) (L41_11 v32 h0 x1 v6 x0) = some ([Dyn.mk (Ty.sl Ty.str) (g92_0 h0), Dyn.mk (Ty.int IntKind.i64) (g92_1 h0)], [], [Decidable.decide (v32 < (↑(List.length x0) : Int)) = Bool.false, True]) := by kernel_rfl
theorem snd41 : ∀ n, (∀ (x0 : List Int) (x1 : Int) ds, R41 n x0 x1 ds → ∀ w0 O q, AtV Try.prog 41 (PostR ds [] [] q w0 O) 53 w0 O q [] [.code b41] (entE 0 0 sig41 (x0, x1, ())) (entL sig41 (x0, x1, ()))) ∧ (∀ (v6 : Int) (v22 : Int) (x0 : List Int) (x1 : Int) ds, R41_5 n v6 v22 x0 x1 ds → ∀ w0 O q, AtV Try.prog 41 (PostR ds [] [] q w0 O) 53 w0 O q [] (cutAt b41 5) (E41_5 v6 v22 x0 x1) (L41_5 v6 v22 x0 x1)) ∧ (∀ (v32 : Int) (h0 : List ByteArray) (x1 : Int) (v6 : Int) (x0 : List Int) ds, R41_11 n v32 h0 x1 v6 x0 ds → ∀ w0 O q, AtV Try.prog 41 (PostR ds [] [] q w0 O) 53 w0 O q [] (cutAt b41 11) (E41_11 v32 h0 x1 v6 x0) (L41_11 v32 h0 x1 v6 x0)) := by
  intro n
  induction n with
  | zero => exact ⟨fun _ _ _ h => by simp only [R41] at h, fun _ _ _ _ _ h => by simp only [R41_5] at h, fun _ _ _ _ _ _ h => by simp only [R41_11] at h⟩
  | succ n ih =>
  obtain ⟨ih, ih5, ih11⟩ := ih
  refine ⟨?_, ?_, ?_⟩
  · intro x0 x1 ds h w0 O q
    rw [R41] at h
    by_cases b0 : (g89c90_0 x0) = true
    · rw [if_pos b0] at h
      subst h
      exact AtV.fin Try.func41 tabOk ext41Ok mixed (p41_0 x0 x1) ⟨trivial, b0, rfl, trivial⟩
    · rw [if_neg b0] at h
      replace b0 := Bool.eq_false_iff.2 b0
      by_cases b1 : (!g77_0 x1 1 100) = true
      · rw [if_pos b1] at h
        subst h
        exact AtV.fin Try.func41 tabOk ext41Ok mixed (p41_1 x0 x1) ⟨trivial, b0, trivial, b1, trivial⟩
      · rw [if_neg b1] at h
        replace b1 := Bool.eq_false_iff.2 b1
        exact AtV.runN tabOk ext41Ok mixed (p41_2 x0 x1) ⟨trivial, b0, trivial, b1, trivial⟩ (ih5 _ _ _ _ _ h w0 O q)

  · intro v6 v22 x0 x1 ds h w0 O q
    rw [R41_5] at h
    by_cases b0 : (Decidable.decide (v22 < (↑(List.length x0) : Int))) = true
    · rw [if_pos b0] at h
      obtain ⟨s0, s1, h⟩ := h
      obtain ⟨s2, h⟩ := h
      exact AtV.runN tabOk ext41Ok mixed (p41_3 v6 v22 x0 x1) ⟨b0, s0, s1, s2, trivial⟩ (ih5 _ _ _ _ _ h w0 O q)
    · rw [if_neg b0] at h
      replace b0 := Bool.eq_false_iff.2 b0
      exact AtV.runN tabOk ext41Ok mixed (p41_4 v6 v22 x0 x1) ⟨b0, trivial⟩ (ih11 _ _ _ _ _ _ h w0 O q)

  · intro v32 h0 x1 v6 x0 ds h w0 O q
    rw [R41_11] at h
    by_cases b0 : (Decidable.decide (v32 < (↑(List.length x0) : Int))) = true
    · rw [if_pos b0] at h
      obtain ⟨s0, s1, h⟩ := h
      by_cases b1 : (Decidable.decide (v6 > 0)) = true
      · rw [if_pos b1] at h
        obtain ⟨s2, h⟩ := h
        obtain ⟨s3, s4, h⟩ := h
        obtain ⟨s5, h⟩ := h
        obtain ⟨s6, h⟩ := h
        obtain ⟨s7, h⟩ := h
        exact AtV.runN tabOk ext41Ok mixed (p41_5 v32 h0 x1 v6 x0) ⟨b0, s0, s1, b1, s2, s3, s4, s5, s6, s7, trivial⟩ (ih11 _ _ _ _ _ _ h w0 O q)
      · rw [if_neg b1] at h
        replace b1 := Bool.eq_false_iff.2 b1
        obtain ⟨s2, h⟩ := h
        obtain ⟨s3, h⟩ := h
        obtain ⟨s4, h⟩ := h
        exact AtV.runN tabOk ext41Ok mixed (p41_6 v32 h0 x1 v6 x0) ⟨b0, s0, s1, b1, s2, s3, s4, trivial⟩ (ih11 _ _ _ _ _ _ h w0 O q)
    · rw [if_neg b0] at h
      replace b0 := Bool.eq_false_iff.2 b0
      subst h
      exact AtV.fin Try.func41 tabOk ext41Ok mixed (p41_7 v32 h0 x1 v6 x0) ⟨b0, trivial, trivial⟩



def most41 (x0 : List Int) : Int := x0.foldl (fun b v => if b < v then v else b) 0
def len41 (m w v : Int) : Nat := if m > 0 then (Int.tdiv (v * w) m).toNat else 0
def bars41 (x0 : List Int) (x1 : Int) : List ByteArray := x0.map fun v => repB 35 (len41 (most41 x0) x1 v)
def bad41 (x0 : List Int) (x1 : Int) : Bool := x0.any g90_0 || !g77_0 x1 1 100
def g41_0 (x0 : List Int) (x1 : Int) : List ByteArray := if bad41 x0 x1 = true then [] else g92_0 (bars41 x0 x1)
def g41_1 (x0 : List Int) (x1 : Int) : Int := if bad41 x0 x1 = true then 2 else g92_1 (bars41 x0 x1)
def P41 (x0 : List Int) (x1 : Int) : Prop := x0.length ≤ 1048576

theorem in41 (v a b : Int) : g77_0 v a b = true ↔ a ≤ v ∧ v ≤ b := by
  unfold g77_0
  by_cases h : v ≥ a <;> simp [h] <;> omega

theorem bars41_run (x0 : List Int) (x1 m : Int) (hl : x0.length ≤ 1048576) (hv : ∀ v ∈ x0, 0 ≤ v ∧ v ≤ 1000000000000) (hw : 1 ≤ x1 ∧ x1 ≤ 100) (hm : 0 ≤ m) :
    ∃ n, R41_11 n 0 [] x1 m x0 [⟨.sl .str, g92_0 (x0.map fun v => repB 35 (len41 m x1 v))⟩, ⟨.int .i64, g92_1 (x0.map fun v => repB 35 (len41 m x1 v))⟩] := by
  have hmax : x0.length ≤ maxLen := by unfold maxLen; omega
  have key := loop_exFold (b := ([] : List ByteArray)) x0 0 (fun h v => h ++ [repB 35 (len41 m x1 v)]) (fun h => [(⟨.sl .str, g92_0 h⟩ : Dyn), ⟨.int .i64, g92_1 h⟩]) (fun i h => h.length ≤ i) (fun i h ds => ∃ n, R41_11 n i h x1 m x0 ds) (by simp) (fun h _ => ?_) (fun i h hi hh => ?_)
  · rw [foldl_snoc] at key
    simpa using key
  · refine ⟨1, ?_⟩
    rw [R41_11, if_neg (by simp)]
  · refine ⟨len_up hh, fun ds ⟨n, hr⟩ => ⟨n + 1, ?_⟩⟩
    have hx := hv _ (mem_getD x0 i 0 hi)
    have hu := inR_up hmax hi
    have h16 : (h.length + 1) * 16 ≤ 140737488355328 := by omega
    rw [R41_11, if_pos (by simp; omega)]
    simp only [Int.toNat_natCast]
    refine ⟨by omega, by omega, ?_⟩
    by_cases hpos : m > 0
    · rw [if_pos (by simpa using hpos)]
      have hp0 : 0 ≤ x0.getD i 0 * x1 := Int.mul_nonneg hx.1 (by omega)
      have hp1 : x0.getD i 0 * x1 ≤ 1000000000000 * 100 := Int.mul_le_mul hx.2 hw.2 (by omega) (by omega)
      have hq0 : 0 ≤ Int.tdiv (x0.getD i 0 * x1) m := Int.tdiv_nonneg hp0 hm
      have hq1 : Int.tdiv (x0.getD i 0 * x1) m ≤ x0.getD i 0 * x1 := Int.tdiv_le_self _ hp0
      have e : repB 35 (len41 m x1 (x0.getD i 0)) = g91_0 (ByteArray.mk #[35]) (Int.tdiv (x0.getD i 0 * x1) m) := by
        unfold len41
        rw [if_pos hpos]
        rfl
      rw [e] at hr
      refine ⟨by rw [i64_iff]; omega, by omega, by rw [i64_iff]; omega, ⟨hq0, ?_⟩, h16, hu, hr⟩
      show ((1 : Nat) : Int) * _ ≤ _
      omega
    · rw [if_neg (by simpa using hpos)]
      have e : repB 35 (len41 m x1 (x0.getD i 0)) = g91_0 (ByteArray.mk #[35]) 0 := by
        unfold len41
        rw [if_neg hpos]
        rfl
      rw [e] at hr
      exact ⟨⟨Int.le_refl _, by decide⟩, h16, hu, hr⟩

theorem top41 (x0 : List Int) (x1 : Int) (hp : P41 x0 x1) : ∃ n, R41 n x0 x1 [⟨.sl .str, g41_0 x0 x1⟩, ⟨.int .i64, g41_1 x0 x1⟩] := by
  have hl : x0.length ≤ 1048576 := hp
  have hmax : x0.length ≤ maxLen := by unfold maxLen; omega
  have hc : g89c90_0 x0 = x0.any g90_0 := any119c90 x0
  unfold g41_0 g41_1 bad41
  by_cases h1 : x0.any g90_0 = true
  · refine ⟨1, ?_⟩
    rw [R41, if_pos (by rw [hc]; exact h1)]
    simp [h1]
  · have h1' := Bool.eq_false_iff.2 h1
    by_cases h2 : g77_0 x1 1 100 = true
    · simp only [h1', h2, Bool.not_true, Bool.or_false, Bool.false_eq_true, if_false]
      have hv : ∀ v ∈ x0, 0 ≤ v ∧ v ≤ 1000000000000 := fun v hv => by
        have : g90_0 v = false := by
          rw [Bool.eq_false_iff]
          intro h
          exact h1 (List.any_eq_true.2 ⟨v, hv, h⟩)
        unfold g90_0 at this
        rw [Bool.not_eq_false'] at this
        exact (in41 _ _ _).1 this
      have first := loop_exFold (b := (0 : Int)) x0 0 (fun b v => if b < v then v else b) (fun b => [(⟨.sl .str, g92_0 (x0.map fun v => repB 35 (len41 b x1 v))⟩ : Dyn), ⟨.int .i64, g92_1 (x0.map fun v => repB 35 (len41 b x1 v))⟩])
        (fun i b => 0 ≤ b) (fun i b ds => ∃ n, R41_5 n b i x0 x1 ds) (Int.le_refl _) (fun b hb => ?_) (fun i b hi hb => ?_)
      · obtain ⟨n, hn⟩ := first
        refine ⟨n + 1, ?_⟩
        rw [R41, if_neg (by rw [hc]; exact h1), if_neg (by rw [h2]; simp)]
        exact hn
      · obtain ⟨n, hn⟩ := bars41_run x0 x1 b hl hv ((in41 _ _ _).1 h2) hb
        refine ⟨n + 1, ?_⟩
        rw [R41_5, if_neg (by simp)]
        exact hn
      · refine ⟨by split <;> omega, fun ds ⟨n, hr⟩ => ⟨n + 1, ?_⟩⟩
        rw [R41_5, if_pos (by simp; omega)]
        simp only [Int.toNat_natCast]
        exact ⟨by omega, by omega, inR_up hmax hi, hr⟩
    · refine ⟨1, ?_⟩
      rw [R41, if_neg (by rw [hc]; exact h1), if_pos (by rw [Bool.eq_false_iff.2 h2]; rfl)]
      simp [h1', Bool.eq_false_iff.2 h2]

def S41 : Am.Spec := { sig := sig41, pre := fun ⟨x0, x1, _⟩ => P41 x0 x1, res := fun ⟨x0, x1, _⟩ => [⟨.sl .str, g41_0 x0 x1⟩, ⟨.int .i64, g41_1 x0 x1⟩] }
theorem con41 : Contract Try.prog 41 S41 := contract_of Try.func41 hb41 (Nat.le_of_ble_eq_true (by kernel_rfl)) (fun ⟨x0, x1, _⟩ h hwf w0 O q =>
  let ⟨n, hn⟩ := top41 x0 x1 h
  (snd41 n).1 x0 x1 _ hn w0 O q)

end Go.Proofs.Ytjkeinpcphkfbaa

/- Function 28 (laws.eqStringS): its runs between cut points. Written by a program of this repo (gen). -/
set_option linter.unusedVariables false
set_option linter.unusedSimpArgs false
set_option maxRecDepth 100000
namespace Go.Proofs.Ytjkeinpcphkfbaa
open Go Go.Am Go.Proofs
def ext28 : Ext := []
theorem ext28Ok : ExtOk Try.prog ext28 := trivial
/-! Function 28. -/
noncomputable def b28 : Code := bodyOf Try.f28
theorem hb28 : Try.f28.body = some b28 := by kernel_rfl
def sig28 : List AT := [AT.v (Ty.sl Ty.str), AT.v (Ty.sl Ty.str)]
def tys28 : List Ty := [Ty.bool]
def E28_4 (v5 : Int) (x0 : List ByteArray) (x1 : List ByteArray) : Env := [(0, PV.a (Atom.sl Ty.str x0)), (1, PV.a (Atom.sl Ty.str x1)), (5, PV.a (Atom.val (Value.int IntKind.i64 v5)))]
def L28_4 (v5 : Int) (x0 : List ByteArray) (x1 : List ByteArray) : Heap := []
mutual
def R28 : Nat → List ByteArray → List ByteArray → List Dyn → Prop
  | 0, _, _, _ => False
  | n + 1, x0, x1, ds => (if ((↑(List.length x0) : Int) != (↑(List.length x1) : Int)) = true then (ds = [Dyn.mk Ty.bool Bool.false]) else (R28_4 n (0) (x0) (x1) ds))
def R28_4 : Nat → Int → List ByteArray → List ByteArray → List Dyn → Prop
  | 0, _, _, _, _ => False
  | n + 1, v5, x0, x1, ds => (if (Decidable.decide (v5 < (↑(List.length x0) : Int))) = true then ((0 ≤ v5) ∧ (v5 < (↑(List.length x0) : Int)) ∧ ((0 ≤ v5) ∧ (v5 < (↑(List.length x1) : Int)) ∧ (if (!ByteArray.toList (List.getD x0 (Int.toNat v5) ByteArray.empty) == ByteArray.toList (List.getD x1 (Int.toNat v5) ByteArray.empty)) = true then (ds = [Dyn.mk Ty.bool Bool.false]) else ((InR IntKind.i64 (v5 + 1)) ∧ (R28_4 n (v5 + 1) (x0) (x1) ds))))) else (ds = [Dyn.mk Ty.bool Bool.true]))
end
theorem p28_0 (x0 : List ByteArray) (x1 : List ByteArray) : runF tab ext28 false 26 [] 2000 [] tys28 Try.f28.results [true] [.code b28] (entE 0 0 sig28 (x0, x1, ())) (entL sig28 (x0, x1, ())) = some ([Dyn.mk Ty.bool Bool.false], [], [((↑(List.length x0) : Int) != (↑(List.length x1) : Int)) = Bool.true]) := by kernel_rfl
theorem p28_1 (x0 : List ByteArray) (x1 : List ByteArray) : Am.runN tab ext28 false 26 [] 2000 [] [] [0, 1, 5] [] [false] [.code b28] (entE 0 0 sig28 (x0, x1, ())) (entL sig28 (x0, x1, ())) = some (cutAt b28 4, E28_4 (0) (x0) (x1), L28_4 (0) (x0) (x1), [((↑(List.length x0) : Int) != (↑(List.length x1) : Int)) = Bool.false]) := by kernel_rfl
theorem p28_2 (v5 : Int) (x0 : List ByteArray) (x1 : List ByteArray) : runF tab ext28 false 26 [] 2000 [] tys28 Try.f28.results [true, true] (cutAt b28 4) (E28_4 v5 x0 x1) (L28_4 v5 x0 x1) = some ([Dyn.mk Ty.bool Bool.false], [], [Decidable.decide (v5 < (↑(List.length x0) : Int)) = Bool.true, 0 ≤ v5, v5 < (↑(List.length x0) : Int), 0 ≤ v5, v5 < (↑(List.length x1) : Int), (!ByteArray.toList (List.getD x0 (Int.toNat v5) ByteArray.empty) == ByteArray.toList (List.getD x1 (Int.toNat v5) ByteArray.empty)) = Bool.true]) := by kernel_rfl
theorem p28_3 (v5 : Int) (x0 : List ByteArray) (x1 : List ByteArray) : Am.runN tab ext28 false 26 [] 2000 [] [] [0, 1, 5] [] [true, false] (cutAt b28 4) (E28_4 v5 x0 x1) (L28_4 v5 x0 x1) = some (cutAt b28 4, E28_4 (v5 + 1) (x0) (x1), L28_4 (v5 + 1) (x0) (x1), [Decidable.decide (v5 < (↑(List.length x0) : Int)) = Bool.true, 0 ≤ v5, v5 < (↑(List.length x0) : Int), 0 ≤ v5, v5 < (↑(List.length x1) : Int), (!ByteArray.toList (List.getD x0 (Int.toNat v5) ByteArray.empty) == ByteArray.toList (List.getD x1 (Int.toNat v5) ByteArray.empty)) = Bool.false, InR IntKind.i64 (v5 + 1)]) := by kernel_rfl
theorem p28_4 (v5 : Int) (x0 : List ByteArray) (x1 : List ByteArray) : runF tab ext28 false 26 [] 2000 [] tys28 Try.f28.results [false] (cutAt b28 4) (E28_4 v5 x0 x1) (L28_4 v5 x0 x1) = some ([Dyn.mk Ty.bool Bool.true], [], [Decidable.decide (v5 < (↑(List.length x0) : Int)) = Bool.false]) := by kernel_rfl
theorem snd28 : ∀ n, (∀ (x0 : List ByteArray) (x1 : List ByteArray) ds, R28 n x0 x1 ds → ∀ w0 O q, AtV Try.prog 28 (PostR ds [] [] q w0 O) 26 w0 O q [] [.code b28] (entE 0 0 sig28 (x0, x1, ())) (entL sig28 (x0, x1, ()))) ∧ (∀ (v5 : Int) (x0 : List ByteArray) (x1 : List ByteArray) ds, R28_4 n v5 x0 x1 ds → ∀ w0 O q, AtV Try.prog 28 (PostR ds [] [] q w0 O) 26 w0 O q [] (cutAt b28 4) (E28_4 v5 x0 x1) (L28_4 v5 x0 x1)) := by
  intro n
  induction n with
  | zero => exact ⟨fun _ _ _ h => by simp only [R28] at h, fun _ _ _ _ h => by simp only [R28_4] at h⟩
  | succ n ih =>
  obtain ⟨ih, ih4⟩ := ih
  refine ⟨?_, ?_⟩
  · intro x0 x1 ds h w0 O q
    rw [R28] at h
    by_cases b0 : ((↑(List.length x0) : Int) != (↑(List.length x1) : Int)) = true
    · rw [if_pos b0] at h
      subst h
      exact AtV.fin Try.func28 tabOk ext28Ok mixed (p28_0 x0 x1) ⟨b0, trivial⟩
    · rw [if_neg b0] at h
      replace b0 := Bool.eq_false_iff.2 b0
      exact AtV.runN tabOk ext28Ok mixed (p28_1 x0 x1) ⟨b0, trivial⟩ (ih4 _ _ _ _ h w0 O q)

  · intro v5 x0 x1 ds h w0 O q
    rw [R28_4] at h
    by_cases b0 : (Decidable.decide (v5 < (↑(List.length x0) : Int))) = true
    · rw [if_pos b0] at h
      obtain ⟨s0, s1, h⟩ := h
      obtain ⟨s2, s3, h⟩ := h
      by_cases b1 : (!ByteArray.toList (List.getD x0 (Int.toNat v5) ByteArray.empty) == ByteArray.toList (List.getD x1 (Int.toNat v5) ByteArray.empty)) = true
      · rw [if_pos b1] at h
        subst h
        exact AtV.fin Try.func28 tabOk ext28Ok mixed (p28_2 v5 x0 x1) ⟨b0, s0, s1, s2, s3, b1, trivial⟩
      · rw [if_neg b1] at h
        replace b1 := Bool.eq_false_iff.2 b1
        obtain ⟨s4, h⟩ := h
        exact AtV.runN tabOk ext28Ok mixed (p28_3 v5 x0 x1) ⟨b0, s0, s1, s2, s3, b1, s4, trivial⟩ (ih4 _ _ _ _ h w0 O q)
    · rw [if_neg b0] at h
      replace b0 := Bool.eq_false_iff.2 b0
      subst h
      exact AtV.fin Try.func28 tabOk ext28Ok mixed (p28_4 v5 x0 x1) ⟨b0, trivial⟩



theorem eq28 (x0 x1 : List (ByteArray)) (hl : x0.length = x1.length) (hm : x0.length ≤ maxLen) : ∀ k i : Nat, i + k = x0.length → R28_4 (k + 1) (i : Int) x0 x1 [⟨.bool, decide (x0.drop i = x1.drop i)⟩] := by
  intro k
  induction k with
  | zero =>
    intro i hi
    have h1 : ¬ (i : Int) < (x0.length : Int) := by omega
    rw [R28_4, if_neg (by simpa using h1), drop_end x0 i (by omega), drop_end x1 i (by omega)]
    simp
  | succ k ih =>
    intro i hi
    have h1 : (i : Int) < (x0.length : Int) := by omega
    rw [R28_4, if_pos (by simpa using h1)]
    refine ⟨by omega, h1, by omega, by omega, ?_⟩
    simp only [Int.toNat_natCast]
    rw [drop_get x0 i ByteArray.empty (by omega), drop_get x1 i ByteArray.empty (by omega)]
    by_cases he : x0.getD i ByteArray.empty = x1.getD i ByteArray.empty
    · have hd := (bytes_eq _ _).2 he
      rw [if_neg (by rw [hd]; simp)]
      refine ⟨inR_up hm (by omega), ?_⟩
      have := ih (i + 1) (by omega)
      simp only [he, List.cons.injEq, true_and]
      exact this
    · have hd : (ByteArray.toList (x0.getD i ByteArray.empty) == ByteArray.toList (x1.getD i ByteArray.empty)) = false :=
        (bytes_ne _ _).2 he
      rw [if_pos (by rw [hd]; rfl)]
      simp only [he, List.cons.injEq, false_and, decide_false]

def g28_0 (x0 x1 : List (ByteArray)) : Bool := decide (x0 = x1)
def P28 (x0 x1 : List (ByteArray)) : Prop := True
def S28 : Am.Spec := { sig := sig28, pre := fun ⟨x0, x1, _⟩ => P28 x0 x1, res := fun ⟨x0, x1, _⟩ => [⟨Ty.bool, g28_0 x0 x1⟩] }
theorem con28 : Contract Try.prog 28 S28 := contract_of Try.func28 hb28 (Nat.le_of_ble_eq_true (by kernel_rfl)) (fun ⟨x0, x1, _⟩ h hwf w0 O q => by
  refine (snd28 (x0.length + 2)).1 x0 x1 _ ?_ w0 O q
  show R28 (x0.length + 1 + 1) x0 x1 [⟨Ty.bool, decide (x0 = x1)⟩]
  rw [R28]
  by_cases hl : x0.length = x1.length
  · rw [if_neg (by simp [hl])]
    have := eq28 x0 x1 hl hwf.1.1 x0.length 0 (by omega)
    simpa using this
  · rw [if_pos (by simp; omega)]
    have : x0 ≠ x1 := fun h => hl (by rw [h])
    simp [this])

end Go.Proofs.Ytjkeinpcphkfbaa

/- Function 18 (laws.eqInt64S): its runs between cut points. Written by a program of this repo (gen). -/
set_option linter.unusedVariables false
set_option linter.unusedSimpArgs false
set_option maxRecDepth 100000
namespace Go.Proofs.Ytjkeinpcphkfbaa
open Go Go.Am Go.Proofs
def ext18 : Ext := []
theorem ext18Ok : ExtOk Try.prog ext18 := trivial
/-! Function 18. -/
noncomputable def b18 : Code := bodyOf Try.f18
theorem hb18 : Try.f18.body = some b18 := by kernel_rfl
def sig18 : List AT := [AT.v (Ty.sl (Ty.int IntKind.i64)), AT.v (Ty.sl (Ty.int IntKind.i64))]
def tys18 : List Ty := [Ty.bool]
def E18_4 (v5 : Int) (x0 : List Int) (x1 : List Int) : Env := [(0, PV.a (Atom.sl (Ty.int IntKind.i64) x0)), (1, PV.a (Atom.sl (Ty.int IntKind.i64) x1)), (5, PV.a (Atom.val (Value.int IntKind.i64 v5)))]
def L18_4 (v5 : Int) (x0 : List Int) (x1 : List Int) : Heap := []
mutual
def R18 : Nat → List Int → List Int → List Dyn → Prop
  | 0, _, _, _ => False
  | n + 1, x0, x1, ds => (if ((↑(List.length x0) : Int) != (↑(List.length x1) : Int)) = true then (ds = [Dyn.mk Ty.bool Bool.false]) else (R18_4 n (0) (x0) (x1) ds))
def R18_4 : Nat → Int → List Int → List Int → List Dyn → Prop
  | 0, _, _, _, _ => False
  | n + 1, v5, x0, x1, ds => (if (Decidable.decide (v5 < (↑(List.length x0) : Int))) = true then ((0 ≤ v5) ∧ (v5 < (↑(List.length x0) : Int)) ∧ ((0 ≤ v5) ∧ (v5 < (↑(List.length x1) : Int)) ∧ (if (List.getD x0 (Int.toNat v5) 0 != List.getD x1 (Int.toNat v5) 0) = true then (ds = [Dyn.mk Ty.bool Bool.false]) else ((InR IntKind.i64 (v5 + 1)) ∧ (R18_4 n (v5 + 1) (x0) (x1) ds))))) else (ds = [Dyn.mk Ty.bool Bool.true]))
end
theorem p18_0 (x0 : List Int) (x1 : List Int) : runF tab ext18 false 26 [] 2000 [] tys18 Try.f18.results [true] [.code b18] (entE 0 0 sig18 (x0, x1, ())) (entL sig18 (x0, x1, ())) = some ([Dyn.mk Ty.bool Bool.false], [], [((↑(List.length x0) : Int) != (↑(List.length x1) : Int)) = Bool.true]) := by kernel_rfl
theorem p18_1 (x0 : List Int) (x1 : List Int) : Am.runN tab ext18 false 26 [] 2000 [] [] [0, 1, 5] [] [false] [.code b18] (entE 0 0 sig18 (x0, x1, ())) (entL sig18 (x0, x1, ())) = some (cutAt b18 4, E18_4 (0) (x0) (x1), L18_4 (0) (x0) (x1), [((↑(List.length x0) : Int) != (↑(List.length x1) : Int)) = Bool.false]) := by kernel_rfl
theorem p18_2 (v5 : Int) (x0 : List Int) (x1 : List Int) : runF tab ext18 false 26 [] 2000 [] tys18 Try.f18.results [true, true] (cutAt b18 4) (E18_4 v5 x0 x1) (L18_4 v5 x0 x1) = some ([Dyn.mk Ty.bool Bool.false], [], [Decidable.decide (v5 < (↑(List.length x0) : Int)) = Bool.true, 0 ≤ v5, v5 < (↑(List.length x0) : Int), 0 ≤ v5, v5 < (↑(List.length x1) : Int), (List.getD x0 (Int.toNat v5) 0 != List.getD x1 (Int.toNat v5) 0) = Bool.true]) := by kernel_rfl
theorem p18_3 (v5 : Int) (x0 : List Int) (x1 : List Int) : Am.runN tab ext18 false 26 [] 2000 [] [] [0, 1, 5] [] [true, false] (cutAt b18 4) (E18_4 v5 x0 x1) (L18_4 v5 x0 x1) = some (cutAt b18 4, E18_4 (v5 + 1) (x0) (x1), L18_4 (v5 + 1) (x0) (x1), [Decidable.decide (v5 < (↑(List.length x0) : Int)) = Bool.true, 0 ≤ v5, v5 < (↑(List.length x0) : Int), 0 ≤ v5, v5 < (↑(List.length x1) : Int), (List.getD x0 (Int.toNat v5) 0 != List.getD x1 (Int.toNat v5) 0) = Bool.false, InR IntKind.i64 (v5 + 1)]) := by kernel_rfl
theorem p18_4 (v5 : Int) (x0 : List Int) (x1 : List Int) : runF tab ext18 false 26 [] 2000 [] tys18 Try.f18.results [false] (cutAt b18 4) (E18_4 v5 x0 x1) (L18_4 v5 x0 x1) = some ([Dyn.mk Ty.bool Bool.true], [], [Decidable.decide (v5 < (↑(List.length x0) : Int)) = Bool.false]) := by kernel_rfl
theorem snd18 : ∀ n, (∀ (x0 : List Int) (x1 : List Int) ds, R18 n x0 x1 ds → ∀ w0 O q, AtV Try.prog 18 (PostR ds [] [] q w0 O) 26 w0 O q [] [.code b18] (entE 0 0 sig18 (x0, x1, ())) (entL sig18 (x0, x1, ()))) ∧ (∀ (v5 : Int) (x0 : List Int) (x1 : List Int) ds, R18_4 n v5 x0 x1 ds → ∀ w0 O q, AtV Try.prog 18 (PostR ds [] [] q w0 O) 26 w0 O q [] (cutAt b18 4) (E18_4 v5 x0 x1) (L18_4 v5 x0 x1)) := by
  intro n
  induction n with
  | zero => exact ⟨fun _ _ _ h => by simp only [R18] at h, fun _ _ _ _ h => by simp only [R18_4] at h⟩
  | succ n ih =>
  obtain ⟨ih, ih4⟩ := ih
  refine ⟨?_, ?_⟩
  · intro x0 x1 ds h w0 O q
    rw [R18] at h
    by_cases b0 : ((↑(List.length x0) : Int) != (↑(List.length x1) : Int)) = true
    · rw [if_pos b0] at h
      subst h
      exact AtV.fin Try.func18 tabOk ext18Ok mixed (p18_0 x0 x1) ⟨b0, trivial⟩
    · rw [if_neg b0] at h
      replace b0 := Bool.eq_false_iff.2 b0
      exact AtV.runN tabOk ext18Ok mixed (p18_1 x0 x1) ⟨b0, trivial⟩ (ih4 _ _ _ _ h w0 O q)

  · intro v5 x0 x1 ds h w0 O q
    rw [R18_4] at h
    by_cases b0 : (Decidable.decide (v5 < (↑(List.length x0) : Int))) = true
    · rw [if_pos b0] at h
      obtain ⟨s0, s1, h⟩ := h
      obtain ⟨s2, s3, h⟩ := h
      by_cases b1 : (List.getD x0 (Int.toNat v5) 0 != List.getD x1 (Int.toNat v5) 0) = true
      · rw [if_pos b1] at h
        subst h
        exact AtV.fin Try.func18 tabOk ext18Ok mixed (p18_2 v5 x0 x1) ⟨b0, s0, s1, s2, s3, b1, trivial⟩
      · rw [if_neg b1] at h
        replace b1 := Bool.eq_false_iff.2 b1
        obtain ⟨s4, h⟩ := h
        exact AtV.runN tabOk ext18Ok mixed (p18_3 v5 x0 x1) ⟨b0, s0, s1, s2, s3, b1, s4, trivial⟩ (ih4 _ _ _ _ h w0 O q)
    · rw [if_neg b0] at h
      replace b0 := Bool.eq_false_iff.2 b0
      subst h
      exact AtV.fin Try.func18 tabOk ext18Ok mixed (p18_4 v5 x0 x1) ⟨b0, trivial⟩



theorem eq18 (x0 x1 : List (Int)) (hl : x0.length = x1.length) (hm : x0.length ≤ maxLen) : ∀ k i : Nat, i + k = x0.length → R18_4 (k + 1) (i : Int) x0 x1 [⟨.bool, decide (x0.drop i = x1.drop i)⟩] := by
  intro k
  induction k with
  | zero =>
    intro i hi
    have h1 : ¬ (i : Int) < (x0.length : Int) := by omega
    rw [R18_4, if_neg (by simpa using h1), drop_end x0 i (by omega), drop_end x1 i (by omega)]
    simp
  | succ k ih =>
    intro i hi
    have h1 : (i : Int) < (x0.length : Int) := by omega
    rw [R18_4, if_pos (by simpa using h1)]
    refine ⟨by omega, h1, by omega, by omega, ?_⟩
    simp only [Int.toNat_natCast]
    rw [drop_get x0 i 0 (by omega), drop_get x1 i 0 (by omega)]
    by_cases he : x0.getD i 0 = x1.getD i 0
    · rw [if_neg (by simp only [he, bne_self_eq_false, Bool.false_eq_true, not_false_eq_true])]
      refine ⟨inR_up hm (by omega), ?_⟩
      have := ih (i + 1) (by omega)
      simp only [he, List.cons.injEq, true_and]
      exact this
    · rw [if_pos (by simpa only [bne_iff_ne, ne_eq] using he)]
      simp only [he, List.cons.injEq, false_and, decide_false]

def g18_0 (x0 x1 : List (Int)) : Bool := decide (x0 = x1)
def P18 (x0 x1 : List (Int)) : Prop := True
def S18 : Am.Spec := { sig := sig18, pre := fun ⟨x0, x1, _⟩ => P18 x0 x1, res := fun ⟨x0, x1, _⟩ => [⟨Ty.bool, g18_0 x0 x1⟩] }
theorem con18 : Contract Try.prog 18 S18 := contract_of Try.func18 hb18 (Nat.le_of_ble_eq_true (by kernel_rfl)) (fun ⟨x0, x1, _⟩ h hwf w0 O q => by
  refine (snd18 (x0.length + 2)).1 x0 x1 _ ?_ w0 O q
  show R18 (x0.length + 1 + 1) x0 x1 [⟨Ty.bool, decide (x0 = x1)⟩]
  rw [R18]
  by_cases hl : x0.length = x1.length
  · rw [if_neg (by simp [hl])]
    have := eq18 x0 x1 hl hwf.1.1 x0.length 0 (by omega)
    simpa using this
  · rw [if_pos (by simp; omega)]
    have : x0 ≠ x1 := fun h => hl (by rw [h])
    simp [this])

end Go.Proofs.Ytjkeinpcphkfbaa

/- Function 21 (laws.markInt64S): its runs between cut points. Written by a program of this repo (gen). -/
set_option linter.unusedVariables false
set_option linter.unusedSimpArgs false
set_option maxRecDepth 100000
namespace Go.Proofs.Ytjkeinpcphkfbaa
open Go Go.Am Go.Proofs
def ext21 : Ext := []
theorem ext21Ok : ExtOk Try.prog ext21 := trivial
/-! Function 21. -/
noncomputable def b21 : Code := bodyOf Try.f21
theorem hb21 : Try.f21.body = some b21 := by kernel_rfl
def sig21 : List AT := [AT.own (Ty.int IntKind.i64), AT.v (Ty.int IntKind.i64)]
def tys21 : List Ty := [Ty.int IntKind.i64]
def E21_2 (v5 : Int) (x1 : Int) (x0 : List Int) : Env := [(0, PV.a (Atom.osl 0 Option.none)), (1, PV.a (Atom.val (Value.int IntKind.i64 x1))), (5, PV.a (Atom.val (Value.int IntKind.i64 v5)))]
def L21_2 (v5 : Int) (x1 : Int) (x0 : List Int) : Heap := [Option.some (Arr.mk (Ty.int IntKind.i64) x0 Bool.false)]
mutual
def R21 : Nat → List Int → Int → List Dyn → List (Option Lst) → Prop
  | 0, _, _, _, _ => False
  | n + 1, x0, x1, ds, us => (R21_2 n (0) (x1) (x0) ds us)
def R21_2 : Nat → Int → Int → List Int → List Dyn → List (Option Lst) → Prop
  | 0, _, _, _, _, _ => False
  | n + 1, v5, x1, x0, ds, us => (if (Decidable.decide (v5 < (↑(List.length x0) : Int))) = true then ((0 ≤ v5) ∧ (v5 < (↑(List.length x0) : Int)) ∧ ((InR IntKind.i64 (x1 + 1)) ∧ ((InR IntKind.i64 (v5 + 1)) ∧ (R21_2 n (v5 + 1) (x1 + 1) (List.set x0 (Int.toNat v5) x1) ds us)))) else (ds = [Dyn.mk (Ty.int IntKind.i64) x1] ∧ us = [Option.some (Lst.mk (Ty.int IntKind.i64) x0)]))
end
theorem p21_0 (x0 : List Int) (x1 : Int) : Am.runN tab ext21 false 19 [] 2000 [0] [] [0, 1, 5] [true] [] [.code b21] (entE 0 0 sig21 (x0, x1, ())) (entL sig21 (x0, x1, ())) = some (cutAt b21 2, E21_2 (0) (x1) (x0), L21_2 (0) (x1) (x0), []) := by kernel_rfl
theorem p21_1 (v5 : Int) (x1 : Int) (x0 : List Int) : Am.runN tab ext21 false 19 [] 2000 [0] [] [0, 1, 5] [true] [true] (cutAt b21 2) (E21_2 v5 x1 x0) (L21_2 v5 x1 x0) = some (cutAt b21 2, E21_2 (v5 + 1) (x1 + 1) (List.set x0 (Int.toNat v5) x1), L21_2 (v5 + 1) (x1 + 1) (List.set x0 (Int.toNat v5) x1), [Decidable.decide (v5 < (↑(List.length x0) : Int)) = Bool.true, 0 ≤ v5, v5 < (↑(List.length x0) : Int), InR IntKind.i64 (x1 + 1), InR IntKind.i64 (v5 + 1)]) := by kernel_rfl
theorem p21_2 (v5 : Int) (x1 : Int) (x0 : List Int) : runF tab ext21 false 19 [] 2000 [0] tys21 Try.f21.results [false] (cutAt b21 2) (E21_2 v5 x1 x0) (L21_2 v5 x1 x0) = some ([Dyn.mk (Ty.int IntKind.i64) x1], [Option.some (Lst.mk (Ty.int IntKind.i64) x0)], [Decidable.decide (v5 < (↑(List.length x0) : Int)) = Bool.false]) := by kernel_rfl
theorem snd21 : ∀ n, (∀ (x0 : List Int) (x1 : Int) ds us, R21 n x0 x1 ds us → ∀ w0 O q, AtV Try.prog 21 (PostR ds us [0] q w0 O) 19 w0 O q [0] [.code b21] (entE 0 0 sig21 (x0, x1, ())) (entL sig21 (x0, x1, ()))) ∧ (∀ (v5 : Int) (x1 : Int) (x0 : List Int) ds us, R21_2 n v5 x1 x0 ds us → ∀ w0 O q, AtV Try.prog 21 (PostR ds us [0] q w0 O) 19 w0 O q [0] (cutAt b21 2) (E21_2 v5 x1 x0) (L21_2 v5 x1 x0)) := by
  intro n
  induction n with
  | zero => exact ⟨fun _ _ _ _ h => by simp only [R21] at h, fun _ _ _ _ _ h => by simp only [R21_2] at h⟩
  | succ n ih =>
  obtain ⟨ih, ih2⟩ := ih
  refine ⟨?_, ?_⟩
  · intro x0 x1 ds us h w0 O q
    rw [R21] at h
    exact AtV.runN tabOk ext21Ok mixed (p21_0 x0 x1) trivial (ih2 _ _ _ _ _ h w0 O q)

  · intro v5 x1 x0 ds us h w0 O q
    rw [R21_2] at h
    by_cases b0 : (Decidable.decide (v5 < (↑(List.length x0) : Int))) = true
    · rw [if_pos b0] at h
      obtain ⟨s0, s1, h⟩ := h
      obtain ⟨s2, h⟩ := h
      obtain ⟨s3, h⟩ := h
      exact AtV.runN tabOk ext21Ok mixed (p21_1 v5 x1 x0) ⟨b0, s0, s1, s2, s3, trivial⟩ (ih2 _ _ _ _ _ h w0 O q)
    · rw [if_neg b0] at h
      replace b0 := Bool.eq_false_iff.2 b0
      obtain ⟨h, h'⟩ := h; subst h; subst h'
      exact AtV.fin Try.func21 tabOk ext21Ok mixed (p21_2 v5 x1 x0) ⟨b0, trivial⟩



def M21 (x1 : Int) (n : Nat) : List Int := (List.range n).map fun (j : Nat) => x1 + (j : Int)

theorem M21_len (x1 : Int) (n : Nat) : (M21 x1 n).length = n := by simp [M21]

theorem M21_step (x1 : Int) (x0 : List Int) (i : Nat) (h : i < x0.length) : (M21 x1 i ++ x0.drop i).set i (x1 + (i : Int)) = M21 x1 (i + 1) ++ x0.drop (i + 1) := by
  rw [List.set_append_right _ _ (by rw [M21_len]; exact Nat.le_refl _), M21_len, Nat.sub_self, List.drop_eq_getElem_cons h, List.set_cons_zero]
  simp [M21, List.range_succ]

theorem run21 (x0 : List Int) (x1 : Int) (hm : x0.length ≤ maxLen) (h0 : 0 ≤ x1) (h1 : x1 + x0.length ≤ 9223372036854775807) : ∀ (k i : Nat), i + k = x0.length →
    R21_2 (k + 1) (i : Int) (x1 + (i : Int)) (M21 x1 i ++ x0.drop i) [⟨.int .i64, x1 + (x0.length : Int)⟩] [some ⟨.int .i64, M21 x1 x0.length⟩] := by
  intro k
  induction k with
  | zero =>
    intro i hi
    have hl : (M21 x1 i ++ x0.drop i).length = x0.length := by simp [M21_len]; omega
    rw [R21_2, if_neg (by rw [hl]; simp; omega), drop_end x0 i (by omega), List.append_nil]
    have : i = x0.length := by omega
    subst this
    exact ⟨rfl, rfl⟩
  | succ k ih =>
    intro i hi
    have hl : (M21 x1 i ++ x0.drop i).length = x0.length := by simp [M21_len]; omega
    rw [R21_2, if_pos (by rw [hl]; simp; omega), hl]
    simp only [Int.toNat_natCast]
    refine ⟨by omega, by omega, by rw [i64_iff]; omega, inR_up hm (by omega), ?_⟩
    rw [M21_step x1 x0 i (by omega), Int.add_assoc]
    exact ih (i + 1) (by omega)

def P21 (x0 : List Int) (x1 : Int) : Prop := 0 ≤ x1 ∧ x1 + x0.length ≤ 9223372036854775807
def g21_0 (x0 : List Int) (x1 : Int) : Int := x1 + (x0.length : Int)
def u21_0 (x0 : List Int) (x1 : Int) : List Int := M21 x1 x0.length

theorem top21 (x0 : List Int) (x1 : Int) (hm : x0.length ≤ maxLen) (h : P21 x0 x1) : R21 (x0.length + 1 + 1) x0 x1 [⟨.int .i64, g21_0 x0 x1⟩] [some ⟨.int .i64, u21_0 x0 x1⟩] := by
  rw [R21]
  have := run21 x0 x1 hm h.1 h.2 x0.length 0 (by omega)
  simpa [M21, g21_0, u21_0] using this

def S21 : Am.Spec := { sig := sig21, pre := fun ⟨x0, x1, _⟩ => P21 x0 x1, upd := fun ⟨x0, x1, _⟩ => [some ⟨.int .i64, u21_0 x0 x1⟩], res := fun ⟨x0, x1, _⟩ => [⟨.int .i64, g21_0 x0 x1⟩] }
theorem con21 : Contract Try.prog 21 S21 := contract_of Try.func21 hb21 (Nat.le_of_ble_eq_true (by kernel_rfl)) (fun ⟨x0, x1, _⟩ h hwf w0 O q =>
  (snd21 _).1 x0 x1 _ _ (top21 x0 x1 hwf.1.1 h) w0 O q)

end Go.Proofs.Ytjkeinpcphkfbaa

/- Function 72 (laws.markText): its runs between cut points. Written by a program of this repo (gen). -/
set_option linter.unusedVariables false
set_option linter.unusedSimpArgs false
set_option maxRecDepth 100000
namespace Go.Proofs.Ytjkeinpcphkfbaa
open Go Go.Am Go.Proofs
def ext72 : Ext := []
theorem ext72Ok : ExtOk Try.prog ext72 := trivial
/-! Function 72. -/
noncomputable def b72 : Code := bodyOf Try.f72
theorem hb72 : Try.f72.body = some b72 := by kernel_rfl
def sig72 : List AT := [AT.v (Ty.int IntKind.i64)]
def tys72 : List Ty := [Ty.str]
def E72_4 (v3 : ByteArray) (x0 : Int) : Env := [(0, PV.a (Atom.val (Value.int IntKind.i64 x0))), (3, PV.a (Atom.val (Value.string v3)))]
def L72_4 (v3 : ByteArray) (x0 : Int) : Heap := []
mutual
def R72 : Nat → Int → List Dyn → Prop
  | 0, _, _ => False
  | n + 1, x0, ds => (if (Decidable.decide (x0 ≤ 0)) = true then (ds = [Dyn.mk Ty.str (ByteArray.mk #[109, 48])]) else (R72_4 n (ByteArray.mk #[]) (x0) ds))
def R72_4 : Nat → ByteArray → Int → List Dyn → Prop
  | 0, _, _, _ => False
  | n + 1, v3, x0, ds => (if (Decidable.decide (x0 > 0)) = true then ((InR IntKind.i64 (Int.tmod x0 10)) ∧ ((InR IntKind.i64 (48 + Int.tmod x0 10)) ∧ ((InR IntKind.u8 (48 + Int.tmod x0 10)) ∧ ((ByteArray.size (bytesStr [48 + Int.tmod x0 10]) + ByteArray.size v3 ≤ 9223372036854775807) ∧ ((InR IntKind.i64 (Int.tdiv x0 10)) ∧ (R72_4 n (bytesStr [48 + Int.tmod x0 10] ++ v3) (Int.tdiv x0 10) ds)))))) else ((1 + ByteArray.size v3 ≤ 9223372036854775807) ∧ (ds = [Dyn.mk Ty.str (ByteArray.mk #[109] ++ v3)])))
end
theorem p72_0 (x0 : Int) : runF tab ext72 false 20 [] 2000 [] tys72 Try.f72.results [true] [.code b72] (entE 0 0 sig72 (x0, ())) (entL sig72 (x0, ())) = some ([Dyn.mk Ty.str (ByteArray.mk #[109, 48])], [], [Decidable.decide (x0 ≤ 0) = Bool.true]) := by kernel_rfl
theorem p72_1 (x0 : Int) : Am.runN tab ext72 false 20 [] 2000 [] [] [0, 3] [] [false] [.code b72] (entE 0 0 sig72 (x0, ())) (entL sig72 (x0, ())) = some (cutAt b72 4, E72_4 (ByteArray.mk #[]) (x0), L72_4 (ByteArray.mk #[]) (x0), [Decidable.decide (x0 ≤ 0) = Bool.false]) := by kernel_rfl
theorem p72_2 (v3 : ByteArray) (x0 : Int) : Am.runN tab ext72 false 20 [] 2000 [] [] [0, 3] [] [true] (cutAt b72 4) (E72_4 v3 x0) (L72_4 v3 x0) = some (cutAt b72 4, E72_4 (bytesStr [48 + Int.tmod x0 10] ++ v3) (Int.tdiv x0 10), L72_4 (bytesStr [48 + Int.tmod x0 10] ++ v3) (Int.tdiv x0 10), [Decidable.decide (x0 > 0) = Bool.true, (10 : Int) ≠ (0 : Int), InR IntKind.i64 (Int.tmod x0 10), InR IntKind.i64 (48 + Int.tmod x0 10), InR IntKind.u8 (48 + Int.tmod x0 10), ByteArray.size (bytesStr [48 + Int.tmod x0 10]) + ByteArray.size v3 ≤ 9223372036854775807, (10 : Int) ≠ (0 : Int), InR IntKind.i64 (Int.tdiv x0 10)]) := by kernel_rfl
theorem p72_3 (v3 : ByteArray) (x0 : Int) : runF tab ext72 false 20 [] 2000 [] tys72 Try.f72.results [false] (cutAt b72 4) (E72_4 v3 x0) (L72_4 v3 x0) = some ([Dyn.mk Ty.str (ByteArray.mk #[109] ++ v3)], [], [Decidable.decide (x0 > 0) = Bool.false, 1 + ByteArray.size v3 ≤ 9223372036854775807]) := by kernel_rfl
theorem snd72 : ∀ n, (∀ (x0 : Int) ds, R72 n x0 ds → ∀ w0 O q, AtV Try.prog 72 (PostR ds [] [] q w0 O) 20 w0 O q [] [.code b72] (entE 0 0 sig72 (x0, ())) (entL sig72 (x0, ()))) ∧ (∀ (v3 : ByteArray) (x0 : Int) ds, R72_4 n v3 x0 ds → ∀ w0 O q, AtV Try.prog 72 (PostR ds [] [] q w0 O) 20 w0 O q [] (cutAt b72 4) (E72_4 v3 x0) (L72_4 v3 x0)) := by
  intro n
  induction n with
  | zero => exact ⟨fun _ _ h => by simp only [R72] at h, fun _ _ _ h => by simp only [R72_4] at h⟩
  | succ n ih =>
  obtain ⟨ih, ih4⟩ := ih
  refine ⟨?_, ?_⟩
  · intro x0 ds h w0 O q
    rw [R72] at h
    by_cases b0 : (Decidable.decide (x0 ≤ 0)) = true
    · rw [if_pos b0] at h
      subst h
      exact AtV.fin Try.func72 tabOk ext72Ok mixed (p72_0 x0) ⟨b0, trivial⟩
    · rw [if_neg b0] at h
      replace b0 := Bool.eq_false_iff.2 b0
      exact AtV.runN tabOk ext72Ok mixed (p72_1 x0) ⟨b0, trivial⟩ (ih4 _ _ _ h w0 O q)

  · intro v3 x0 ds h w0 O q
    rw [R72_4] at h
    by_cases b0 : (Decidable.decide (x0 > 0)) = true
    · rw [if_pos b0] at h
      obtain ⟨s0, h⟩ := h
      obtain ⟨s1, h⟩ := h
      obtain ⟨s2, h⟩ := h
      obtain ⟨s3, h⟩ := h
      obtain ⟨s4, h⟩ := h
      exact AtV.runN tabOk ext72Ok mixed (p72_2 v3 x0) ⟨b0, (by decide), s0, s1, s2, s3, (by decide), s4, trivial⟩ (ih4 _ _ _ h w0 O q)
    · rw [if_neg b0] at h
      replace b0 := Bool.eq_false_iff.2 b0
      obtain ⟨s0, h⟩ := h
      subst h
      exact AtV.fin Try.func72 tabOk ext72Ok mixed (p72_3 v3 x0) ⟨b0, s0, trivial⟩



def loop72 : Nat → ByteArray → Int → ByteArray
  | 0, v, _ => v
  | n + 1, v, x => if 0 < x then loop72 n (bytesStr [48 + Int.tmod x 10] ++ v) (Int.tdiv x 10) else v

theorem run72 : ∀ (n : Nat) (v : ByteArray) (x : Int), x < 10 ^ n → InR .i64 x → v.size + n ≤ 1000 → R72_4 (n + 1) v x [⟨.str, ByteArray.mk #[109] ++ loop72 n v x⟩] := by
  intro n
  induction n with
  | zero =>
    intro v x h1 _ h2
    rw [R72_4, if_neg (by simp at h1 ⊢; omega)]
    exact ⟨by omega, rfl⟩
  | succ n ih =>
    intro v x h1 hi h2
    rw [i64_iff] at hi
    rw [R72_4]
    by_cases hx : 0 < x
    · rw [if_pos (by simpa using hx)]
      have e1 : Int.tmod x 10 = x % 10 := Int.tmod_eq_emod_of_nonneg (by omega)
      have e2 : Int.tdiv x 10 = x / 10 := Int.tdiv_eq_ediv_of_nonneg (by omega)
      have hs : (bytesStr [48 + Int.tmod x 10]).size = 1 := bytesStr_size _
      have hp : (10 : Int) ^ (n + 1) = 10 * 10 ^ n := by rw [Int.pow_succ, Int.mul_comm]
      refine ⟨by rw [i64_iff, e1]; omega, by rw [i64_iff, e1]; omega, by rw [u8_iff, e1]; omega, by rw [hs]; omega, by rw [i64_iff, e2]; omega, ?_⟩
      have := ih (bytesStr [48 + Int.tmod x 10] ++ v) (Int.tdiv x 10) (by rw [e2]; omega) (by rw [i64_iff, e2]; omega) (by rw [ByteArray.size_append, hs]; omega)
      simp only [loop72, if_pos hx]
      exact this
    · rw [if_neg (by simp; omega)]
      simp only [loop72, if_neg hx]
      exact ⟨by omega, trivial⟩

def g72_0 (x0 : Int) : ByteArray := if x0 ≤ 0 then ByteArray.mk #[109, 48] else ByteArray.mk #[109] ++ loop72 19 (ByteArray.mk #[]) x0
def P72 (x0 : Int) : Prop := True

theorem top72 (x0 : Int) (hi : InR .i64 x0) : R72 21 x0 [⟨.str, g72_0 x0⟩] := by
  rw [R72]
  unfold g72_0
  by_cases h : x0 ≤ 0
  · rw [if_pos (by simpa using h), if_pos h]
  · rw [if_neg (by simpa using h), if_neg h]
    have hi' := hi
    rw [i64_iff] at hi'
    exact run72 19 _ x0 (by omega) hi (by decide)

def S72 : Am.Spec := { sig := sig72, pre := fun ⟨x0, _⟩ => P72 x0, res := fun ⟨x0, _⟩ => [⟨.str, g72_0 x0⟩] }
theorem con72 : Contract Try.prog 72 S72 := contract_of Try.func72 hb72 (Nat.le_of_ble_eq_true (by kernel_rfl)) (fun ⟨x0, _⟩ h hwf w0 O q =>
  (snd72 _).1 x0 _ (top72 x0 hwf.1) w0 O q)

end Go.Proofs.Ytjkeinpcphkfbaa

/- Function 29 (laws.markStringS): its runs between cut points. Written by a program of this repo (gen). -/
set_option linter.unusedVariables false
set_option linter.unusedSimpArgs false
set_option maxRecDepth 100000
namespace Go.Proofs.Ytjkeinpcphkfbaa
open Go Go.Am Go.Proofs
def ext29 : Ext := [(72, S72)]
theorem call29_72 : Callable Try.prog 72 := ⟨Try.f72, Try.func72, by kernel_rfl, by kernel_rfl⟩
theorem ext29Ok : ExtOk Try.prog ext29 := ⟨⟨call29_72, con72⟩, trivial⟩
/-! Function 29. -/
noncomputable def b29 : Code := bodyOf Try.f29
theorem hb29 : Try.f29.body = some b29 := by kernel_rfl
def sig29 : List AT := [AT.own Ty.str, AT.v (Ty.int IntKind.i64)]
def tys29 : List Ty := [Ty.int IntKind.i64]
def E29_2 (v5 : Int) (x1 : Int) (x0 : List ByteArray) : Env := [(0, PV.a (Atom.osl 0 Option.none)), (1, PV.a (Atom.val (Value.int IntKind.i64 x1))), (5, PV.a (Atom.val (Value.int IntKind.i64 v5)))]
def L29_2 (v5 : Int) (x1 : Int) (x0 : List ByteArray) : Heap := [Option.some (Arr.mk Ty.str x0 Bool.false)]
mutual
def R29 : Nat → List ByteArray → Int → List Dyn → List (Option Lst) → Prop
  | 0, _, _, _, _ => False
  | n + 1, x0, x1, ds, us => (R29_2 n (0) (x1) (x0) ds us)
def R29_2 : Nat → Int → Int → List ByteArray → List Dyn → List (Option Lst) → Prop
  | 0, _, _, _, _, _ => False
  | n + 1, v5, x1, x0, ds, us => (if (Decidable.decide (v5 < (↑(List.length x0) : Int))) = true then ((0 ≤ v5) ∧ (v5 < (↑(List.length x0) : Int)) ∧ ((InR IntKind.i64 (x1 + 1)) ∧ ((InR IntKind.i64 (v5 + 1)) ∧ (R29_2 n (v5 + 1) (x1 + 1) (List.set x0 (Int.toNat v5) (g72_0 x1)) ds us)))) else (ds = [Dyn.mk (Ty.int IntKind.i64) x1] ∧ us = [Option.some (Lst.mk Ty.str x0)]))
end
theorem p29_0 (x0 : List ByteArray) (x1 : Int) : Am.runN tab ext29 false 20 [] 2000 [0] [] [0, 1, 5] [true] [] [.code b29] (entE 0 0 sig29 (x0, x1, ())) (entL sig29 (x0, x1, ())) = some (cutAt b29 2, E29_2 (0) (x1) (x0), L29_2 (0) (x1) (x0), []) := by kernel_rfl
theorem p29_1 (v5 : Int) (x1 : Int) (x0 : List ByteArray) : Am.runN tab ext29 false 20 [] 2000 [0] [] [0, 1, 5] [true] [true] (cutAt b29 2) (E29_2 v5 x1 x0) (L29_2 v5 x1 x0) = some (cutAt b29 2, E29_2 (v5 + 1) (x1 + 1) (List.set x0 (Int.toNat v5) (g72_0 x1)), L29_2 (v5 + 1) (x1 + 1) (List.set x0 (Int.toNat v5) (g72_0 x1)), [Decidable.decide (v5 < (↑(List.length x0) : Int)) = Bool.true, True, 0 ≤ v5, v5 < (↑(List.length x0) : Int), InR IntKind.i64 (x1 + 1), InR IntKind.i64 (v5 + 1)]) := by kernel_rfl
theorem p29_2 (v5 : Int) (x1 : Int) (x0 : List ByteArray) : runF tab ext29 false 20 [] 2000 [0] tys29 Try.f29.results [false] (cutAt b29 2) (E29_2 v5 x1 x0) (L29_2 v5 x1 x0) = some ([Dyn.mk (Ty.int IntKind.i64) x1], [Option.some (Lst.mk Ty.str x0)], [Decidable.decide (v5 < (↑(List.length x0) : Int)) = Bool.false]) := by kernel_rfl
theorem snd29 : ∀ n, (∀ (x0 : List ByteArray) (x1 : Int) ds us, R29 n x0 x1 ds us → ∀ w0 O q, AtV Try.prog 29 (PostR ds us [0] q w0 O) 20 w0 O q [0] [.code b29] (entE 0 0 sig29 (x0, x1, ())) (entL sig29 (x0, x1, ()))) ∧ (∀ (v5 : Int) (x1 : Int) (x0 : List ByteArray) ds us, R29_2 n v5 x1 x0 ds us → ∀ w0 O q, AtV Try.prog 29 (PostR ds us [0] q w0 O) 20 w0 O q [0] (cutAt b29 2) (E29_2 v5 x1 x0) (L29_2 v5 x1 x0)) := by
  intro n
  induction n with
  | zero => exact ⟨fun _ _ _ _ h => by simp only [R29] at h, fun _ _ _ _ _ h => by simp only [R29_2] at h⟩
  | succ n ih =>
  obtain ⟨ih, ih2⟩ := ih
  refine ⟨?_, ?_⟩
  · intro x0 x1 ds us h w0 O q
    rw [R29] at h
    exact AtV.runN tabOk ext29Ok mixed (p29_0 x0 x1) trivial (ih2 _ _ _ _ _ h w0 O q)

  · intro v5 x1 x0 ds us h w0 O q
    rw [R29_2] at h
    by_cases b0 : (Decidable.decide (v5 < (↑(List.length x0) : Int))) = true
    · rw [if_pos b0] at h
      obtain ⟨s0, s1, h⟩ := h
      obtain ⟨s2, h⟩ := h
      obtain ⟨s3, h⟩ := h
      exact AtV.runN tabOk ext29Ok mixed (p29_1 v5 x1 x0) ⟨b0, trivial, s0, s1, s2, s3, trivial⟩ (ih2 _ _ _ _ _ h w0 O q)
    · rw [if_neg b0] at h
      replace b0 := Bool.eq_false_iff.2 b0
      obtain ⟨h, h'⟩ := h; subst h; subst h'
      exact AtV.fin Try.func29 tabOk ext29Ok mixed (p29_2 v5 x1 x0) ⟨b0, trivial⟩



def M29 (x1 : Int) (n : Nat) : List ByteArray := (List.range n).map fun (j : Nat) => g72_0 (x1 + (j : Int))

theorem M29_len (x1 : Int) (n : Nat) : (M29 x1 n).length = n := by simp [M29]

theorem M29_step (x1 : Int) (x0 : List ByteArray) (i : Nat) (h : i < x0.length) : (M29 x1 i ++ x0.drop i).set i (g72_0 (x1 + (i : Int))) = M29 x1 (i + 1) ++ x0.drop (i + 1) := by
  rw [List.set_append_right _ _ (by rw [M29_len]; exact Nat.le_refl _), M29_len, Nat.sub_self, List.drop_eq_getElem_cons h, List.set_cons_zero]
  simp [M29, List.range_succ]

theorem run29 (x0 : List ByteArray) (x1 : Int) (hm : x0.length ≤ maxLen) (h0 : 0 ≤ x1) (h1 : x1 + x0.length ≤ 9223372036854775807) : ∀ (k i : Nat), i + k = x0.length →
    R29_2 (k + 1) (i : Int) (x1 + (i : Int)) (M29 x1 i ++ x0.drop i) [⟨.int .i64, x1 + (x0.length : Int)⟩] [some ⟨.str, M29 x1 x0.length⟩] := by
  intro k
  induction k with
  | zero =>
    intro i hi
    have hl : (M29 x1 i ++ x0.drop i).length = x0.length := by simp [M29_len]; omega
    rw [R29_2, if_neg (by rw [hl]; simp; omega), drop_end x0 i (by omega), List.append_nil]
    have : i = x0.length := by omega
    subst this
    exact ⟨rfl, rfl⟩
  | succ k ih =>
    intro i hi
    have hl : (M29 x1 i ++ x0.drop i).length = x0.length := by simp [M29_len]; omega
    rw [R29_2, if_pos (by rw [hl]; simp; omega), hl]
    simp only [Int.toNat_natCast]
    refine ⟨by omega, by omega, by rw [i64_iff]; omega, inR_up hm (by omega), ?_⟩
    rw [M29_step x1 x0 i (by omega), Int.add_assoc]
    exact ih (i + 1) (by omega)

def P29 (x0 : List ByteArray) (x1 : Int) : Prop := 0 ≤ x1 ∧ x1 + x0.length ≤ 9223372036854775807
def g29_0 (x0 : List ByteArray) (x1 : Int) : Int := x1 + (x0.length : Int)
def u29_0 (x0 : List ByteArray) (x1 : Int) : List ByteArray := M29 x1 x0.length

theorem top29 (x0 : List ByteArray) (x1 : Int) (hm : x0.length ≤ maxLen) (h : P29 x0 x1) : R29 (x0.length + 1 + 1) x0 x1 [⟨.int .i64, g29_0 x0 x1⟩] [some ⟨.str, u29_0 x0 x1⟩] := by
  rw [R29]
  have := run29 x0 x1 hm h.1 h.2 x0.length 0 (by omega)
  simpa [M29, g29_0, u29_0] using this

def S29 : Am.Spec := { sig := sig29, pre := fun ⟨x0, x1, _⟩ => P29 x0 x1, upd := fun ⟨x0, x1, _⟩ => [some ⟨.str, u29_0 x0 x1⟩], res := fun ⟨x0, x1, _⟩ => [⟨.int .i64, g29_0 x0 x1⟩] }
theorem con29 : Contract Try.prog 29 S29 := contract_of Try.func29 hb29 (Nat.le_of_ble_eq_true (by kernel_rfl)) (fun ⟨x0, x1, _⟩ h hwf w0 O q =>
  (snd29 _).1 x0 x1 _ _ (top29 x0 x1 hwf.1.1 h) w0 O q)

end Go.Proofs.Ytjkeinpcphkfbaa

/- Function 42 (laws.heldStringS): its runs between cut points. Written by a program of this repo (gen). -/
set_option linter.unusedVariables false
set_option linter.unusedSimpArgs false
set_option maxRecDepth 100000
namespace Go.Proofs.Ytjkeinpcphkfbaa
open Go Go.Am Go.Proofs
def ext42 : Ext := [(72, S72)]
theorem call42_72 : Callable Try.prog 72 := ⟨Try.f72, Try.func72, by kernel_rfl, by kernel_rfl⟩
theorem ext42Ok : ExtOk Try.prog ext42 := ⟨⟨call42_72, con72⟩, trivial⟩
/-! Function 42. -/
noncomputable def b42 : Code := bodyOf Try.f42
theorem hb42 : Try.f42.body = some b42 := by kernel_rfl
def sig42 : List AT := [AT.v (Ty.sl Ty.str), AT.v (Ty.int IntKind.i64)]
def tys42 : List Ty := [Ty.int IntKind.i64]
def E42_2 (v5 : Int) (x0 : List ByteArray) (x1 : Int) : Env := [(0, PV.a (Atom.sl Ty.str x0)), (1, PV.a (Atom.val (Value.int IntKind.i64 x1))), (5, PV.a (Atom.val (Value.int IntKind.i64 v5)))]
def L42_2 (v5 : Int) (x0 : List ByteArray) (x1 : Int) : Heap := []
mutual
def R42 : Nat → List ByteArray → Int → List Dyn → Prop
  | 0, _, _, _ => False
  | n + 1, x0, x1, ds => (R42_2 n (0) (x0) (x1) ds)
def R42_2 : Nat → Int → List ByteArray → Int → List Dyn → Prop
  | 0, _, _, _, _ => False
  | n + 1, v5, x0, x1, ds => (if (Decidable.decide (v5 < (↑(List.length x0) : Int))) = true then ((0 ≤ v5) ∧ (v5 < (↑(List.length x0) : Int)) ∧ (if (!ByteArray.toList (List.getD x0 (Int.toNat v5) ByteArray.empty) == ByteArray.toList (g72_0 x1)) = true then (ds = [Dyn.mk (Ty.int IntKind.i64) (-1)]) else ((InR IntKind.i64 (x1 + 1)) ∧ ((InR IntKind.i64 (v5 + 1)) ∧ (R42_2 n (v5 + 1) (x0) (x1 + 1) ds))))) else (ds = [Dyn.mk (Ty.int IntKind.i64) x1]))
end
theorem p42_0 (x0 : List ByteArray) (x1 : Int) : Am.runN tab ext42 false 22 [] 2000 [] [] [0, 1, 5] [] [] [.code b42] (entE 0 0 sig42 (x0, x1, ())) (entL sig42 (x0, x1, ())) = some (cutAt b42 2, E42_2 (0) (x0) (x1), L42_2 (0) (x0) (x1), []) := by kernel_rfl
theorem p42_1 (v5 : Int) (x0 : List ByteArray) (x1 : Int) : runF tab ext42 false 22 [] 2000 [] tys42 Try.f42.results [true, true] (cutAt b42 2) (E42_2 v5 x0 x1) (L42_2 v5 x0 x1) = some ([Dyn.mk (Ty.int IntKind.i64) (-1)], [], [Decidable.decide (v5 < (↑(List.length x0) : Int)) = Bool.true, 0 ≤ v5, v5 < (↑(List.length x0) : Int), True, (!ByteArray.toList (List.getD x0 (Int.toNat v5) ByteArray.empty) == ByteArray.toList (g72_0 x1)) = Bool.true]) := by kernel_rfl
theorem p42_2 (v5 : Int) (x0 : List ByteArray) (x1 : Int) : Am.runN tab ext42 false 22 [] 2000 [] [] [0, 1, 5] [] [true, false] (cutAt b42 2) (E42_2 v5 x0 x1) (L42_2 v5 x0 x1) = some (cutAt b42 2, E42_2 (v5 + 1) (x0) (x1 + 1), L42_2 (v5 + 1) (x0) (x1 + 1), [Decidable.decide (v5 < (↑(List.length x0) : Int)) = Bool.true, 0 ≤ v5, v5 < (↑(List.length x0) : Int), True, (!ByteArray.toList (List.getD x0 (Int.toNat v5) ByteArray.empty) == ByteArray.toList (g72_0 x1)) = Bool.false, InR IntKind.i64 (x1 + 1), InR IntKind.i64 (v5 + 1)]) := by kernel_rfl
theorem p42_3 (v5 : Int) (x0 : List ByteArray) (x1 : Int) : runF tab ext42 false 22 [] 2000 [] tys42 Try.f42.results [false] (cutAt b42 2) (E42_2 v5 x0 x1) (L42_2 v5 x0 x1) = some ([Dyn.mk (Ty.int IntKind.i64) x1], [], [Decidable.decide (v5 < (↑(List.length x0) : Int)) = Bool.false]) := by kernel_rfl
theorem snd42 : ∀ n, (∀ (x0 : List ByteArray) (x1 : Int) ds, R42 n x0 x1 ds → ∀ w0 O q, AtV Try.prog 42 (PostR ds [] [] q w0 O) 22 w0 O q [] [.code b42] (entE 0 0 sig42 (x0, x1, ())) (entL sig42 (x0, x1, ()))) ∧ (∀ (v5 : Int) (x0 : List ByteArray) (x1 : Int) ds, R42_2 n v5 x0 x1 ds → ∀ w0 O q, AtV Try.prog 42 (PostR ds [] [] q w0 O) 22 w0 O q [] (cutAt b42 2) (E42_2 v5 x0 x1) (L42_2 v5 x0 x1)) := by
  intro n
  induction n with
  | zero => exact ⟨fun _ _ _ h => by simp only [R42] at h, fun _ _ _ _ h => by simp only [R42_2] at h⟩
  | succ n ih =>
  obtain ⟨ih, ih2⟩ := ih
  refine ⟨?_, ?_⟩
  · intro x0 x1 ds h w0 O q
    rw [R42] at h
    exact AtV.runN tabOk ext42Ok mixed (p42_0 x0 x1) trivial (ih2 _ _ _ _ h w0 O q)

  · intro v5 x0 x1 ds h w0 O q
    rw [R42_2] at h
    by_cases b0 : (Decidable.decide (v5 < (↑(List.length x0) : Int))) = true
    · rw [if_pos b0] at h
      obtain ⟨s0, s1, h⟩ := h
      by_cases b1 : (!ByteArray.toList (List.getD x0 (Int.toNat v5) ByteArray.empty) == ByteArray.toList (g72_0 x1)) = true
      · rw [if_pos b1] at h
        subst h
        exact AtV.fin Try.func42 tabOk ext42Ok mixed (p42_1 v5 x0 x1) ⟨b0, s0, s1, trivial, b1, trivial⟩
      · rw [if_neg b1] at h
        replace b1 := Bool.eq_false_iff.2 b1
        obtain ⟨s2, h⟩ := h
        obtain ⟨s3, h⟩ := h
        exact AtV.runN tabOk ext42Ok mixed (p42_2 v5 x0 x1) ⟨b0, s0, s1, trivial, b1, s2, s3, trivial⟩ (ih2 _ _ _ _ h w0 O q)
    · rw [if_neg b0] at h
      replace b0 := Bool.eq_false_iff.2 b0
      subst h
      exact AtV.fin Try.func42 tabOk ext42Ok mixed (p42_3 v5 x0 x1) ⟨b0, trivial⟩



theorem run42 (x0 : List ByteArray) (x1 : Int) (hm : x0.length ≤ maxLen) (h0 : 0 ≤ x1) (h1 : x1 + x0.length ≤ 9223372036854775807) (he : ∀ i : Nat, i < x0.length → x0.getD i ByteArray.empty = g72_0 (x1 + (i : Int))) : ∀ (k i : Nat), i + k = x0.length →
    R42_2 (k + 1) (i : Int) x0 (x1 + (i : Int)) [⟨.int .i64, x1 + (x0.length : Int)⟩] := by
  intro k
  induction k with
  | zero =>
    intro i hi
    rw [R42_2, if_neg (by simp; omega)]
    have : i = x0.length := by omega
    subst this
    rfl
  | succ k ih =>
    intro i hi
    rw [R42_2, if_pos (by simp; omega)]
    simp only [Int.toNat_natCast]
    have hb := (bytes_eq _ _).2 (he i (by omega))
    refine ⟨by omega, by omega, ?_⟩
    rw [if_neg (by rw [hb]; simp)]
    refine ⟨by rw [i64_iff]; omega, inR_up hm (by omega), ?_⟩
    rw [Int.add_assoc]
    exact ih (i + 1) (by omega)

def P42 (x0 : List ByteArray) (x1 : Int) : Prop := (0 ≤ x1 ∧ x1 + x0.length ≤ 9223372036854775807) ∧ ∀ i : Nat, i < x0.length → x0.getD i ByteArray.empty = g72_0 (x1 + (i : Int))
def g42_0 (x0 : List ByteArray) (x1 : Int) : Int := x1 + (x0.length : Int)

theorem top42 (x0 : List ByteArray) (x1 : Int) (hm : x0.length ≤ maxLen) (h : P42 x0 x1) : R42 (x0.length + 1 + 1) x0 x1 [⟨.int .i64, g42_0 x0 x1⟩] := by
  rw [R42]
  have := run42 x0 x1 hm h.1.1 h.1.2 h.2 x0.length 0 (by omega)
  simpa [g42_0] using this

def S42 : Am.Spec := { sig := sig42, pre := fun ⟨x0, x1, _⟩ => P42 x0 x1, res := fun ⟨x0, x1, _⟩ => [⟨.int .i64, g42_0 x0 x1⟩] }
theorem con42 : Contract Try.prog 42 S42 := contract_of Try.func42 hb42 (Nat.le_of_ble_eq_true (by kernel_rfl)) (fun ⟨x0, x1, _⟩ h hwf w0 O q =>
  (snd42 _).1 x0 x1 _ (top42 x0 x1 hwf.1.1 h) w0 O q)

end Go.Proofs.Ytjkeinpcphkfbaa

/- Function 7 (laws.FnExactBarLines): its runs between cut points. Written by a program of this repo (gen). -/
set_option linter.unusedVariables false
set_option linter.unusedSimpArgs false
set_option maxRecDepth 100000
namespace Go.Proofs.Ytjkeinpcphkfbaa
open Go Go.Am Go.Proofs
def ext7 : Ext := [(40, S40), (39, S39), (41, S41), (28, S28), (18, S18), (21, S21), (29, S29), (42, S42)]
theorem call7_40 : Callable Try.prog 40 := ⟨Try.f40, Try.func40, by kernel_rfl, by kernel_rfl⟩
theorem call7_39 : Callable Try.prog 39 := ⟨Try.f39, Try.func39, by kernel_rfl, by kernel_rfl⟩
theorem call7_41 : Callable Try.prog 41 := ⟨Try.f41, Try.func41, by kernel_rfl, by kernel_rfl⟩
theorem call7_28 : Callable Try.prog 28 := ⟨Try.f28, Try.func28, by kernel_rfl, by kernel_rfl⟩
theorem call7_18 : Callable Try.prog 18 := ⟨Try.f18, Try.func18, by kernel_rfl, by kernel_rfl⟩
theorem call7_21 : Callable Try.prog 21 := ⟨Try.f21, Try.func21, by kernel_rfl, by kernel_rfl⟩
theorem call7_29 : Callable Try.prog 29 := ⟨Try.f29, Try.func29, by kernel_rfl, by kernel_rfl⟩
theorem call7_42 : Callable Try.prog 42 := ⟨Try.f42, Try.func42, by kernel_rfl, by kernel_rfl⟩
theorem ext7Ok : ExtOk Try.prog ext7 := ⟨⟨call7_40, con40⟩, ⟨call7_39, con39⟩, ⟨call7_41, con41⟩, ⟨call7_28, con28⟩, ⟨call7_18, con18⟩, ⟨call7_21, con21⟩, ⟨call7_29, con29⟩, ⟨call7_42, con42⟩, trivial⟩
/-! Function 7. -/
noncomputable def b7 : Code := bodyOf Try.f7
theorem hb7 : Try.f7.body = some b7 := by kernel_rfl
def sig7 : List AT := [AT.v (Ty.sl (Ty.int IntKind.i64)), AT.v (Ty.int IntKind.i64)]
def tys7 : List Ty := [Ty.bool]
def P7 (x0 : List Int) (x1 : Int) : Prop := (if (Decidable.decide ((↑(List.length x0) : Int) > 1048576)) = true then True else ((P40 x0) ∧ ((P39 (g40_0 x0) x1) ∧ ((P40 x0) ∧ ((P41 (g40_0 x0) x1) ∧ (if (!g28_0 (g41_0 (g40_0 x0) x1) (g39_0 (g40_0 x0) x1)) = true then True else (if (g41_1 (g40_0 x0) x1 != g39_1 (g40_0 x0) x1) = true then True else ((P40 x0) ∧ (if (!g18_0 (g40_0 x0) (g40_0 x0)) = true then True else ((P21 (g40_0 x0) 1) ∧ (List.length (u21_0 (g40_0 x0) 1) = List.length (g40_0 x0)) ∧ (if (Decidable.decide (g21_0 (g40_0 x0) 1 < 0)) = true then True else ((P29 (g41_0 (g40_0 x0) x1) 1) ∧ (List.length (u29_0 (g41_0 (g40_0 x0) x1) 1) = List.length (g41_0 (g40_0 x0) x1)) ∧ ((P42 (u29_0 (g41_0 (g40_0 x0) x1) 1) 1) ∧ (if (Decidable.decide (g42_0 (u29_0 (g41_0 (g40_0 x0) x1) 1) 1 < 0)) = true then True else (if (g42_0 (u29_0 (g41_0 (g40_0 x0) x1) 1) 1 != g29_0 (g41_0 (g40_0 x0) x1) 1) = true then True else ((P40 x0) ∧ ((P41 (g40_0 x0) x1) ∧ ((P42 (u29_0 (g41_0 (g40_0 x0) x1) 1) 1) ∧ True))))))))))))))))))
def g7_0 (x0 : List Int) (x1 : Int) : Bool := (if (Decidable.decide ((↑(List.length x0) : Int) > 1048576)) = true then Bool.true else (if (!g28_0 (g41_0 (g40_0 x0) x1) (g39_0 (g40_0 x0) x1)) = true then Bool.false else (if (g41_1 (g40_0 x0) x1 != g39_1 (g40_0 x0) x1) = true then Bool.false else (if (!g18_0 (g40_0 x0) (g40_0 x0)) = true then Bool.false else (if (Decidable.decide (g21_0 (g40_0 x0) 1 < 0)) = true then Bool.false else (if (Decidable.decide (g42_0 (u29_0 (g41_0 (g40_0 x0) x1) 1) 1 < 0)) = true then Bool.false else (if (g42_0 (u29_0 (g41_0 (g40_0 x0) x1) 1) 1 != g29_0 (g41_0 (g40_0 x0) x1) 1) = true then Bool.false else Bool.true)))))))
theorem p7_0 (x0 : List Int) (x1 : Int) : runF tab ext7 false 98 [] 2000 [] tys7 Try.f7.results [true] [.code b7] (entE 0 0 sig7 (x0, x1, ())) (entL sig7 (x0, x1, ())) = some ([Dyn.mk Ty.bool Bool.true], [], [Decidable.decide ((↑(List.length x0) : Int) > 1048576) = Bool.true]) := by kernel_rfl
theorem p7_1 (x0 : List Int) (x1 : Int) : runF tab ext7 false 98 [] 2000 [] tys7 Try.f7.results [false, true, true] [.code b7] (entE 0 0 sig7 (x0, x1, ())) (entL sig7 (x0, x1, ())) = some ([Dyn.mk Ty.bool Bool.false], [], [Decidable.decide ((↑(List.length x0) : Int) > 1048576) = Bool.false, P40 x0, P39 (g40_0 x0) x1, P40 x0, P41 (g40_0 x0) x1, True, (!g28_0 (g41_0 (g40_0 x0) x1) (g39_0 (g40_0 x0) x1)) = Bool.true, Bool.true = Bool.true]) := by kernel_rfl
theorem p7_2 (x0 : List Int) (x1 : Int) : runF tab ext7 false 98 [] 2000 [] tys7 Try.f7.results [false, false, true] [.code b7] (entE 0 0 sig7 (x0, x1, ())) (entL sig7 (x0, x1, ())) = some ([Dyn.mk Ty.bool Bool.false], [], [Decidable.decide ((↑(List.length x0) : Int) > 1048576) = Bool.false, P40 x0, P39 (g40_0 x0) x1, P40 x0, P41 (g40_0 x0) x1, True, (!g28_0 (g41_0 (g40_0 x0) x1) (g39_0 (g40_0 x0) x1)) = Bool.false, (g41_1 (g40_0 x0) x1 != g39_1 (g40_0 x0) x1) = Bool.true]) := by kernel_rfl
theorem p7_3 (x0 : List Int) (x1 : Int) : runF tab ext7 false 98 [] 2000 [] tys7 Try.f7.results [false, false, false, true] [.code b7] (entE 0 0 sig7 (x0, x1, ())) (entL sig7 (x0, x1, ())) = some ([Dyn.mk Ty.bool Bool.false], [], [Decidable.decide ((↑(List.length x0) : Int) > 1048576) = Bool.false, P40 x0, P39 (g40_0 x0) x1, P40 x0, P41 (g40_0 x0) x1, True, (!g28_0 (g41_0 (g40_0 x0) x1) (g39_0 (g40_0 x0) x1)) = Bool.false, (g41_1 (g40_0 x0) x1 != g39_1 (g40_0 x0) x1) = Bool.false, P40 x0, True, (!g18_0 (g40_0 x0) (g40_0 x0)) = Bool.true]) := by kernel_rfl
theorem p7_4 (x0 : List Int) (x1 : Int) : runF tab ext7 false 98 [] 2000 [] tys7 Try.f7.results [false, false, false, false, true, true, true] [.code b7] (entE 0 0 sig7 (x0, x1, ())) (entL sig7 (x0, x1, ())) = some ([Dyn.mk Ty.bool Bool.false], [], [Decidable.decide ((↑(List.length x0) : Int) > 1048576) = Bool.false, P40 x0, P39 (g40_0 x0) x1, P40 x0, P41 (g40_0 x0) x1, True, (!g28_0 (g41_0 (g40_0 x0) x1) (g39_0 (g40_0 x0) x1)) = Bool.false, (g41_1 (g40_0 x0) x1 != g39_1 (g40_0 x0) x1) = Bool.false, P40 x0, True, (!g18_0 (g40_0 x0) (g40_0 x0)) = Bool.false, P21 (g40_0 x0) 1, List.length (u21_0 (g40_0 x0) 1) = List.length (g40_0 x0), Decidable.decide (g21_0 (g40_0 x0) 1 < 0) = Bool.true, Bool.true = Bool.true, Bool.true = Bool.true]) := by kernel_rfl
theorem p7_5 (x0 : List Int) (x1 : Int) : runF tab ext7 false 98 [] 2000 [] tys7 Try.f7.results [false, false, false, false, false, false, false, true] [.code b7] (entE 0 0 sig7 (x0, x1, ())) (entL sig7 (x0, x1, ())) = some ([Dyn.mk Ty.bool Bool.false], [], [Decidable.decide ((↑(List.length x0) : Int) > 1048576) = Bool.false, P40 x0, P39 (g40_0 x0) x1, P40 x0, P41 (g40_0 x0) x1, True, (!g28_0 (g41_0 (g40_0 x0) x1) (g39_0 (g40_0 x0) x1)) = Bool.false, (g41_1 (g40_0 x0) x1 != g39_1 (g40_0 x0) x1) = Bool.false, P40 x0, True, (!g18_0 (g40_0 x0) (g40_0 x0)) = Bool.false, P21 (g40_0 x0) 1, List.length (u21_0 (g40_0 x0) 1) = List.length (g40_0 x0), Decidable.decide (g21_0 (g40_0 x0) 1 < 0) = Bool.false, True, (!g28_0 (g41_0 (g40_0 x0) x1) (g39_0 (g40_0 x0) x1)) = Bool.false, (g41_1 (g40_0 x0) x1 != g39_1 (g40_0 x0) x1) = Bool.false, P29 (g41_0 (g40_0 x0) x1) 1, List.length (u29_0 (g41_0 (g40_0 x0) x1) 1) = List.length (g41_0 (g40_0 x0) x1), P42 (u29_0 (g41_0 (g40_0 x0) x1) 1) 1, Decidable.decide (g42_0 (u29_0 (g41_0 (g40_0 x0) x1) 1) 1 < 0) = Bool.true]) := by kernel_rfl
theorem p7_6 (x0 : List Int) (x1 : Int) : runF tab ext7 false 98 [] 2000 [] tys7 Try.f7.results [false, false, false, false, false, false, false, false, true] [.code b7] (entE 0 0 sig7 (x0, x1, ())) (entL sig7 (x0, x1, ())) = some ([Dyn.mk Ty.bool Bool.false], [], [Decidable.decide ((↑(List.length x0) : Int) > 1048576) = Bool.false, P40 x0, P39 (g40_0 x0) x1, P40 x0, P41 (g40_0 x0) x1, True, (!g28_0 (g41_0 (g40_0 x0) x1) (g39_0 (g40_0 x0) x1)) = Bool.false, (g41_1 (g40_0 x0) x1 != g39_1 (g40_0 x0) x1) = Bool.false, P40 x0, True, (!g18_0 (g40_0 x0) (g40_0 x0)) = Bool.false, P21 (g40_0 x0) 1, List.length (u21_0 (g40_0 x0) 1) = List.length (g40_0 x0), Decidable.decide (g21_0 (g40_0 x0) 1 < 0) = Bool.false, True, (!g28_0 (g41_0 (g40_0 x0) x1) (g39_0 (g40_0 x0) x1)) = Bool.false, (g41_1 (g40_0 x0) x1 != g39_1 (g40_0 x0) x1) = Bool.false, P29 (g41_0 (g40_0 x0) x1) 1, List.length (u29_0 (g41_0 (g40_0 x0) x1) 1) = List.length (g41_0 (g40_0 x0) x1), P42 (u29_0 (g41_0 (g40_0 x0) x1) 1) 1, Decidable.decide (g42_0 (u29_0 (g41_0 (g40_0 x0) x1) 1) 1 < 0) = Bool.false, (g42_0 (u29_0 (g41_0 (g40_0 x0) x1) 1) 1 != g29_0 (g41_0 (g40_0 x0) x1) 1) = Bool.true]) := by kernel_rfl
theorem p7_7 (x0 : List Int) (x1 : Int) : runF tab ext7 false 98 [] 2000 [] tys7 Try.f7.results [false, false, false, false, false, false, false, false, false, false, false, false, false] [.code b7] (entE 0 0 sig7 (x0, x1, ())) (entL sig7 (x0, x1, ())) = some ([Dyn.mk Ty.bool Bool.true], [], [Decidable.decide ((↑(List.length x0) : Int) > 1048576) = Bool.false, P40 x0, P39 (g40_0 x0) x1, P40 x0, P41 (g40_0 x0) x1, True, (!g28_0 (g41_0 (g40_0 x0) x1) (g39_0 (g40_0 x0) x1)) = Bool.false, (g41_1 (g40_0 x0) x1 != g39_1 (g40_0 x0) x1) = Bool.false, P40 x0, True, (!g18_0 (g40_0 x0) (g40_0 x0)) = Bool.false, P21 (g40_0 x0) 1, List.length (u21_0 (g40_0 x0) 1) = List.length (g40_0 x0), Decidable.decide (g21_0 (g40_0 x0) 1 < 0) = Bool.false, True, (!g28_0 (g41_0 (g40_0 x0) x1) (g39_0 (g40_0 x0) x1)) = Bool.false, (g41_1 (g40_0 x0) x1 != g39_1 (g40_0 x0) x1) = Bool.false, P29 (g41_0 (g40_0 x0) x1) 1, List.length (u29_0 (g41_0 (g40_0 x0) x1) 1) = List.length (g41_0 (g40_0 x0) x1), P42 (u29_0 (g41_0 (g40_0 x0) x1) 1) 1, Decidable.decide (g42_0 (u29_0 (g41_0 (g40_0 x0) x1) 1) 1 < 0) = Bool.false, (g42_0 (u29_0 (g41_0 (g40_0 x0) x1) 1) 1 != g29_0 (g41_0 (g40_0 x0) x1) 1) = Bool.false, P40 x0, P41 (g40_0 x0) x1, True, (!g28_0 (g41_0 (g40_0 x0) x1) (g39_0 (g40_0 x0) x1)) = Bool.false, (g41_1 (g40_0 x0) x1 != g39_1 (g40_0 x0) x1) = Bool.false, P42 (u29_0 (g41_0 (g40_0 x0) x1) 1) 1, Decidable.decide (g42_0 (u29_0 (g41_0 (g40_0 x0) x1) 1) 1 < 0) = Bool.false, (g42_0 (u29_0 (g41_0 (g40_0 x0) x1) 1) 1 != g29_0 (g41_0 (g40_0 x0) x1) 1) = Bool.false]) := by kernel_rfl
theorem at7 (x0 : List Int) (x1 : Int) (h : P7 x0 x1) (w0 : World) (O : List Nat) (q : Nat → Value) : AtV Try.prog 7 (PostR [⟨Ty.bool, g7_0 x0 x1⟩] [] [] q w0 O) 98 w0 O q [] [.code b7] (entE 0 0 sig7 (x0, x1, ())) (entL sig7 (x0, x1, ())) := by
  unfold P7 at h
  unfold g7_0
  by_cases b0 : (Decidable.decide ((↑(List.length x0) : Int) > 1048576)) = true
  · try simp only [if_pos b0] at h ⊢
    exact AtV.fin Try.func7 tabOk ext7Ok mixed (p7_0 x0 x1) ⟨b0, trivial⟩
  · try simp only [if_neg b0] at h ⊢
    replace b0 := Bool.eq_false_iff.2 b0
    obtain ⟨s0, h⟩ := h
    obtain ⟨s1, h⟩ := h
    obtain ⟨s2, h⟩ := h
    obtain ⟨s3, h⟩ := h
    by_cases b1 : (!g28_0 (g41_0 (g40_0 x0) x1) (g39_0 (g40_0 x0) x1)) = true
    · try simp only [if_pos b1] at h ⊢
      exact AtV.fin Try.func7 tabOk ext7Ok mixed (p7_1 x0 x1) ⟨b0, s0, s1, s2, s3, trivial, b1, rfl, trivial⟩
    · try simp only [if_neg b1] at h ⊢
      replace b1 := Bool.eq_false_iff.2 b1
      by_cases b2 : (g41_1 (g40_0 x0) x1 != g39_1 (g40_0 x0) x1) = true
      · try simp only [if_pos b2] at h ⊢
        exact AtV.fin Try.func7 tabOk ext7Ok mixed (p7_2 x0 x1) ⟨b0, s0, s1, s2, s3, trivial, b1, b2, trivial⟩
      · try simp only [if_neg b2] at h ⊢
        replace b2 := Bool.eq_false_iff.2 b2
        obtain ⟨s4, h⟩ := h
        by_cases b3 : (!g18_0 (g40_0 x0) (g40_0 x0)) = true
        · try simp only [if_pos b3] at h ⊢
          exact AtV.fin Try.func7 tabOk ext7Ok mixed (p7_3 x0 x1) ⟨b0, s0, s1, s2, s3, trivial, b1, b2, s4, trivial, b3, trivial⟩
        · try simp only [if_neg b3] at h ⊢
          replace b3 := Bool.eq_false_iff.2 b3
          obtain ⟨s5, s6, h⟩ := h
          by_cases b4 : (Decidable.decide (g21_0 (g40_0 x0) 1 < 0)) = true
          · try simp only [if_pos b4] at h ⊢
            exact AtV.fin Try.func7 tabOk ext7Ok mixed (p7_4 x0 x1) ⟨b0, s0, s1, s2, s3, trivial, b1, b2, s4, trivial, b3, s5, s6, b4, rfl, rfl, trivial⟩
          · try simp only [if_neg b4] at h ⊢
            replace b4 := Bool.eq_false_iff.2 b4
            obtain ⟨s7, s8, h⟩ := h
            obtain ⟨s9, h⟩ := h
            by_cases b5 : (Decidable.decide (g42_0 (u29_0 (g41_0 (g40_0 x0) x1) 1) 1 < 0)) = true
            · try simp only [if_pos b5] at h ⊢
              exact AtV.fin Try.func7 tabOk ext7Ok mixed (p7_5 x0 x1) ⟨b0, s0, s1, s2, s3, trivial, b1, b2, s4, trivial, b3, s5, s6, b4, trivial, b1, b2, s7, s8, s9, b5, trivial⟩
            · try simp only [if_neg b5] at h ⊢
              replace b5 := Bool.eq_false_iff.2 b5
              by_cases b6 : (g42_0 (u29_0 (g41_0 (g40_0 x0) x1) 1) 1 != g29_0 (g41_0 (g40_0 x0) x1) 1) = true
              · try simp only [if_pos b6] at h ⊢
                exact AtV.fin Try.func7 tabOk ext7Ok mixed (p7_6 x0 x1) ⟨b0, s0, s1, s2, s3, trivial, b1, b2, s4, trivial, b3, s5, s6, b4, trivial, b1, b2, s7, s8, s9, b5, b6, trivial⟩
              · try simp only [if_neg b6] at h ⊢
                replace b6 := Bool.eq_false_iff.2 b6
                obtain ⟨s10, h⟩ := h
                obtain ⟨s11, h⟩ := h
                obtain ⟨s12, h⟩ := h
                exact AtV.fin Try.func7 tabOk ext7Ok mixed (p7_7 x0 x1) ⟨b0, s0, s1, s2, s3, trivial, b1, b2, s4, trivial, b3, s5, s6, b4, trivial, b1, b2, s7, s8, s9, b5, b6, s10, s11, trivial, b1, b2, s12, b5, b6, trivial⟩

def S7 : Am.Spec := { sig := sig7, pre := fun ⟨x0, x1, _⟩ => P7 x0 x1, res := fun ⟨x0, x1, _⟩ => [⟨Ty.bool, g7_0 x0 x1⟩] }
theorem con7 : Contract Try.prog 7 S7 := contract_of Try.func7 hb7 (Nat.le_of_ble_eq_true (by kernel_rfl)) (fun ⟨x0, x1, _⟩ h _ w0 O q => at7 x0 x1 h w0 O q)


end Go.Proofs.Ytjkeinpcphkfbaa

/- A law that says how functions of the program and of the specification hang together. -/
set_option linter.unusedVariables false
set_option linter.unusedSimpArgs false
set_option maxRecDepth 100000
namespace Go.Proofs.Ytjkeinpcphkfbaa
open Go Go.Am Go.Proofs

theorem reportLine (s : ByteArray) : g78_0 s = g75_0 s := by
  unfold g78_0 g111c112_0 g75_0
  rw [any134c112]
  have hq : (!(bytesOf s).any g112_0) = (bytesOf s).all ok75 := by
    rw [List.not_any_eq_all_not]
    congr 1
    funext b
    simp only [g112_0, ok75]
    by_cases h1 : b < 32 <;> by_cases h2 : b > 126 <;> simp [h1, h2] <;> omega
  rw [hq]
  by_cases h : ((s.size : Nat) : Int) ≤ 100
  · have h' : s.size ≤ 100 := by omega
    simp [h, h']
  · have h' : ¬ s.size ≤ 100 := by omega
    simp [h, h']

theorem report (x : List ByteArray) : g76_0 x = g73_0 x := by
  unfold g76_0 g73_0 g109c110_0
  rw [any133c110]
  have hq : (!x.any g110_0) = x.all g75_0 := by
    rw [List.not_any_eq_all_not]
    congr 1
    funext b
    simp only [g110_0, reportLine, Bool.not_not]
  rw [hq]
  by_cases h : ((x.length : Nat) : Int) ≤ 200
  · have h' : x.length ≤ 200 := by omega
    simp [h, h']
  · have h' : ¬ x.length ≤ 200 := by omega
    simp [h, h']

end Go.Proofs.Ytjkeinpcphkfbaa

/- A law that says how functions of the program and of the specification hang together. -/
set_option linter.unusedVariables false
set_option linter.unusedSimpArgs false
set_option maxRecDepth 100000
namespace Go.Proofs.Ytjkeinpcphkfbaa
open Go Go.Am Go.Proofs

theorem full_eq (x : List ByteArray) : g92_0 x = g88_0 x ∧ g92_1 x = g88_1 x := by
  unfold g92_0 g88_0 g92_1 g88_1
  rw [report]
  exact ⟨rfl, rfl⟩

theorem most_eq (x : List Int) : most41 x = most39 x := by
  unfold most41 most39
  congr 1
  funext b v
  unfold g87_0
  simp only [decide_eq_true_eq]
  split <;> split <;> omega

theorem bars_eq (x : List Int) (w : Int) : g41_0 x w = g39_0 x w ∧ g41_1 x w = g39_1 x w := by
  have hb : bars41 x w = bars39 x w := by
    unfold bars41 bars39
    rw [most_eq]
    rfl
  have hok : ∀ v, g90_0 v = !ok39 v := fun v => rfl
  have hg : bad41 x w = !good39 x w := by
    unfold bad41 good39
    rw [Bool.not_and]
    congr 1
    rw [List.not_all_eq_any_not]
    congr 1
  unfold g41_0 g39_0 g41_1 g39_1
  rw [hg, hb, (full_eq _).1, (full_eq _).2]
  cases good39 x w <;> simp

theorem bars_len (x : List Int) (w : Int) : (g39_0 x w).length ≤ x.length := by
  unfold g39_0 g88_0 bars39
  split
  · split
    · simp
    · simp
  · simp

end Go.Proofs.Ytjkeinpcphkfbaa

/- A law that says how functions of the program and of the specification hang together. -/
set_option linter.unusedVariables false
set_option linter.unusedSimpArgs false
set_option maxRecDepth 100000
namespace Go.Proofs.Ytjkeinpcphkfbaa
open Go Go.Am Go.Proofs

theorem marked_str (xs : List ByteArray) (h : xs.length ≤ 1048576) : P29 xs 1 ∧ (u29_0 xs 1).length = xs.length ∧ P42 (u29_0 xs 1) 1 ∧
    g42_0 (u29_0 xs 1) 1 = g29_0 xs 1 ∧ ¬ g29_0 xs 1 < 0 := by
  have hl : (u29_0 xs 1).length = xs.length := by rw [u29_0, M29_len]
  refine ⟨⟨by omega, by omega⟩, hl, ⟨⟨by omega, by rw [hl]; omega⟩, fun i hi => ?_⟩, ?_, ?_⟩
  · rw [hl] at hi
    rw [getD_lt _ _ _ (by rw [hl]; exact hi)]
    simp [u29_0, M29]
  · unfold g42_0 g29_0
    rw [hl]
  · unfold g29_0
    omega

end Go.Proofs.Ytjkeinpcphkfbaa

/- A law that says how functions of the program and of the specification hang together. -/
set_option linter.unusedVariables false
set_option linter.unusedSimpArgs false
set_option maxRecDepth 100000
namespace Go.Proofs.Ytjkeinpcphkfbaa
open Go Go.Am Go.Proofs

theorem marked_ints (xs : List Int) (h : xs.length ≤ 1048576) : P21 xs 1 ∧ (u21_0 xs 1).length = xs.length ∧ ¬ g21_0 xs 1 < 0 := by
  have hl : (u21_0 xs 1).length = xs.length := by rw [u21_0, M21_len]
  refine ⟨⟨by omega, by omega⟩, hl, ?_⟩
  unfold g21_0
  omega

end Go.Proofs.Ytjkeinpcphkfbaa

/- The plain law of FnExactBarLines. -/
set_option linter.unusedVariables false
set_option linter.unusedSimpArgs false
set_option maxRecDepth 100000
namespace Go.Proofs.Ytjkeinpcphkfbaa
open Go Go.Am Go.Proofs

theorem law7 (x : List Int) (k : Int) (hw : Wf (.sl (.int .i64)) x) (hk : Wf (.int .i64) k) : P7 x k ∧ g7_0 x k = true := by
  unfold P7 g7_0
  by_cases h0 : (x.length : Int) > 1048576
  · simp only [h0, decide_true, if_true, and_self]
  · have hp : P40 x := by
      show 8 * (x.length : Int) ≤ 281474976710656
      omega
    have hl := bars_len x k
    obtain ⟨e0, e1⟩ := bars_eq x k
    have q1 : P39 x k := by show x.length ≤ 1048576; omega
    have q2 : P41 x k := by show x.length ≤ 1048576; omega
    obtain ⟨b1, b2, b5⟩ := marked_ints x (by omega)
    obtain ⟨m1, m2, m3, m4, m5⟩ := marked_str (g39_0 x k) (by omega)
    simp only [h0, decide_false, Bool.false_eq_true, if_false, g40_0, e0, e1, q1, q2, g28_0, g18_0, decide_true, Bool.not_true, bne_self_eq_false, b1, b2, b5, m1, m2, m3, m4, m5, hp, true_and, and_self]

end Go.Proofs.Ytjkeinpcphkfbaa
