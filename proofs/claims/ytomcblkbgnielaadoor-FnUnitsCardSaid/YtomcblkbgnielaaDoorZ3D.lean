/- Several texts in one: the functions that this law reaches, and their laws. -/
import Derived.Test.YtomcblkbgnielaaDoorZ3A
import Derived.Test.YtomcblkbgnielaaDoorZ3B
import Derived.Test.YtomcblkbgnielaaDoorZ3C
import Derived.Lib.ItoaNum
import Derived.Lib.TrimByte

/- Function 34 (strings.TrimPrefix): its contract, off what is known of the library. -/
set_option linter.unusedVariables false
set_option linter.unusedSimpArgs false
set_option maxRecDepth 100000
namespace Go.Proofs.YtomcblkbgnielaaDoor
open Go Go.Am Go.Proofs
def sig34 : List AT := [AT.v Ty.str, AT.v Ty.str]
def g34_0 (x0 x1 : ByteArray) : ByteArray := ⟨(Lib.trimPrefix x0.data.toList x1.data.toList).toArray⟩
def P34 (x0 x1 : ByteArray) : Prop := True
def S34 : Am.Spec := { sig := sig34, pre := fun ⟨x0, x1, _⟩ => P34 x0 x1, res := fun ⟨x0, x1, _⟩ => [⟨Ty.str, g34_0 x0 x1⟩] }
theorem con34 : Contract Tryd.prog 34 S34 := contract_flat rfl fun w ⟨x0, x1, _⟩ vs bss hg hp hw ha => by
  obtain ⟨v0, s0, _, _, rfl, _, ⟨_, rfl, _⟩, v1, s1, _, _, rfl, _, ⟨_, rfl, _⟩, rfl, _⟩ := ha
  have hi : x0.size ≤ maxLen := hw.1
  refine ⟨fun d hd => ?_, ?_⟩
  · rw [List.mem_singleton.1 hd]
    refine ⟨rfl, ?_⟩
    show (List.toArray _).size ≤ maxLen
    rw [List.size_toArray]
    have e : x0.data.toList.length = x0.size := rfl
    unfold Lib.trimPrefix
    split
    · rw [List.length_drop]; omega
    · omega
  · refine (Tryd.strings_TrimPrefix x0 x1 w).mono ?_
    rintro e w' ⟨rfl, rfl⟩
    exact ⟨rfl, Kept.refl _ _⟩

end Go.Proofs.YtomcblkbgnielaaDoor

/- Function 35 (strings.HasPrefix): its contract, off what is known of the library. -/
set_option linter.unusedVariables false
set_option linter.unusedSimpArgs false
set_option maxRecDepth 100000
namespace Go.Proofs.YtomcblkbgnielaaDoor
open Go Go.Am Go.Proofs
def sig35 : List AT := [AT.v Ty.str, AT.v Ty.str]
def g35_0 (x0 x1 : ByteArray) : Bool := Lib.hasPrefix x0.data.toList x1.data.toList
def P35 (x0 x1 : ByteArray) : Prop := True
def S35 : Am.Spec := { sig := sig35, pre := fun ⟨x0, x1, _⟩ => P35 x0 x1, res := fun ⟨x0, x1, _⟩ => [⟨Ty.bool, g35_0 x0 x1⟩] }
theorem con35 : Contract Tryd.prog 35 S35 := contract_flat rfl fun w ⟨x0, x1, _⟩ vs bss hg hp hw ha => by
  obtain ⟨v0, s0, _, _, rfl, _, ⟨_, rfl, _⟩, v1, s1, _, _, rfl, _, ⟨_, rfl, _⟩, rfl, _⟩ := ha
  refine ⟨fun d hd => ?_, ?_⟩
  · rw [List.mem_singleton.1 hd]
    exact ⟨rfl, trivial⟩
  · refine (Tryd.strings_HasPrefix x0 x1 w).mono ?_
    rintro e w' ⟨rfl, rfl⟩
    exact ⟨rfl, Kept.refl _ _⟩

end Go.Proofs.YtomcblkbgnielaaDoor

/- Function 10 (impl.ReadFixed): its runs between cut points. Written by a program of this repo (gen). -/
set_option linter.unusedVariables false
set_option linter.unusedSimpArgs false
set_option maxRecDepth 100000
namespace Go.Proofs.YtomcblkbgnielaaDoor
open Go Go.Am Go.Proofs
def ext10 : Ext := [(34, S34), (28, S28), (29, S29), (35, S35), (9, S9)]
theorem call10_34 : Callable Tryd.prog 34 := ⟨Tryd.f34, Tryd.func34, by kernel_rfl, by kernel_rfl⟩
theorem call10_28 : Callable Tryd.prog 28 := ⟨Tryd.f28, Tryd.func28, by kernel_rfl, by kernel_rfl⟩
theorem call10_29 : Callable Tryd.prog 29 := ⟨Tryd.f29, Tryd.func29, by kernel_rfl, by kernel_rfl⟩
theorem call10_35 : Callable Tryd.prog 35 := ⟨Tryd.f35, Tryd.func35, by kernel_rfl, by kernel_rfl⟩
theorem call10_9 : Callable Tryd.prog 9 := ⟨Tryd.f9, Tryd.func9, by kernel_rfl, by kernel_rfl⟩
theorem ext10Ok : ExtOk Tryd.prog ext10 := ⟨⟨call10_34, con34⟩, ⟨call10_28, con28⟩, ⟨call10_29, con29⟩, ⟨call10_35, con35⟩, ⟨call10_9, con9⟩, trivial⟩

noncomputable def b10 : Code := bodyOf Tryd.f10
theorem hb10 : Tryd.f10.body = some b10 := by kernel_rfl
def sig10 : List AT := [AT.v (Ty.str), AT.v (Ty.int IntKind.i64)]
def tys10 : List Ty := [Ty.int IntKind.i64, Ty.bool]
def kds10 : List RK := []
def oks10 : List AT := owns sig10
def P10 (x0 : ByteArray) (x1 : Int) : Prop := ((P28 (g34_0 x0 (ByteArray.mk #[45])) (ByteArray.mk #[46])) ∧ ((ByteArray.size (g28_0 (g34_0 x0 (ByteArray.mk #[45])) (ByteArray.mk #[46])) + ByteArray.size (g28_1 (g34_0 x0 (ByteArray.mk #[45])) (ByteArray.mk #[46])) ≤ 9223372036854775807) ∧ (if (g35_0 x0 (ByteArray.mk #[45])) = true then ((InR IntKind.i64 (0 - g29_0 (g28_0 (g34_0 x0 (ByteArray.mk #[45])) (ByteArray.mk #[46]) ++ g28_1 (g34_0 x0 (ByteArray.mk #[45])) (ByteArray.mk #[46])))) ∧ True) else True)))
def g10_0 (x0 : ByteArray) (x1 : Int) : Int := (if (g35_0 x0 (ByteArray.mk #[45])) = true then (if (ByteArray.toList x0 == ByteArray.toList (ByteArray.mk #[])) = true then 0 else (if (!ByteArray.toList (g9_0 (0 - g29_0 (g28_0 (g34_0 x0 (ByteArray.mk #[45])) (ByteArray.mk #[46]) ++ g28_1 (g34_0 x0 (ByteArray.mk #[45])) (ByteArray.mk #[46]))) x1) == ByteArray.toList x0) = true then 0 else 0 - g29_0 (g28_0 (g34_0 x0 (ByteArray.mk #[45])) (ByteArray.mk #[46]) ++ g28_1 (g34_0 x0 (ByteArray.mk #[45])) (ByteArray.mk #[46])))) else (if (ByteArray.toList x0 == ByteArray.toList (ByteArray.mk #[])) = true then 0 else (if (!ByteArray.toList (g9_0 (g29_0 (g28_0 (g34_0 x0 (ByteArray.mk #[45])) (ByteArray.mk #[46]) ++ g28_1 (g34_0 x0 (ByteArray.mk #[45])) (ByteArray.mk #[46]))) x1) == ByteArray.toList x0) = true then 0 else g29_0 (g28_0 (g34_0 x0 (ByteArray.mk #[45])) (ByteArray.mk #[46]) ++ g28_1 (g34_0 x0 (ByteArray.mk #[45])) (ByteArray.mk #[46])))))
def g10_1 (x0 : ByteArray) (x1 : Int) : Bool := (if (g35_0 x0 (ByteArray.mk #[45])) = true then (if (ByteArray.toList x0 == ByteArray.toList (ByteArray.mk #[])) = true then Bool.false else (if (!ByteArray.toList (g9_0 (0 - g29_0 (g28_0 (g34_0 x0 (ByteArray.mk #[45])) (ByteArray.mk #[46]) ++ g28_1 (g34_0 x0 (ByteArray.mk #[45])) (ByteArray.mk #[46]))) x1) == ByteArray.toList x0) = true then Bool.false else Bool.true)) else (if (ByteArray.toList x0 == ByteArray.toList (ByteArray.mk #[])) = true then Bool.false else (if (!ByteArray.toList (g9_0 (g29_0 (g28_0 (g34_0 x0 (ByteArray.mk #[45])) (ByteArray.mk #[46]) ++ g28_1 (g34_0 x0 (ByteArray.mk #[45])) (ByteArray.mk #[46]))) x1) == ByteArray.toList x0) = true then Bool.false else Bool.true)))
theorem p10_0 (x0 : ByteArray) (x1 : Int) : runF tab ext10 false 35 [] 2000 [] oks10 kds10 tys10 Tryd.f10.results [true, true, true] [.code b10] (entE 0 0 sig10 (x0, x1, ())) (entL sig10 (x0, x1, ())) = some ([Dyn.mk (Ty.int IntKind.i64) 0, Dyn.mk Ty.bool Bool.false], [], [True, P28 (g34_0 x0 (ByteArray.mk #[45])) (ByteArray.mk #[46]), ByteArray.size (g28_0 (g34_0 x0 (ByteArray.mk #[45])) (ByteArray.mk #[46])) + ByteArray.size (g28_1 (g34_0 x0 (ByteArray.mk #[45])) (ByteArray.mk #[46])) ≤ 9223372036854775807, True, True, g35_0 x0 (ByteArray.mk #[45]) = Bool.true, InR IntKind.i64 (0 - g29_0 (g28_0 (g34_0 x0 (ByteArray.mk #[45])) (ByteArray.mk #[46]) ++ g28_1 (g34_0 x0 (ByteArray.mk #[45])) (ByteArray.mk #[46]))), (ByteArray.toList x0 == ByteArray.toList (ByteArray.mk #[])) = Bool.true, Bool.true = Bool.true]) := by kernel_rfl
theorem p10_1 (x0 : ByteArray) (x1 : Int) : runF tab ext10 false 35 [] 2000 [] oks10 kds10 tys10 Tryd.f10.results [true, false, true] [.code b10] (entE 0 0 sig10 (x0, x1, ())) (entL sig10 (x0, x1, ())) = some ([Dyn.mk (Ty.int IntKind.i64) 0, Dyn.mk Ty.bool Bool.false], [], [True, P28 (g34_0 x0 (ByteArray.mk #[45])) (ByteArray.mk #[46]), ByteArray.size (g28_0 (g34_0 x0 (ByteArray.mk #[45])) (ByteArray.mk #[46])) + ByteArray.size (g28_1 (g34_0 x0 (ByteArray.mk #[45])) (ByteArray.mk #[46])) ≤ 9223372036854775807, True, True, g35_0 x0 (ByteArray.mk #[45]) = Bool.true, InR IntKind.i64 (0 - g29_0 (g28_0 (g34_0 x0 (ByteArray.mk #[45])) (ByteArray.mk #[46]) ++ g28_1 (g34_0 x0 (ByteArray.mk #[45])) (ByteArray.mk #[46]))), (ByteArray.toList x0 == ByteArray.toList (ByteArray.mk #[])) = Bool.false, True, (!ByteArray.toList (g9_0 (0 - g29_0 (g28_0 (g34_0 x0 (ByteArray.mk #[45])) (ByteArray.mk #[46]) ++ g28_1 (g34_0 x0 (ByteArray.mk #[45])) (ByteArray.mk #[46]))) x1) == ByteArray.toList x0) = Bool.true]) := by kernel_rfl
theorem p10_2 (x0 : ByteArray) (x1 : Int) : runF tab ext10 false 35 [] 2000 [] oks10 kds10 tys10 Tryd.f10.results [true, false, false] [.code b10] (entE 0 0 sig10 (x0, x1, ())) (entL sig10 (x0, x1, ())) = some ([Dyn.mk (Ty.int IntKind.i64) (0 - g29_0 (g28_0 (g34_0 x0 (ByteArray.mk #[45])) (ByteArray.mk #[46]) ++ g28_1 (g34_0 x0 (ByteArray.mk #[45])) (ByteArray.mk #[46]))), Dyn.mk Ty.bool Bool.true], [], [True, P28 (g34_0 x0 (ByteArray.mk #[45])) (ByteArray.mk #[46]), ByteArray.size (g28_0 (g34_0 x0 (ByteArray.mk #[45])) (ByteArray.mk #[46])) + ByteArray.size (g28_1 (g34_0 x0 (ByteArray.mk #[45])) (ByteArray.mk #[46])) ≤ 9223372036854775807, True, True, g35_0 x0 (ByteArray.mk #[45]) = Bool.true, InR IntKind.i64 (0 - g29_0 (g28_0 (g34_0 x0 (ByteArray.mk #[45])) (ByteArray.mk #[46]) ++ g28_1 (g34_0 x0 (ByteArray.mk #[45])) (ByteArray.mk #[46]))), (ByteArray.toList x0 == ByteArray.toList (ByteArray.mk #[])) = Bool.false, True, (!ByteArray.toList (g9_0 (0 - g29_0 (g28_0 (g34_0 x0 (ByteArray.mk #[45])) (ByteArray.mk #[46]) ++ g28_1 (g34_0 x0 (ByteArray.mk #[45])) (ByteArray.mk #[46]))) x1) == ByteArray.toList x0) = Bool.false]) := by kernel_rfl
theorem p10_3 (x0 : ByteArray) (x1 : Int) : runF tab ext10 false 35 [] 2000 [] oks10 kds10 tys10 Tryd.f10.results [false, true, true] [.code b10] (entE 0 0 sig10 (x0, x1, ())) (entL sig10 (x0, x1, ())) = some ([Dyn.mk (Ty.int IntKind.i64) 0, Dyn.mk Ty.bool Bool.false], [], [True, P28 (g34_0 x0 (ByteArray.mk #[45])) (ByteArray.mk #[46]), ByteArray.size (g28_0 (g34_0 x0 (ByteArray.mk #[45])) (ByteArray.mk #[46])) + ByteArray.size (g28_1 (g34_0 x0 (ByteArray.mk #[45])) (ByteArray.mk #[46])) ≤ 9223372036854775807, True, True, g35_0 x0 (ByteArray.mk #[45]) = Bool.false, (ByteArray.toList x0 == ByteArray.toList (ByteArray.mk #[])) = Bool.true, Bool.true = Bool.true]) := by kernel_rfl
theorem p10_4 (x0 : ByteArray) (x1 : Int) : runF tab ext10 false 35 [] 2000 [] oks10 kds10 tys10 Tryd.f10.results [false, false, true] [.code b10] (entE 0 0 sig10 (x0, x1, ())) (entL sig10 (x0, x1, ())) = some ([Dyn.mk (Ty.int IntKind.i64) 0, Dyn.mk Ty.bool Bool.false], [], [True, P28 (g34_0 x0 (ByteArray.mk #[45])) (ByteArray.mk #[46]), ByteArray.size (g28_0 (g34_0 x0 (ByteArray.mk #[45])) (ByteArray.mk #[46])) + ByteArray.size (g28_1 (g34_0 x0 (ByteArray.mk #[45])) (ByteArray.mk #[46])) ≤ 9223372036854775807, True, True, g35_0 x0 (ByteArray.mk #[45]) = Bool.false, (ByteArray.toList x0 == ByteArray.toList (ByteArray.mk #[])) = Bool.false, True, (!ByteArray.toList (g9_0 (g29_0 (g28_0 (g34_0 x0 (ByteArray.mk #[45])) (ByteArray.mk #[46]) ++ g28_1 (g34_0 x0 (ByteArray.mk #[45])) (ByteArray.mk #[46]))) x1) == ByteArray.toList x0) = Bool.true]) := by kernel_rfl
theorem p10_5 (x0 : ByteArray) (x1 : Int) : runF tab ext10 false 35 [] 2000 [] oks10 kds10 tys10 Tryd.f10.results [false, false, false] [.code b10] (entE 0 0 sig10 (x0, x1, ())) (entL sig10 (x0, x1, ())) = some ([Dyn.mk (Ty.int IntKind.i64) (g29_0 (g28_0 (g34_0 x0 (ByteArray.mk #[45])) (ByteArray.mk #[46]) ++ g28_1 (g34_0 x0 (ByteArray.mk #[45])) (ByteArray.mk #[46]))), Dyn.mk Ty.bool Bool.true], [], [True, P28 (g34_0 x0 (ByteArray.mk #[45])) (ByteArray.mk #[46]), ByteArray.size (g28_0 (g34_0 x0 (ByteArray.mk #[45])) (ByteArray.mk #[46])) + ByteArray.size (g28_1 (g34_0 x0 (ByteArray.mk #[45])) (ByteArray.mk #[46])) ≤ 9223372036854775807, True, True, g35_0 x0 (ByteArray.mk #[45]) = Bool.false, (ByteArray.toList x0 == ByteArray.toList (ByteArray.mk #[])) = Bool.false, True, (!ByteArray.toList (g9_0 (g29_0 (g28_0 (g34_0 x0 (ByteArray.mk #[45])) (ByteArray.mk #[46]) ++ g28_1 (g34_0 x0 (ByteArray.mk #[45])) (ByteArray.mk #[46]))) x1) == ByteArray.toList x0) = Bool.false]) := by kernel_rfl
theorem at10 (x0 : ByteArray) (x1 : Int) (h : P10 x0 x1) (K : Ctx) (q : Nat → Value) : AtV Tryd.prog 10 (PostR kds10 oks10 [⟨Ty.int IntKind.i64, g10_0 x0 x1⟩, ⟨Ty.bool, g10_1 x0 x1⟩] [] [] q K) 35 K q [] [.code b10] (entE 0 0 sig10 (x0, x1, ())) (entL sig10 (x0, x1, ())) := by
  unfold P10 at h
  unfold g10_0 g10_1
  obtain ⟨s0, h⟩ := h
  obtain ⟨s1, h⟩ := h
  by_cases b0 : (g35_0 x0 (ByteArray.mk #[45])) = true
  · try simp only [if_pos b0] at h ⊢
    obtain ⟨s2, h⟩ := h
    by_cases b1 : (ByteArray.toList x0 == ByteArray.toList (ByteArray.mk #[])) = true
    · try simp only [if_pos b1] at h ⊢
      exact AtV.fin Tryd.func10 tabOk ext10Ok mixed (p10_0 x0 x1) ⟨trivial, s0, s1, trivial, trivial, b0, s2, b1, rfl, trivial⟩
    · try simp only [if_neg b1] at h ⊢
      replace b1 := Bool.eq_false_iff.2 b1
      by_cases b2 : (!ByteArray.toList (g9_0 (0 - g29_0 (g28_0 (g34_0 x0 (ByteArray.mk #[45])) (ByteArray.mk #[46]) ++ g28_1 (g34_0 x0 (ByteArray.mk #[45])) (ByteArray.mk #[46]))) x1) == ByteArray.toList x0) = true
      · try simp only [if_pos b2] at h ⊢
        exact AtV.fin Tryd.func10 tabOk ext10Ok mixed (p10_1 x0 x1) ⟨trivial, s0, s1, trivial, trivial, b0, s2, b1, trivial, b2, trivial⟩
      · try simp only [if_neg b2] at h ⊢
        replace b2 := Bool.eq_false_iff.2 b2
        exact AtV.fin Tryd.func10 tabOk ext10Ok mixed (p10_2 x0 x1) ⟨trivial, s0, s1, trivial, trivial, b0, s2, b1, trivial, b2, trivial⟩
  · try simp only [if_neg b0] at h ⊢
    replace b0 := Bool.eq_false_iff.2 b0
    by_cases b1 : (ByteArray.toList x0 == ByteArray.toList (ByteArray.mk #[])) = true
    · try simp only [if_pos b1] at h ⊢
      exact AtV.fin Tryd.func10 tabOk ext10Ok mixed (p10_3 x0 x1) ⟨trivial, s0, s1, trivial, trivial, b0, b1, rfl, trivial⟩
    · try simp only [if_neg b1] at h ⊢
      replace b1 := Bool.eq_false_iff.2 b1
      by_cases b2 : (!ByteArray.toList (g9_0 (g29_0 (g28_0 (g34_0 x0 (ByteArray.mk #[45])) (ByteArray.mk #[46]) ++ g28_1 (g34_0 x0 (ByteArray.mk #[45])) (ByteArray.mk #[46]))) x1) == ByteArray.toList x0) = true
      · try simp only [if_pos b2] at h ⊢
        exact AtV.fin Tryd.func10 tabOk ext10Ok mixed (p10_4 x0 x1) ⟨trivial, s0, s1, trivial, trivial, b0, b1, trivial, b2, trivial⟩
      · try simp only [if_neg b2] at h ⊢
        replace b2 := Bool.eq_false_iff.2 b2
        exact AtV.fin Tryd.func10 tabOk ext10Ok mixed (p10_5 x0 x1) ⟨trivial, s0, s1, trivial, trivial, b0, b1, trivial, b2, trivial⟩

def S10 : Am.Spec := { sig := sig10, pre := fun ⟨x0, x1, _⟩ => P10 x0 x1, res := fun ⟨x0, x1, _⟩ => [⟨Ty.int IntKind.i64, g10_0 x0 x1⟩, ⟨Ty.bool, g10_1 x0 x1⟩], kds := kds10 }
theorem con10 : Contract Tryd.prog 10 S10 := contract_of Tryd.func10 hb10 (Nat.le_of_ble_eq_true (by kernel_rfl)) (fun ⟨x0, x1, _⟩ h _ K q => at10 x0 x1 h K q)


end Go.Proofs.YtomcblkbgnielaaDoor

/- Function 36 (spec.l02DrawMass): its runs between cut points. Written by a program of this repo (gen). -/
set_option linter.unusedVariables false
set_option linter.unusedSimpArgs false
set_option maxRecDepth 100000
namespace Go.Proofs.YtomcblkbgnielaaDoor
open Go Go.Am Go.Proofs
def ext36 : Ext := [(23, S23), (24, S24), (25, S25)]
theorem call36_23 : Callable Tryd.prog 23 := ⟨Tryd.f23, Tryd.func23, by kernel_rfl, by kernel_rfl⟩
theorem call36_24 : Callable Tryd.prog 24 := ⟨Tryd.f24, Tryd.func24, by kernel_rfl, by kernel_rfl⟩
theorem call36_25 : Callable Tryd.prog 25 := ⟨Tryd.f25, Tryd.func25, by kernel_rfl, by kernel_rfl⟩
theorem ext36Ok : ExtOk Tryd.prog ext36 := ⟨⟨call36_23, con23⟩, ⟨call36_24, con24⟩, ⟨call36_25, con25⟩, trivial⟩

noncomputable def b36 : Code := bodyOf Tryd.f36
theorem hb36 : Tryd.f36.body = some b36 := by kernel_rfl
def sig36 : List AT := [AT.pb (Ty.cons (Ty.sl (Ty.int IntKind.u8)) (Ty.cons (Ty.int IntKind.i64) (Ty.cons (Ty.int IntKind.u64) Ty.unit)))]
def tys36 : List Ty := [Ty.int IntKind.i64]
def kds36 : List RK := []
def oks36 : List AT := owns sig36
def P36 (x0 : List Int × Int × Int × Unit) : Prop := ((P23 x0 9) ∧ (if (g23_0 x0 9) = true then ((P24 (u23_0 x0 9) [-1, 0, 1, 1000000000, 1000000001]) ∧ True) else ((P25 (u23_0 x0 9) 9000) ∧ True)))
def g36_0 (x0 : List Int × Int × Int × Unit) : Int := (if (g23_0 x0 9) = true then g24_0 (u23_0 x0 9) [-1, 0, 1, 1000000000, 1000000001] else g25_0 (u23_0 x0 9) 9000)
def u36_0 (x0 : List Int × Int × Int × Unit) : List Int × Int × Int × Unit := (if (g23_0 x0 9) = true then u24_0 (u23_0 x0 9) [-1, 0, 1, 1000000000, 1000000001] else u25_0 (u23_0 x0 9) 9000)
theorem p36_0 (x0 : List Int × Int × Int × Unit) : runF tab ext36 false 10 [] 2000 [0] oks36 kds36 tys36 Tryd.f36.results [true] [.code b36] (entE 0 0 sig36 (x0, ())) (entL sig36 (x0, ())) = some ([Dyn.mk (Ty.int IntKind.i64) (g24_0 (u23_0 x0 9) [-1, 0, 1, 1000000000, 1000000001])], [Option.some (Lst.mk (Ty.cons (Ty.sl (Ty.int IntKind.u8)) (Ty.cons (Ty.int IntKind.i64) (Ty.cons (Ty.int IntKind.u64) Ty.unit))) [u24_0 (u23_0 x0 9) [-1, 0, 1, 1000000000, 1000000001]])], [P23 x0 9, g23_0 x0 9 = Bool.true, P24 (u23_0 x0 9) [-1, 0, 1, 1000000000, 1000000001]]) := by kernel_rfl
theorem p36_1 (x0 : List Int × Int × Int × Unit) : runF tab ext36 false 10 [] 2000 [0] oks36 kds36 tys36 Tryd.f36.results [false] [.code b36] (entE 0 0 sig36 (x0, ())) (entL sig36 (x0, ())) = some ([Dyn.mk (Ty.int IntKind.i64) (g25_0 (u23_0 x0 9) 9000)], [Option.some (Lst.mk (Ty.cons (Ty.sl (Ty.int IntKind.u8)) (Ty.cons (Ty.int IntKind.i64) (Ty.cons (Ty.int IntKind.u64) Ty.unit))) [u25_0 (u23_0 x0 9) 9000])], [P23 x0 9, g23_0 x0 9 = Bool.false, P25 (u23_0 x0 9) 9000]) := by kernel_rfl
theorem at36 (x0 : List Int × Int × Int × Unit) (h : P36 x0) (K : Ctx) (q : Nat → Value) : AtV Tryd.prog 36 (PostR kds36 oks36 [⟨Ty.int IntKind.i64, g36_0 x0⟩] [some ⟨Ty.cons (Ty.sl (Ty.int IntKind.u8)) (Ty.cons (Ty.int IntKind.i64) (Ty.cons (Ty.int IntKind.u64) Ty.unit)), [u36_0 x0]⟩] [0] q K) 10 K q [0] [.code b36] (entE 0 0 sig36 (x0, ())) (entL sig36 (x0, ())) := by
  unfold P36 at h
  unfold g36_0 u36_0
  obtain ⟨s0, h⟩ := h
  by_cases b0 : (g23_0 x0 9) = true
  · try simp only [if_pos b0] at h ⊢
    obtain ⟨s1, h⟩ := h
    exact AtV.weak (AtV.fin Tryd.func36 tabOk ext36Ok mixed (p36_0 x0) ⟨s0, b0, s1, trivial⟩) ⟨.inl rfl, trivial⟩
  · try simp only [if_neg b0] at h ⊢
    replace b0 := Bool.eq_false_iff.2 b0
    obtain ⟨s1, h⟩ := h
    exact AtV.weak (AtV.fin Tryd.func36 tabOk ext36Ok mixed (p36_1 x0) ⟨s0, b0, s1, trivial⟩) ⟨.inl rfl, trivial⟩

def S36 : Am.Spec := { sig := sig36, pre := fun ⟨x0, _⟩ => P36 x0, upd := fun ⟨x0, _⟩ => [some ⟨Ty.cons (Ty.sl (Ty.int IntKind.u8)) (Ty.cons (Ty.int IntKind.i64) (Ty.cons (Ty.int IntKind.u64) Ty.unit)), [u36_0 x0]⟩], res := fun ⟨x0, _⟩ => [⟨Ty.int IntKind.i64, g36_0 x0⟩], kds := kds36 }
theorem con36 : Contract Tryd.prog 36 S36 := contract_of Tryd.func36 hb36 (Nat.le_of_ble_eq_true (by kernel_rfl)) (fun ⟨x0, _⟩ h _ K q => at36 x0 h K q)


end Go.Proofs.YtomcblkbgnielaaDoor

/- Function 11 (spec.DrawLapText): its runs between cut points. Written by a program of this repo (gen). -/
set_option linter.unusedVariables false
set_option linter.unusedSimpArgs false
set_option maxRecDepth 100000
namespace Go.Proofs.YtomcblkbgnielaaDoor
open Go Go.Am Go.Proofs
def ext11 : Ext := [(22, S22), (36, S36)]
theorem call11_22 : Callable Tryd.prog 22 := ⟨Tryd.f22, Tryd.func22, by kernel_rfl, by kernel_rfl⟩
theorem call11_36 : Callable Tryd.prog 36 := ⟨Tryd.f36, Tryd.func36, by kernel_rfl, by kernel_rfl⟩
theorem ext11Ok : ExtOk Tryd.prog ext11 := ⟨⟨call11_22, con22⟩, ⟨call11_36, con36⟩, trivial⟩

noncomputable def b11 : Code := bodyOf Tryd.f11
theorem hb11 : Tryd.f11.body = some b11 := by kernel_rfl
def sig11 : List AT := [AT.v (Ty.sl (Ty.int IntKind.u8))]
def tys11 : List Ty := [Ty.int IntKind.i64]
def kds11 : List RK := []
def oks11 : List AT := owns sig11
def P11 (x0 : List Int) : Prop := ((P36 (x0, 0, 0, ())) ∧ True)
def g11_0 (x0 : List Int) : Int := g36_0 (x0, 0, 0, ())
theorem p11_0 (x0 : List Int) : runF tab ext11 false 8 [] 2000 [] oks11 kds11 tys11 Tryd.f11.results [] [.code b11] (entE 0 0 sig11 (x0, ())) (entL sig11 (x0, ())) = some ([Dyn.mk (Ty.int IntKind.i64) (g36_0 (x0, 0, 0, ()))], [], [True, P36 (x0, 0, 0, ())]) := by kernel_rfl
theorem at11 (x0 : List Int) (h : P11 x0) (K : Ctx) (q : Nat → Value) : AtV Tryd.prog 11 (PostR kds11 oks11 [⟨Ty.int IntKind.i64, g11_0 x0⟩] [] [] q K) 8 K q [] [.code b11] (entE 0 0 sig11 (x0, ())) (entL sig11 (x0, ())) := by
  unfold P11 at h
  unfold g11_0
  obtain ⟨s0, h⟩ := h
  exact AtV.fin Tryd.func11 tabOk ext11Ok mixed (p11_0 x0) ⟨trivial, s0, trivial⟩

def S11 : Am.Spec := { sig := sig11, pre := fun ⟨x0, _⟩ => P11 x0, res := fun ⟨x0, _⟩ => [⟨Ty.int IntKind.i64, g11_0 x0⟩], kds := kds11 }
theorem con11 : Contract Tryd.prog 11 S11 := contract_of Tryd.func11 hb11 (Nat.le_of_ble_eq_true (by kernel_rfl)) (fun ⟨x0, _⟩ h _ K q => at11 x0 h K q)


end Go.Proofs.YtomcblkbgnielaaDoor

/- Function 37 (impl.isUnit): its runs between cut points. Written by a program of this repo (gen). -/
set_option linter.unusedVariables false
set_option linter.unusedSimpArgs false
set_option maxRecDepth 100000
namespace Go.Proofs.YtomcblkbgnielaaDoor
open Go Go.Am Go.Proofs
def ext37 : Ext := [(26, S26)]
theorem call37_26 : Callable Tryd.prog 26 := ⟨Tryd.f26, Tryd.func26, by kernel_rfl, by kernel_rfl⟩
theorem ext37Ok : ExtOk Tryd.prog ext37 := ⟨⟨call37_26, con26⟩, trivial⟩

noncomputable def b37 : Code := bodyOf Tryd.f37
theorem hb37 : Tryd.f37.body = some b37 := by kernel_rfl
def sig37 : List AT := [AT.v (Ty.int IntKind.i64)]
def tys37 : List Ty := [Ty.bool]
def kds37 : List RK := []
def oks37 : List AT := owns sig37
def P37 (x0 : Int) : Prop := True
def g37_0 (x0 : Int) : Bool := g26_0 x0 0 1000000000
theorem p37_0 (x0 : Int) : runF tab ext37 false 5 [] 2000 [] oks37 kds37 tys37 Tryd.f37.results [] [.code b37] (entE 0 0 sig37 (x0, ())) (entL sig37 (x0, ())) = some ([Dyn.mk Ty.bool (g26_0 x0 0 1000000000)], [], [True]) := by kernel_rfl
theorem at37 (x0 : Int) (h : P37 x0) (K : Ctx) (q : Nat → Value) : AtV Tryd.prog 37 (PostR kds37 oks37 [⟨Ty.bool, g37_0 x0⟩] [] [] q K) 5 K q [] [.code b37] (entE 0 0 sig37 (x0, ())) (entL sig37 (x0, ())) := by
  unfold P37 at h
  unfold g37_0
  exact AtV.fin Tryd.func37 tabOk ext37Ok mixed (p37_0 x0) ⟨trivial, trivial⟩

def S37 : Am.Spec := { sig := sig37, pre := fun ⟨x0, _⟩ => P37 x0, res := fun ⟨x0, _⟩ => [⟨Ty.bool, g37_0 x0⟩], kds := kds37 }
theorem con37 : Contract Tryd.prog 37 S37 := contract_of Tryd.func37 hb37 (Nat.le_of_ble_eq_true (by kernel_rfl)) (fun ⟨x0, _⟩ h _ K q => at37 x0 h K q)


end Go.Proofs.YtomcblkbgnielaaDoor

/- Function 12 (impl.LapText): its runs between cut points. Written by a program of this repo (gen). -/
set_option linter.unusedVariables false
set_option linter.unusedSimpArgs false
set_option maxRecDepth 100000
namespace Go.Proofs.YtomcblkbgnielaaDoor
open Go Go.Am Go.Proofs
def ext12 : Ext := [(37, S37), (32, S32), (27, S27)]
theorem call12_37 : Callable Tryd.prog 37 := ⟨Tryd.f37, Tryd.func37, by kernel_rfl, by kernel_rfl⟩
theorem call12_32 : Callable Tryd.prog 32 := ⟨Tryd.f32, Tryd.func32, by kernel_rfl, by kernel_rfl⟩
theorem call12_27 : Callable Tryd.prog 27 := ⟨Tryd.f27, Tryd.func27, by kernel_rfl, by kernel_rfl⟩
theorem ext12Ok : ExtOk Tryd.prog ext12 := ⟨⟨call12_37, con37⟩, ⟨call12_32, con32⟩, ⟨call12_27, con27⟩, trivial⟩

noncomputable def b12 : Code := bodyOf Tryd.f12
theorem hb12 : Tryd.f12.body = some b12 := by kernel_rfl
def sig12 : List AT := [AT.v (Ty.int IntKind.i64)]
def tys12 : List Ty := [Ty.str]
def kds12 : List RK := []
def oks12 : List AT := owns sig12
def P12 (x0 : Int) : Prop := (if (!g37_0 x0) = true then True else ((InR IntKind.i64 (Int.tdiv x0 60)) ∧ ((P32 (Int.tdiv x0 60)) ∧ ((ByteArray.size (g32_0 (Int.tdiv x0 60)) + 1 ≤ 9223372036854775807) ∧ ((InR IntKind.i64 (Int.tmod x0 60)) ∧ ((P27 (Int.tmod x0 60) 2) ∧ ((ByteArray.size (g32_0 (Int.tdiv x0 60) ++ ByteArray.mk #[58]) + ByteArray.size (g27_0 (Int.tmod x0 60) 2) ≤ 9223372036854775807) ∧ True)))))))
def g12_0 (x0 : Int) : ByteArray := (if (!g37_0 x0) = true then ByteArray.mk #[] else g32_0 (Int.tdiv x0 60) ++ ByteArray.mk #[58] ++ g27_0 (Int.tmod x0 60) 2)
theorem p12_0 (x0 : Int) : runF tab ext12 false 14 [] 2000 [] oks12 kds12 tys12 Tryd.f12.results [true] [.code b12] (entE 0 0 sig12 (x0, ())) (entL sig12 (x0, ())) = some ([Dyn.mk Ty.str (ByteArray.mk #[])], [], [True, (!g37_0 x0) = Bool.true]) := by kernel_rfl
theorem p12_1 (x0 : Int) : runF tab ext12 false 14 [] 2000 [] oks12 kds12 tys12 Tryd.f12.results [false] [.code b12] (entE 0 0 sig12 (x0, ())) (entL sig12 (x0, ())) = some ([Dyn.mk Ty.str (g32_0 (Int.tdiv x0 60) ++ ByteArray.mk #[58] ++ g27_0 (Int.tmod x0 60) 2)], [], [True, (!g37_0 x0) = Bool.false, (60 : Int) ≠ (0 : Int), InR IntKind.i64 (Int.tdiv x0 60), P32 (Int.tdiv x0 60), ByteArray.size (g32_0 (Int.tdiv x0 60)) + 1 ≤ 9223372036854775807, (60 : Int) ≠ (0 : Int), InR IntKind.i64 (Int.tmod x0 60), P27 (Int.tmod x0 60) 2, ByteArray.size (g32_0 (Int.tdiv x0 60) ++ ByteArray.mk #[58]) + ByteArray.size (g27_0 (Int.tmod x0 60) 2) ≤ 9223372036854775807]) := by kernel_rfl
theorem at12 (x0 : Int) (h : P12 x0) (K : Ctx) (q : Nat → Value) : AtV Tryd.prog 12 (PostR kds12 oks12 [⟨Ty.str, g12_0 x0⟩] [] [] q K) 14 K q [] [.code b12] (entE 0 0 sig12 (x0, ())) (entL sig12 (x0, ())) := by
  unfold P12 at h
  unfold g12_0
  by_cases b0 : (!g37_0 x0) = true
  · try simp only [if_pos b0] at h ⊢
    exact AtV.fin Tryd.func12 tabOk ext12Ok mixed (p12_0 x0) ⟨trivial, b0, trivial⟩
  · try simp only [if_neg b0] at h ⊢
    replace b0 := Bool.eq_false_iff.2 b0
    obtain ⟨s0, h⟩ := h
    obtain ⟨s1, h⟩ := h
    obtain ⟨s2, h⟩ := h
    obtain ⟨s3, h⟩ := h
    obtain ⟨s4, h⟩ := h
    obtain ⟨s5, h⟩ := h
    exact AtV.fin Tryd.func12 tabOk ext12Ok mixed (p12_1 x0) ⟨trivial, b0, (by decide), s0, s1, s2, (by decide), s3, s4, s5, trivial⟩

def S12 : Am.Spec := { sig := sig12, pre := fun ⟨x0, _⟩ => P12 x0, res := fun ⟨x0, _⟩ => [⟨Ty.str, g12_0 x0⟩], kds := kds12 }
theorem con12 : Contract Tryd.prog 12 S12 := contract_of Tryd.func12 hb12 (Nat.le_of_ble_eq_true (by kernel_rfl)) (fun ⟨x0, _⟩ h _ K q => at12 x0 h K q)


end Go.Proofs.YtomcblkbgnielaaDoor

/- Function 13 (impl.ReadLap): its runs between cut points. Written by a program of this repo (gen). -/
set_option linter.unusedVariables false
set_option linter.unusedSimpArgs false
set_option maxRecDepth 100000
namespace Go.Proofs.YtomcblkbgnielaaDoor
open Go Go.Am Go.Proofs
def ext13 : Ext := [(28, S28), (29, S29), (12, S12)]
theorem call13_28 : Callable Tryd.prog 28 := ⟨Tryd.f28, Tryd.func28, by kernel_rfl, by kernel_rfl⟩
theorem call13_29 : Callable Tryd.prog 29 := ⟨Tryd.f29, Tryd.func29, by kernel_rfl, by kernel_rfl⟩
theorem call13_12 : Callable Tryd.prog 12 := ⟨Tryd.f12, Tryd.func12, by kernel_rfl, by kernel_rfl⟩
theorem ext13Ok : ExtOk Tryd.prog ext13 := ⟨⟨call13_28, con28⟩, ⟨call13_29, con29⟩, ⟨call13_12, con12⟩, trivial⟩

noncomputable def b13 : Code := bodyOf Tryd.f13
theorem hb13 : Tryd.f13.body = some b13 := by kernel_rfl
def sig13 : List AT := [AT.v (Ty.str)]
def tys13 : List Ty := [Ty.int IntKind.i64, Ty.bool]
def kds13 : List RK := []
def oks13 : List AT := owns sig13
def P13 (x0 : ByteArray) : Prop := ((P28 x0 (ByteArray.mk #[58])) ∧ ((InR IntKind.i64 (60 * g29_0 (g28_0 x0 (ByteArray.mk #[58])))) ∧ ((InR IntKind.i64 (60 * g29_0 (g28_0 x0 (ByteArray.mk #[58])) + g29_0 (g28_1 x0 (ByteArray.mk #[58])))) ∧ (if (ByteArray.toList x0 == ByteArray.toList (ByteArray.mk #[])) = true then True else ((P12 (60 * g29_0 (g28_0 x0 (ByteArray.mk #[58])) + g29_0 (g28_1 x0 (ByteArray.mk #[58])))) ∧ True)))))
def g13_0 (x0 : ByteArray) : Int := (if (ByteArray.toList x0 == ByteArray.toList (ByteArray.mk #[])) = true then 0 else (if (!ByteArray.toList (g12_0 (60 * g29_0 (g28_0 x0 (ByteArray.mk #[58])) + g29_0 (g28_1 x0 (ByteArray.mk #[58])))) == ByteArray.toList x0) = true then 0 else 60 * g29_0 (g28_0 x0 (ByteArray.mk #[58])) + g29_0 (g28_1 x0 (ByteArray.mk #[58]))))
def g13_1 (x0 : ByteArray) : Bool := (if (ByteArray.toList x0 == ByteArray.toList (ByteArray.mk #[])) = true then Bool.false else (if (!ByteArray.toList (g12_0 (60 * g29_0 (g28_0 x0 (ByteArray.mk #[58])) + g29_0 (g28_1 x0 (ByteArray.mk #[58])))) == ByteArray.toList x0) = true then Bool.false else Bool.true))
theorem p13_0 (x0 : ByteArray) : runF tab ext13 false 29 [] 2000 [] oks13 kds13 tys13 Tryd.f13.results [true, true] [.code b13] (entE 0 0 sig13 (x0, ())) (entL sig13 (x0, ())) = some ([Dyn.mk (Ty.int IntKind.i64) 0, Dyn.mk Ty.bool Bool.false], [], [P28 x0 (ByteArray.mk #[58]), True, InR IntKind.i64 (60 * g29_0 (g28_0 x0 (ByteArray.mk #[58]))), True, InR IntKind.i64 (60 * g29_0 (g28_0 x0 (ByteArray.mk #[58])) + g29_0 (g28_1 x0 (ByteArray.mk #[58]))), (ByteArray.toList x0 == ByteArray.toList (ByteArray.mk #[])) = Bool.true, Bool.true = Bool.true]) := by kernel_rfl
theorem p13_1 (x0 : ByteArray) : runF tab ext13 false 29 [] 2000 [] oks13 kds13 tys13 Tryd.f13.results [false, true] [.code b13] (entE 0 0 sig13 (x0, ())) (entL sig13 (x0, ())) = some ([Dyn.mk (Ty.int IntKind.i64) 0, Dyn.mk Ty.bool Bool.false], [], [P28 x0 (ByteArray.mk #[58]), True, InR IntKind.i64 (60 * g29_0 (g28_0 x0 (ByteArray.mk #[58]))), True, InR IntKind.i64 (60 * g29_0 (g28_0 x0 (ByteArray.mk #[58])) + g29_0 (g28_1 x0 (ByteArray.mk #[58]))), (ByteArray.toList x0 == ByteArray.toList (ByteArray.mk #[])) = Bool.false, P12 (60 * g29_0 (g28_0 x0 (ByteArray.mk #[58])) + g29_0 (g28_1 x0 (ByteArray.mk #[58]))), (!ByteArray.toList (g12_0 (60 * g29_0 (g28_0 x0 (ByteArray.mk #[58])) + g29_0 (g28_1 x0 (ByteArray.mk #[58])))) == ByteArray.toList x0) = Bool.true]) := by kernel_rfl
theorem p13_2 (x0 : ByteArray) : runF tab ext13 false 29 [] 2000 [] oks13 kds13 tys13 Tryd.f13.results [false, false] [.code b13] (entE 0 0 sig13 (x0, ())) (entL sig13 (x0, ())) = some ([Dyn.mk (Ty.int IntKind.i64) (60 * g29_0 (g28_0 x0 (ByteArray.mk #[58])) + g29_0 (g28_1 x0 (ByteArray.mk #[58]))), Dyn.mk Ty.bool Bool.true], [], [P28 x0 (ByteArray.mk #[58]), True, InR IntKind.i64 (60 * g29_0 (g28_0 x0 (ByteArray.mk #[58]))), True, InR IntKind.i64 (60 * g29_0 (g28_0 x0 (ByteArray.mk #[58])) + g29_0 (g28_1 x0 (ByteArray.mk #[58]))), (ByteArray.toList x0 == ByteArray.toList (ByteArray.mk #[])) = Bool.false, P12 (60 * g29_0 (g28_0 x0 (ByteArray.mk #[58])) + g29_0 (g28_1 x0 (ByteArray.mk #[58]))), (!ByteArray.toList (g12_0 (60 * g29_0 (g28_0 x0 (ByteArray.mk #[58])) + g29_0 (g28_1 x0 (ByteArray.mk #[58])))) == ByteArray.toList x0) = Bool.false]) := by kernel_rfl
theorem at13 (x0 : ByteArray) (h : P13 x0) (K : Ctx) (q : Nat → Value) : AtV Tryd.prog 13 (PostR kds13 oks13 [⟨Ty.int IntKind.i64, g13_0 x0⟩, ⟨Ty.bool, g13_1 x0⟩] [] [] q K) 29 K q [] [.code b13] (entE 0 0 sig13 (x0, ())) (entL sig13 (x0, ())) := by
  unfold P13 at h
  unfold g13_0 g13_1
  obtain ⟨s0, h⟩ := h
  obtain ⟨s1, h⟩ := h
  obtain ⟨s2, h⟩ := h
  by_cases b0 : (ByteArray.toList x0 == ByteArray.toList (ByteArray.mk #[])) = true
  · try simp only [if_pos b0] at h ⊢
    exact AtV.fin Tryd.func13 tabOk ext13Ok mixed (p13_0 x0) ⟨s0, trivial, s1, trivial, s2, b0, rfl, trivial⟩
  · try simp only [if_neg b0] at h ⊢
    replace b0 := Bool.eq_false_iff.2 b0
    obtain ⟨s3, h⟩ := h
    by_cases b1 : (!ByteArray.toList (g12_0 (60 * g29_0 (g28_0 x0 (ByteArray.mk #[58])) + g29_0 (g28_1 x0 (ByteArray.mk #[58])))) == ByteArray.toList x0) = true
    · try simp only [if_pos b1] at h ⊢
      exact AtV.fin Tryd.func13 tabOk ext13Ok mixed (p13_1 x0) ⟨s0, trivial, s1, trivial, s2, b0, s3, b1, trivial⟩
    · try simp only [if_neg b1] at h ⊢
      replace b1 := Bool.eq_false_iff.2 b1
      exact AtV.fin Tryd.func13 tabOk ext13Ok mixed (p13_2 x0) ⟨s0, trivial, s1, trivial, s2, b0, s3, b1, trivial⟩

def S13 : Am.Spec := { sig := sig13, pre := fun ⟨x0, _⟩ => P13 x0, res := fun ⟨x0, _⟩ => [⟨Ty.int IntKind.i64, g13_0 x0⟩, ⟨Ty.bool, g13_1 x0⟩], kds := kds13 }
theorem con13 : Contract Tryd.prog 13 S13 := contract_of Tryd.func13 hb13 (Nat.le_of_ble_eq_true (by kernel_rfl)) (fun ⟨x0, _⟩ h _ K q => at13 x0 h K q)


end Go.Proofs.YtomcblkbgnielaaDoor

/- Function 49 (spec.l00In): its runs between cut points. Written by a program of this repo (gen). -/
set_option linter.unusedVariables false
set_option linter.unusedSimpArgs false
set_option maxRecDepth 100000
namespace Go.Proofs.YtomcblkbgnielaaDoor
open Go Go.Am Go.Proofs
def ext49 : Ext := []
theorem ext49Ok : ExtOk Tryd.prog ext49 := trivial

noncomputable def b49 : Code := bodyOf Tryd.f49
theorem hb49 : Tryd.f49.body = some b49 := by kernel_rfl
def sig49 : List AT := [AT.v (Ty.int IntKind.i64), AT.v (Ty.int IntKind.i64), AT.v (Ty.int IntKind.i64)]
def tys49 : List Ty := [Ty.bool]
def kds49 : List RK := []
def oks49 : List AT := owns sig49
def P49 (x0 : Int) (x1 : Int) (x2 : Int) : Prop := True
def g49_0 (x0 : Int) (x1 : Int) (x2 : Int) : Bool := (if (Decidable.decide (x0 ≥ x1)) = true then Decidable.decide (x0 ≤ x2) else Bool.false)
theorem p49_0 (x0 : Int) (x1 : Int) (x2 : Int) : runF tab ext49 false 15 [] 2000 [] oks49 kds49 tys49 Tryd.f49.results [true] [.code b49] (entE 0 0 sig49 (x0, x1, x2, ())) (entL sig49 (x0, x1, x2, ())) = some ([Dyn.mk Ty.bool (Decidable.decide (x0 ≤ x2))], [], [Decidable.decide (x0 ≥ x1) = Bool.true]) := by kernel_rfl
theorem p49_1 (x0 : Int) (x1 : Int) (x2 : Int) : runF tab ext49 false 15 [] 2000 [] oks49 kds49 tys49 Tryd.f49.results [false] [.code b49] (entE 0 0 sig49 (x0, x1, x2, ())) (entL sig49 (x0, x1, x2, ())) = some ([Dyn.mk Ty.bool Bool.false], [], [Decidable.decide (x0 ≥ x1) = Bool.false]) := by kernel_rfl
theorem at49 (x0 : Int) (x1 : Int) (x2 : Int) (h : P49 x0 x1 x2) (K : Ctx) (q : Nat → Value) : AtV Tryd.prog 49 (PostR kds49 oks49 [⟨Ty.bool, g49_0 x0 x1 x2⟩] [] [] q K) 15 K q [] [.code b49] (entE 0 0 sig49 (x0, x1, x2, ())) (entL sig49 (x0, x1, x2, ())) := by
  unfold P49 at h
  unfold g49_0
  by_cases b0 : (Decidable.decide (x0 ≥ x1)) = true
  · try simp only [if_pos b0] at h ⊢
    exact AtV.fin Tryd.func49 tabOk ext49Ok mixed (p49_0 x0 x1 x2) ⟨b0, trivial⟩
  · try simp only [if_neg b0] at h ⊢
    replace b0 := Bool.eq_false_iff.2 b0
    exact AtV.fin Tryd.func49 tabOk ext49Ok mixed (p49_1 x0 x1 x2) ⟨b0, trivial⟩

def S49 : Am.Spec := { sig := sig49, pre := fun ⟨x0, x1, x2, _⟩ => P49 x0 x1 x2, res := fun ⟨x0, x1, x2, _⟩ => [⟨Ty.bool, g49_0 x0 x1 x2⟩], kds := kds49 }
theorem con49 : Contract Tryd.prog 49 S49 := contract_of Tryd.func49 hb49 (Nat.le_of_ble_eq_true (by kernel_rfl)) (fun ⟨x0, x1, x2, _⟩ h _ K q => at49 x0 x1 x2 h K q)


end Go.Proofs.YtomcblkbgnielaaDoor

/- Function 38 (spec.l02Mass): its runs between cut points. Written by a program of this repo (gen). -/
set_option linter.unusedVariables false
set_option linter.unusedSimpArgs false
set_option maxRecDepth 100000
namespace Go.Proofs.YtomcblkbgnielaaDoor
open Go Go.Am Go.Proofs
def ext38 : Ext := [(49, S49)]
theorem call38_49 : Callable Tryd.prog 49 := ⟨Tryd.f49, Tryd.func49, by kernel_rfl, by kernel_rfl⟩
theorem ext38Ok : ExtOk Tryd.prog ext38 := ⟨⟨call38_49, con49⟩, trivial⟩

noncomputable def b38 : Code := bodyOf Tryd.f38
theorem hb38 : Tryd.f38.body = some b38 := by kernel_rfl
def sig38 : List AT := [AT.v (Ty.int IntKind.i64)]
def tys38 : List Ty := [Ty.bool]
def kds38 : List RK := []
def oks38 : List AT := owns sig38
def P38 (x0 : Int) : Prop := True
def g38_0 (x0 : Int) : Bool := g49_0 x0 0 1000000000
theorem p38_0 (x0 : Int) : runF tab ext38 false 5 [] 2000 [] oks38 kds38 tys38 Tryd.f38.results [] [.code b38] (entE 0 0 sig38 (x0, ())) (entL sig38 (x0, ())) = some ([Dyn.mk Ty.bool (g49_0 x0 0 1000000000)], [], [True]) := by kernel_rfl
theorem at38 (x0 : Int) (h : P38 x0) (K : Ctx) (q : Nat → Value) : AtV Tryd.prog 38 (PostR kds38 oks38 [⟨Ty.bool, g38_0 x0⟩] [] [] q K) 5 K q [] [.code b38] (entE 0 0 sig38 (x0, ())) (entL sig38 (x0, ())) := by
  unfold P38 at h
  unfold g38_0
  exact AtV.fin Tryd.func38 tabOk ext38Ok mixed (p38_0 x0) ⟨trivial, trivial⟩

def S38 : Am.Spec := { sig := sig38, pre := fun ⟨x0, _⟩ => P38 x0, res := fun ⟨x0, _⟩ => [⟨Ty.bool, g38_0 x0⟩], kds := kds38 }
theorem con38 : Contract Tryd.prog 38 S38 := contract_of Tryd.func38 hb38 (Nat.le_of_ble_eq_true (by kernel_rfl)) (fun ⟨x0, _⟩ h _ K q => at38 x0 h K q)


end Go.Proofs.YtomcblkbgnielaaDoor

/- Function 50 (spec.l01Dec): its runs between cut points. Written by a program of this repo (gen). -/
set_option linter.unusedVariables false
set_option linter.unusedSimpArgs false
set_option maxRecDepth 100000
namespace Go.Proofs.YtomcblkbgnielaaDoor
open Go Go.Am Go.Proofs
def ext50 : Ext := []
theorem ext50Ok : ExtOk Tryd.prog ext50 := trivial

noncomputable def b50 : Code := bodyOf Tryd.f50
theorem hb50 : Tryd.f50.body = some b50 := by kernel_rfl
def sig50 : List AT := [AT.v (Ty.int IntKind.i64)]
def tys50 : List Ty := [Ty.str]
def kds50 : List RK := []
def oks50 : List AT := owns sig50
def E50_5 (v4 : Int) (h0 : List Int) (x0 : Int) : Env := [(0, PV.a (Atom.val (Value.int IntKind.i64 x0))), (3, PV.a (Atom.osl 0 Option.none)), (4, PV.a (Atom.val (Value.int IntKind.i64 v4)))]
def L50_5 (v4 : Int) (h0 : List Int) (x0 : Int) : Heap := [Option.some (Arr.mk (Ty.int IntKind.u8) h0 Bool.false Option.none Option.none)]
def E50_15 (v7 : Int) (h0 : List Int) (h1 : List Int) : Env := [(3, PV.a (Atom.osl 0 Option.none)), (6, PV.a (Atom.osl 1 Option.none)), (7, PV.a (Atom.val (Value.int IntKind.i64 v7)))]
def L50_15 (v7 : Int) (h0 : List Int) (h1 : List Int) : Heap := [Option.some (Arr.mk (Ty.int IntKind.u8) h0 Bool.false Option.none Option.none), Option.some (Arr.mk (Ty.int IntKind.u8) h1 Bool.false Option.none Option.none)]
mutual
def R50 : Nat → Int → List Dyn → Prop
  | 0, _, _ => False
  | n + 1, x0, ds => (if (x0 == 0) = true then (ds = [Dyn.mk Ty.str (ByteArray.mk #[48])]) else (R50_5 n (x0) ([]) (x0) ds))
def R50_5 : Nat → Int → List Int → Int → List Dyn → Prop
  | 0, _, _, _, _ => False
  | n + 1, v4, h0, x0, ds => (if (v4 != 0) = true then ((InR IntKind.i64 (Int.tmod v4 10)) ∧ (if (Decidable.decide (Int.tmod v4 10 < 0)) = true then ((InR IntKind.i64 (0 - Int.tmod v4 10)) ∧ ((InR IntKind.i64 (48 + (0 - Int.tmod v4 10))) ∧ ((InR IntKind.u8 (48 + (0 - Int.tmod v4 10))) ∧ (((List.length h0 + 1) * 1 ≤ 140737488355328) ∧ ((InR IntKind.i64 (Int.tdiv v4 10)) ∧ (R50_5 n (Int.tdiv v4 10) (h0 ++ [48 + (0 - Int.tmod v4 10)]) (x0) ds)))))) else ((InR IntKind.i64 (48 + Int.tmod v4 10)) ∧ ((InR IntKind.u8 (48 + Int.tmod v4 10)) ∧ (((List.length h0 + 1) * 1 ≤ 140737488355328) ∧ ((InR IntKind.i64 (Int.tdiv v4 10)) ∧ (R50_5 n (Int.tdiv v4 10) (h0 ++ [48 + Int.tmod v4 10]) (x0) ds))))))) else (if (Decidable.decide (x0 < 0)) = true then (((List.length h0 + 1) * 1 ≤ 140737488355328) ∧ ((InR IntKind.i64 ((↑(List.length (h0 ++ [45])) : Int) - 1)) ∧ (R50_15 n ((↑(List.length (h0 ++ [45])) : Int) - 1) (h0 ++ [45]) ([]) ds))) else ((InR IntKind.i64 ((↑(List.length h0) : Int) - 1)) ∧ (R50_15 n ((↑(List.length h0) : Int) - 1) (h0) ([]) ds))))
def R50_15 : Nat → Int → List Int → List Int → List Dyn → Prop
  | 0, _, _, _, _ => False
  | n + 1, v7, h0, h1, ds => (if (Decidable.decide (v7 ≥ 0)) = true then ((0 ≤ v7) ∧ (v7 < (↑(List.length h0) : Int)) ∧ (((List.length h1 + 1) * 1 ≤ 140737488355328) ∧ ((InR IntKind.i64 (v7 - 1)) ∧ (R50_15 n (v7 - 1) (h0) (h1 ++ [List.getD h0 (Int.toNat v7) 0]) ds)))) else (ds = [Dyn.mk Ty.str (bytesStr h1)]))
end
theorem p50_0 (x0 : Int) : runF tab ext50 false 50 [] 2000 [] oks50 kds50 tys50 Tryd.f50.results [true] [.code b50] (entE 0 0 sig50 (x0, ())) (entL sig50 (x0, ())) = some ([Dyn.mk Ty.str (ByteArray.mk #[48])], [], [(x0 == 0) = Bool.true]) := by kernel_rfl
theorem p50_1 (x0 : Int) : Am.runN tab ext50 false 50 [] 2000 [] [] [0, 3, 4] [0] [false] [.code b50] (entE 0 0 sig50 (x0, ())) (entL sig50 (x0, ())) = some (cutAt b50 5, E50_5 (x0) ([]) (x0), L50_5 (x0) ([]) (x0), [(x0 == 0) = Bool.false]) := by kernel_rfl
theorem p50_2 (v4 : Int) (h0 : List Int) (x0 : Int) : Am.runN tab ext50 false 50 [] 2000 [] [] [0, 3, 4] [0] [true, true] (cutAt b50 5) (E50_5 v4 h0 x0) (L50_5 v4 h0 x0) = some (cutAt b50 5, E50_5 (Int.tdiv v4 10) (h0 ++ [48 + (0 - Int.tmod v4 10)]) (x0), L50_5 (Int.tdiv v4 10) (h0 ++ [48 + (0 - Int.tmod v4 10)]) (x0), [(v4 != 0) = Bool.true, (10 : Int) ≠ (0 : Int), InR IntKind.i64 (Int.tmod v4 10), Decidable.decide (Int.tmod v4 10 < 0) = Bool.true, InR IntKind.i64 (0 - Int.tmod v4 10), InR IntKind.i64 (48 + (0 - Int.tmod v4 10)), InR IntKind.u8 (48 + (0 - Int.tmod v4 10)), (List.length h0 + 1) * 1 ≤ 140737488355328, (10 : Int) ≠ (0 : Int), InR IntKind.i64 (Int.tdiv v4 10)]) := by kernel_rfl
theorem p50_3 (v4 : Int) (h0 : List Int) (x0 : Int) : Am.runN tab ext50 false 50 [] 2000 [] [] [0, 3, 4] [0] [true, false] (cutAt b50 5) (E50_5 v4 h0 x0) (L50_5 v4 h0 x0) = some (cutAt b50 5, E50_5 (Int.tdiv v4 10) (h0 ++ [48 + Int.tmod v4 10]) (x0), L50_5 (Int.tdiv v4 10) (h0 ++ [48 + Int.tmod v4 10]) (x0), [(v4 != 0) = Bool.true, (10 : Int) ≠ (0 : Int), InR IntKind.i64 (Int.tmod v4 10), Decidable.decide (Int.tmod v4 10 < 0) = Bool.false, InR IntKind.i64 (48 + Int.tmod v4 10), InR IntKind.u8 (48 + Int.tmod v4 10), (List.length h0 + 1) * 1 ≤ 140737488355328, (10 : Int) ≠ (0 : Int), InR IntKind.i64 (Int.tdiv v4 10)]) := by kernel_rfl
theorem p50_4 (v4 : Int) (h0 : List Int) (x0 : Int) : Am.runN tab ext50 false 50 [] 2000 [] [] [3, 6, 7] [0, 2] [false, true] (cutAt b50 5) (E50_5 v4 h0 x0) (L50_5 v4 h0 x0) = some (cutAt b50 15, E50_15 ((↑(List.length (h0 ++ [45])) : Int) - 1) (h0 ++ [45]) ([]), L50_15 ((↑(List.length (h0 ++ [45])) : Int) - 1) (h0 ++ [45]) ([]), [(v4 != 0) = Bool.false, Decidable.decide (x0 < 0) = Bool.true, (List.length h0 + 1) * 1 ≤ 140737488355328, InR IntKind.i64 ((↑(List.length (h0 ++ [45])) : Int) - 1)]) := by kernel_rfl
theorem p50_5 (v4 : Int) (h0 : List Int) (x0 : Int) : Am.runN tab ext50 false 50 [] 2000 [] [] [3, 6, 7] [0, 1] [false, false] (cutAt b50 5) (E50_5 v4 h0 x0) (L50_5 v4 h0 x0) = some (cutAt b50 15, E50_15 ((↑(List.length h0) : Int) - 1) (h0) ([]), L50_15 ((↑(List.length h0) : Int) - 1) (h0) ([]), [(v4 != 0) = Bool.false, Decidable.decide (x0 < 0) = Bool.false, InR IntKind.i64 ((↑(List.length h0) : Int) - 1)]) := by kernel_rfl
theorem p50_6 (v7 : Int) (h0 : List Int) (h1 : List Int) : Am.runN tab ext50 false 50 [] 2000 [] [] [3, 6, 7] [0, 1] [true] (cutAt b50 15) (E50_15 v7 h0 h1) (L50_15 v7 h0 h1) = some (cutAt b50 15, E50_15 (v7 - 1) (h0) (h1 ++ [List.getD h0 (Int.toNat v7) 0]), L50_15 (v7 - 1) (h0) (h1 ++ [List.getD h0 (Int.toNat v7) 0]), [Decidable.decide (v7 ≥ 0) = Bool.true, 0 ≤ v7, v7 < (↑(List.length h0) : Int), (List.length h1 + 1) * 1 ≤ 140737488355328, InR IntKind.i64 (v7 - 1)]) := by kernel_rfl
theorem p50_7 (v7 : Int) (h0 : List Int) (h1 : List Int) : runF tab ext50 false 50 [] 2000 [] oks50 kds50 tys50 Tryd.f50.results [false] (cutAt b50 15) (E50_15 v7 h0 h1) (L50_15 v7 h0 h1) = some ([Dyn.mk Ty.str (bytesStr h1)], [], [Decidable.decide (v7 ≥ 0) = Bool.false]) := by kernel_rfl
theorem snd50 : ∀ n, (∀ (x0 : Int) ds, R50 n x0 ds → ∀ K q, AtV Tryd.prog 50 (PostR kds50 oks50 ds [] [] q K) 50 K q [] [.code b50] (entE 0 0 sig50 (x0, ())) (entL sig50 (x0, ()))) ∧ (∀ (v4 : Int) (h0 : List Int) (x0 : Int) ds, R50_5 n v4 h0 x0 ds → ∀ K q, AtV Tryd.prog 50 (PostR kds50 oks50 ds [] [] q K) 50 K q [] (cutAt b50 5) (E50_5 v4 h0 x0) (L50_5 v4 h0 x0)) ∧ (∀ (v7 : Int) (h0 : List Int) (h1 : List Int) ds, R50_15 n v7 h0 h1 ds → ∀ K q, AtV Tryd.prog 50 (PostR kds50 oks50 ds [] [] q K) 50 K q [] (cutAt b50 15) (E50_15 v7 h0 h1) (L50_15 v7 h0 h1)) := by
  intro n
  induction n with
  | zero => exact ⟨fun _ _ h => by simp only [R50] at h, fun _ _ _ _ h => by simp only [R50_5] at h, fun _ _ _ _ h => by simp only [R50_15] at h⟩
  | succ n ih =>
  obtain ⟨ih, ih5, ih15⟩ := ih
  refine ⟨?_, ?_, ?_⟩
  · intro x0 ds h K q
    rw [R50] at h
    by_cases b0 : (x0 == 0) = true
    · rw [if_pos b0] at h
      subst h
      exact AtV.fin Tryd.func50 tabOk ext50Ok mixed (p50_0 x0) ⟨b0, trivial⟩
    · rw [if_neg b0] at h
      replace b0 := Bool.eq_false_iff.2 b0
      exact AtV.runN tabOk ext50Ok mixed (p50_1 x0) ⟨b0, trivial⟩ (ih5 _ _ _ _ h K q)

  · intro v4 h0 x0 ds h K q
    rw [R50_5] at h
    by_cases b0 : (v4 != 0) = true
    · rw [if_pos b0] at h
      obtain ⟨s0, h⟩ := h
      by_cases b1 : (Decidable.decide (Int.tmod v4 10 < 0)) = true
      · rw [if_pos b1] at h
        obtain ⟨s1, h⟩ := h
        obtain ⟨s2, h⟩ := h
        obtain ⟨s3, h⟩ := h
        obtain ⟨s4, h⟩ := h
        obtain ⟨s5, h⟩ := h
        exact AtV.runN tabOk ext50Ok mixed (p50_2 v4 h0 x0) ⟨b0, (by decide), s0, b1, s1, s2, s3, s4, (by decide), s5, trivial⟩ (ih5 _ _ _ _ h K q)
      · rw [if_neg b1] at h
        replace b1 := Bool.eq_false_iff.2 b1
        obtain ⟨s1, h⟩ := h
        obtain ⟨s2, h⟩ := h
        obtain ⟨s3, h⟩ := h
        obtain ⟨s4, h⟩ := h
        exact AtV.runN tabOk ext50Ok mixed (p50_3 v4 h0 x0) ⟨b0, (by decide), s0, b1, s1, s2, s3, (by decide), s4, trivial⟩ (ih5 _ _ _ _ h K q)
    · rw [if_neg b0] at h
      replace b0 := Bool.eq_false_iff.2 b0
      by_cases b1 : (Decidable.decide (x0 < 0)) = true
      · rw [if_pos b1] at h
        obtain ⟨s0, h⟩ := h
        obtain ⟨s1, h⟩ := h
        exact AtV.runN tabOk ext50Ok mixed (p50_4 v4 h0 x0) ⟨b0, b1, s0, s1, trivial⟩ (ih15 _ _ _ _ h K q)
      · rw [if_neg b1] at h
        replace b1 := Bool.eq_false_iff.2 b1
        obtain ⟨s0, h⟩ := h
        exact AtV.runN tabOk ext50Ok mixed (p50_5 v4 h0 x0) ⟨b0, b1, s0, trivial⟩ (ih15 _ _ _ _ h K q)

  · intro v7 h0 h1 ds h K q
    rw [R50_15] at h
    by_cases b0 : (Decidable.decide (v7 ≥ 0)) = true
    · rw [if_pos b0] at h
      obtain ⟨s0, s1, h⟩ := h
      obtain ⟨s2, h⟩ := h
      obtain ⟨s3, h⟩ := h
      exact AtV.runN tabOk ext50Ok mixed (p50_6 v7 h0 h1) ⟨b0, s0, s1, s2, s3, trivial⟩ (ih15 _ _ _ _ h K q)
    · rw [if_neg b0] at h
      replace b0 := Bool.eq_false_iff.2 b0
      subst h
      exact AtV.fin Tryd.func50 tabOk ext50Ok mixed (p50_7 v7 h0 h1) ⟨b0, trivial⟩



def g50_0 (x0 : Int) : ByteArray := numB x0
def P50 (x0 : Int) : Prop := True

theorem bstr50 (xs : List Int) : bytesStr xs = ⟨⟨xs.map fun n => UInt8.ofNat n.toNat⟩⟩ := by
  have key : ∀ (xs : List Int) (s : ByteArray), (xs.foldl (fun r n => r.push (UInt8.ofNat n.toNat)) s).data.toList = s.data.toList ++ xs.map fun n => UInt8.ofNat n.toNat := by
    intro xs
    induction xs with
    | nil => intro s; simp
    | cons a r ih =>
      intro s
      rw [List.foldl_cons, ih]
      show (s.data.push _).toList ++ _ = _
      rw [Array.toList_push]
      simp
  apply ByteArray.ext
  apply Array.ext'
  have := key xs ByteArray.empty
  unfold bytesStr
  rw [this]
  rfl
theorem bstrB50 (l : List UInt8) : bytesStr (l.map fun b => (b.toNat : Int)) = ⟨⟨l⟩⟩ := by
  rw [bstr50, List.map_map]
  congr 2
  conv => rhs; rw [← List.map_id l]
  refine List.map_congr_left fun b _ => ?_
  show UInt8.ofNat ((b.toNat : Int)).toNat = b
  rw [Int.toNat_natCast, UInt8.ofNat_toNat]

def rd50 (m : Nat) : List Int := if h : m = 0 then [] else ((48 + m % 10 : Nat) : Int) :: rd50 (m / 10)
termination_by m
decreasing_by omega
theorem rd050 : rd50 0 = [] := by rw [rd50, dif_pos rfl]
theorem rds50 {m : Nat} (h : m ≠ 0) : rd50 m = ((48 + m % 10 : Nat) : Int) :: rd50 (m / 10) := by rw [rd50, dif_neg h]
theorem rdl50 : ∀ (k m : Nat), m < 10 ^ k → (rd50 m).length ≤ k
  | 0, m, h => by obtain rfl : m = 0 := by simpa using h
                  rw [rd050]; exact Nat.le_refl _
  | k + 1, m, h => by
    by_cases h0 : m = 0
    · rw [h0, rd050]; exact Nat.zero_le _
    · rw [rds50 h0, List.length_cons]
      have := rdl50 k (m / 10) (by rw [Nat.pow_succ] at h; omega)
      omega
theorem rdd50 (m : Nat) (h : m ≠ 0) : bytesStr (rd50 m).reverse = ⟨⟨Lib.decDigits m⟩⟩ := by
  have key : ∀ m : Nat, m ≠ 0 → (rd50 m).reverse = (Lib.decDigits m).map fun b => (b.toNat : Int) := by
    intro m
    induction m using Nat.strongRecOn with
    | _ m ih =>
      intro h
      rw [rds50 h, List.reverse_cons, Lib.decDigits]
      have e : (UInt8.ofNat (48 + m % 10)).toNat = 48 + m % 10 := by rw [UInt8.toNat_ofNat']; omega
      split
      · rename_i hs
        rw [show m / 10 = 0 by omega, rd050]
        have e' : (UInt8.ofNat (48 + m)).toNat = 48 + m % 10 := by rw [UInt8.toNat_ofNat']; omega
        rw [List.map_singleton, e']
        rfl
      · rw [ih (m / 10) (by omega) (by omega), List.map_append, List.map_singleton, e]
  rw [key m h]
  exact bstrB50 _

theorem back50 (h0 : List Int) : ∀ (j : Nat) (h1 : List Int), j ≤ h0.length → h1.length + j ≤ 64 → R50_15 (j + 1) ((j : Int) - 1) h0 h1 [⟨.str, bytesStr (h1 ++ (h0.take j).reverse)⟩]
  | 0, h1, _, _ => by
    rw [R50_15, if_neg (by decide)]
    simp
  | j + 1, h1, hj, hl => by
    have ih := back50 h0 j (h1 ++ [h0.getD j 0]) (by omega) (by rw [List.length_append, List.length_singleton]; omega)
    have e : ((j + 1 : Nat) : Int) - 1 = (j : Int) := by omega
    rw [R50_15, e, if_pos (by simp only [decide_eq_true_eq]; omega), Int.toNat_natCast]
    refine ⟨by omega, by omega, by omega, by rw [i64_iff]; omega, ?_⟩
    have et : (h0.take (j + 1)).reverse = h0.getD j 0 :: (h0.take j).reverse := by
      have hlt : j < h0.length := by omega
      rw [List.take_add_one, List.getElem?_eq_getElem hlt, List.reverse_append, List.getD_eq_getElem?_getD, List.getElem?_eq_getElem hlt]
      rfl
    rw [et]
    rw [List.append_assoc] at ih
    exact ih

theorem last50 (x0 : Int) (h0 : List Int) (hl : h0.length ≤ 20) : R50_5 ((if x0 < 0 then h0.length + 1 else h0.length) + 1 + 1) 0 h0 x0 [⟨.str, bytesStr ((if x0 < 0 then h0 ++ [45] else h0)).reverse⟩] := by
  rw [R50_5, if_neg (by decide)]
  by_cases hx : x0 < 0
  · have b := back50 (h0 ++ [45]) (h0.length + 1) [] (by rw [List.length_append, List.length_singleton]; omega) (by simp; omega)
    have e : (h0 ++ [(45 : Int)]).length = h0.length + 1 := by rw [List.length_append, List.length_singleton]
    rw [List.take_of_length_le (by omega)] at b
    simp only [hx, decide_true, if_true]
    rw [e]
    exact ⟨by omega, by rw [i64_iff]; omega, b⟩
  · have b := back50 h0 h0.length [] (Nat.le_refl _) (by simp; omega)
    rw [List.take_of_length_le (Nat.le_refl _)] at b
    simp only [hx, decide_false, Bool.false_eq_true, if_false]
    exact ⟨by rw [i64_iff]; omega, b⟩

theorem run50 (x0 : Int) (ds : List Dyn) (F : List Int) (K : Nat) (hF : R50_5 K 0 F x0 ds) : ∀ (m : Nat) (v : Int) (h0 : List Int), (v = (m : Int) ∨ v = -(m : Int)) → m ≤ 9223372036854775808 → InR .i64 v → h0.length + (rd50 m).length ≤ 20 → h0 ++ rd50 m = F → R50_5 ((rd50 m).length + K) v h0 x0 ds := by
  intro m
  induction m using Nat.strongRecOn with
  | _ m ih =>
    intro v h0 hv hm hi hl he
    by_cases h : m = 0
    · subst h
      obtain rfl : v = 0 := by omega
      rw [rd050] at he ⊢
      rw [List.append_nil] at he
      rw [he, List.length_nil, Nat.zero_add]
      exact hF
    · have hr := rds50 h
      rw [hr] at he hl ⊢
      rw [List.length_cons] at hl ⊢
      have hne : (v != 0) = true := by
        have : v ≠ 0 := by omega
        simpa using this
      rw [i64_iff] at hi
      have e1 : (rd50 (m / 10)).length + 1 + K = ((rd50 (m / 10)).length + K) + 1 := by omega
      have next : ∀ v', (v' = ((m / 10 : Nat) : Int) ∨ v' = -((m / 10 : Nat) : Int)) → R50_5 ((rd50 (m / 10)).length + K) v' (h0 ++ [((48 + m % 10 : Nat) : Int)]) x0 ds := fun v' hv' =>
        ih (m / 10) (by omega) v' _ hv' (by omega) (by rw [i64_iff]; omega) (by rw [List.length_append, List.length_singleton]; omega) (by rw [List.append_assoc]; exact he)
      rw [e1, R50_5, if_pos hne]
      rcases hv with rfl | rfl
      · have t1 : Int.tmod (m : Int) 10 = ((m % 10 : Nat) : Int) := rfl
        have t2 : Int.tdiv (m : Int) 10 = ((m / 10 : Nat) : Int) := rfl
        rw [t1, t2]
        refine ⟨by rw [i64_iff]; omega, ?_⟩
        rw [if_neg (by simp only [decide_eq_true_eq]; omega)]
        have e2 : 48 + ((m % 10 : Nat) : Int) = ((48 + m % 10 : Nat) : Int) := by omega
        rw [e2]
        exact ⟨by rw [i64_iff]; omega, by rw [u8_iff]; omega, by omega, by rw [i64_iff]; omega, next _ (.inl rfl)⟩
      · have t1 : Int.tmod (-(m : Int)) 10 = -((m % 10 : Nat) : Int) := by rw [Int.neg_tmod]; rfl
        have t2 : Int.tdiv (-(m : Int)) 10 = -((m / 10 : Nat) : Int) := by rw [Int.neg_tdiv]; rfl
        rw [t1, t2]
        refine ⟨by rw [i64_iff]; omega, ?_⟩
        by_cases hz : m % 10 = 0
        · rw [if_neg (by simp only [decide_eq_true_eq]; omega)]
          have e2 : 48 + -((m % 10 : Nat) : Int) = ((48 + m % 10 : Nat) : Int) := by omega
          rw [e2]
          exact ⟨by rw [i64_iff]; omega, by rw [u8_iff]; omega, by omega, by rw [i64_iff]; omega, next _ (.inr rfl)⟩
        · rw [if_pos (by simp only [decide_eq_true_eq]; omega)]
          have e2 : 48 + (0 - -((m % 10 : Nat) : Int)) = ((48 + m % 10 : Nat) : Int) := by omega
          rw [e2]
          exact ⟨by rw [i64_iff]; omega, by rw [i64_iff]; omega, by rw [u8_iff]; omega, by omega, by rw [i64_iff]; omega, next _ (.inr rfl)⟩

theorem top50 (x0 : Int) (hi : InR .i64 x0) : ∃ n, R50 n x0 [⟨.str, g50_0 x0⟩] := by
  unfold g50_0 numB Lib.itoa
  by_cases h : x0 = 0
  · subst h
    refine ⟨1, ?_⟩
    rw [R50, if_pos (by rfl), if_neg (by decide)]
    have e : Lib.decDigits (Int.toNat 0) = [48] := by rw [Lib.decDigits, dif_pos (by decide)]; rfl
    rw [e]
  · have hi' := hi
    rw [i64_iff] at hi'
    have hn : x0.natAbs ≠ 0 := by omega
    have hl := rdl50 19 x0.natAbs (by omega)
    refine ⟨(rd50 x0.natAbs).length + ((if x0 < 0 then (rd50 x0.natAbs).length + 1 else (rd50 x0.natAbs).length) + 1 + 1) + 1, ?_⟩
    rw [R50, if_neg (by simpa using h)]
    have hlast := last50 x0 (rd50 x0.natAbs) (by omega)
    have hrun := run50 x0 _ (rd50 x0.natAbs) _ hlast x0.natAbs x0 [] (by omega) (by omega) hi (by simp; omega) rfl
    have e : bytesStr (if x0 < 0 then rd50 x0.natAbs ++ [45] else rd50 x0.natAbs).reverse = ⟨(if x0 < 0 then 45 :: Lib.decDigits x0.natAbs else Lib.decDigits x0.toNat).toArray⟩ := by
      by_cases hx : x0 < 0
      · rw [if_pos hx, if_pos hx, List.reverse_append]
        show bytesStr ((45 : Int) :: (rd50 x0.natAbs).reverse) = _
        have := rdd50 x0.natAbs hn
        have e0 : bytesStr ((45 : Int) :: (rd50 x0.natAbs).reverse) = ⟨⟨45 :: (bytesStr (rd50 x0.natAbs).reverse).data.toList⟩⟩ := by rw [bstr50, bstr50]; rfl
        rw [e0, this]
      · rw [if_neg hx, if_neg hx, rdd50 x0.natAbs hn, show x0.natAbs = x0.toNat by omega]
    rw [e] at hrun
    exact hrun

def S50 : Am.Spec := { sig := sig50, pre := fun ⟨x0, _⟩ => P50 x0, res := fun ⟨x0, _⟩ => [⟨.str, g50_0 x0⟩] }
theorem con50 : Contract Tryd.prog 50 S50 := contract_of Tryd.func50 hb50 (Nat.le_of_ble_eq_true (by kernel_rfl)) (fun ⟨x0, _⟩ h hwf K q => by
  obtain ⟨n, hn⟩ := top50 x0 hwf.1
  exact (snd50 n).1 x0 _ hn K q)

end Go.Proofs.YtomcblkbgnielaaDoor

/- Function 39 (spec.l02Lap): its runs between cut points. Written by a program of this repo (gen). -/
set_option linter.unusedVariables false
set_option linter.unusedSimpArgs false
set_option maxRecDepth 100000
namespace Go.Proofs.YtomcblkbgnielaaDoor
open Go Go.Am Go.Proofs
def ext39 : Ext := [(50, S50)]
theorem call39_50 : Callable Tryd.prog 50 := ⟨Tryd.f50, Tryd.func50, by kernel_rfl, by kernel_rfl⟩
theorem ext39Ok : ExtOk Tryd.prog ext39 := ⟨⟨call39_50, con50⟩, trivial⟩

noncomputable def b39 : Code := bodyOf Tryd.f39
theorem hb39 : Tryd.f39.body = some b39 := by kernel_rfl
def sig39 : List AT := [AT.v (Ty.int IntKind.i64)]
def tys39 : List Ty := [Ty.str]
def kds39 : List RK := []
def oks39 : List AT := owns sig39
def P39 (x0 : Int) : Prop := ((InR IntKind.i64 (Int.tmod x0 60)) ∧ (if (Decidable.decide ((↑(ByteArray.size (g50_0 (Int.tmod x0 60))) : Int) < 2)) = true then ((1 + ByteArray.size (g50_0 (Int.tmod x0 60)) ≤ 9223372036854775807) ∧ ((InR IntKind.i64 (Int.tdiv x0 60)) ∧ ((ByteArray.size (g50_0 (Int.tdiv x0 60)) + 1 ≤ 9223372036854775807) ∧ ((ByteArray.size (g50_0 (Int.tdiv x0 60) ++ ByteArray.mk #[58]) + ByteArray.size (ByteArray.mk #[48] ++ g50_0 (Int.tmod x0 60)) ≤ 9223372036854775807) ∧ True)))) else ((InR IntKind.i64 (Int.tdiv x0 60)) ∧ ((ByteArray.size (g50_0 (Int.tdiv x0 60)) + 1 ≤ 9223372036854775807) ∧ ((ByteArray.size (g50_0 (Int.tdiv x0 60) ++ ByteArray.mk #[58]) + ByteArray.size (g50_0 (Int.tmod x0 60)) ≤ 9223372036854775807) ∧ True)))))
def g39_0 (x0 : Int) : ByteArray := (if (Decidable.decide ((↑(ByteArray.size (g50_0 (Int.tmod x0 60))) : Int) < 2)) = true then g50_0 (Int.tdiv x0 60) ++ ByteArray.mk #[58] ++ (ByteArray.mk #[48] ++ g50_0 (Int.tmod x0 60)) else g50_0 (Int.tdiv x0 60) ++ ByteArray.mk #[58] ++ g50_0 (Int.tmod x0 60))
theorem p39_0 (x0 : Int) : runF tab ext39 false 18 [] 2000 [] oks39 kds39 tys39 Tryd.f39.results [true] [.code b39] (entE 0 0 sig39 (x0, ())) (entL sig39 (x0, ())) = some ([Dyn.mk Ty.str (g50_0 (Int.tdiv x0 60) ++ ByteArray.mk #[58] ++ (ByteArray.mk #[48] ++ g50_0 (Int.tmod x0 60)))], [], [(60 : Int) ≠ (0 : Int), InR IntKind.i64 (Int.tmod x0 60), True, Decidable.decide ((↑(ByteArray.size (g50_0 (Int.tmod x0 60))) : Int) < 2) = Bool.true, 1 + ByteArray.size (g50_0 (Int.tmod x0 60)) ≤ 9223372036854775807, (60 : Int) ≠ (0 : Int), InR IntKind.i64 (Int.tdiv x0 60), True, ByteArray.size (g50_0 (Int.tdiv x0 60)) + 1 ≤ 9223372036854775807, ByteArray.size (g50_0 (Int.tdiv x0 60) ++ ByteArray.mk #[58]) + ByteArray.size (ByteArray.mk #[48] ++ g50_0 (Int.tmod x0 60)) ≤ 9223372036854775807]) := by kernel_rfl
theorem p39_1 (x0 : Int) : runF tab ext39 false 18 [] 2000 [] oks39 kds39 tys39 Tryd.f39.results [false] [.code b39] (entE 0 0 sig39 (x0, ())) (entL sig39 (x0, ())) = some ([Dyn.mk Ty.str (g50_0 (Int.tdiv x0 60) ++ ByteArray.mk #[58] ++ g50_0 (Int.tmod x0 60))], [], [(60 : Int) ≠ (0 : Int), InR IntKind.i64 (Int.tmod x0 60), True, Decidable.decide ((↑(ByteArray.size (g50_0 (Int.tmod x0 60))) : Int) < 2) = Bool.false, (60 : Int) ≠ (0 : Int), InR IntKind.i64 (Int.tdiv x0 60), True, ByteArray.size (g50_0 (Int.tdiv x0 60)) + 1 ≤ 9223372036854775807, ByteArray.size (g50_0 (Int.tdiv x0 60) ++ ByteArray.mk #[58]) + ByteArray.size (g50_0 (Int.tmod x0 60)) ≤ 9223372036854775807]) := by kernel_rfl
theorem at39 (x0 : Int) (h : P39 x0) (K : Ctx) (q : Nat → Value) : AtV Tryd.prog 39 (PostR kds39 oks39 [⟨Ty.str, g39_0 x0⟩] [] [] q K) 18 K q [] [.code b39] (entE 0 0 sig39 (x0, ())) (entL sig39 (x0, ())) := by
  unfold P39 at h
  unfold g39_0
  obtain ⟨s0, h⟩ := h
  by_cases b0 : (Decidable.decide ((↑(ByteArray.size (g50_0 (Int.tmod x0 60))) : Int) < 2)) = true
  · try simp only [if_pos b0] at h ⊢
    obtain ⟨s1, h⟩ := h
    obtain ⟨s2, h⟩ := h
    obtain ⟨s3, h⟩ := h
    obtain ⟨s4, h⟩ := h
    exact AtV.fin Tryd.func39 tabOk ext39Ok mixed (p39_0 x0) ⟨(by decide), s0, trivial, b0, s1, (by decide), s2, trivial, s3, s4, trivial⟩
  · try simp only [if_neg b0] at h ⊢
    replace b0 := Bool.eq_false_iff.2 b0
    obtain ⟨s1, h⟩ := h
    obtain ⟨s2, h⟩ := h
    obtain ⟨s3, h⟩ := h
    exact AtV.fin Tryd.func39 tabOk ext39Ok mixed (p39_1 x0) ⟨(by decide), s0, trivial, b0, (by decide), s1, trivial, s2, s3, trivial⟩

def S39 : Am.Spec := { sig := sig39, pre := fun ⟨x0, _⟩ => P39 x0, res := fun ⟨x0, _⟩ => [⟨Ty.str, g39_0 x0⟩], kds := kds39 }
theorem con39 : Contract Tryd.prog 39 S39 := contract_of Tryd.func39 hb39 (Nat.le_of_ble_eq_true (by kernel_rfl)) (fun ⟨x0, _⟩ h _ K q => at39 x0 h K q)


end Go.Proofs.YtomcblkbgnielaaDoor

/- Function 14 (spec.LapText): its runs between cut points. Written by a program of this repo (gen). -/
set_option linter.unusedVariables false
set_option linter.unusedSimpArgs false
set_option maxRecDepth 100000
namespace Go.Proofs.YtomcblkbgnielaaDoor
open Go Go.Am Go.Proofs
def ext14 : Ext := [(38, S38), (39, S39)]
theorem call14_38 : Callable Tryd.prog 38 := ⟨Tryd.f38, Tryd.func38, by kernel_rfl, by kernel_rfl⟩
theorem call14_39 : Callable Tryd.prog 39 := ⟨Tryd.f39, Tryd.func39, by kernel_rfl, by kernel_rfl⟩
theorem ext14Ok : ExtOk Tryd.prog ext14 := ⟨⟨call14_38, con38⟩, ⟨call14_39, con39⟩, trivial⟩

noncomputable def b14 : Code := bodyOf Tryd.f14
theorem hb14 : Tryd.f14.body = some b14 := by kernel_rfl
def sig14 : List AT := [AT.v (Ty.int IntKind.i64)]
def tys14 : List Ty := [Ty.str]
def kds14 : List RK := []
def oks14 : List AT := owns sig14
def P14 (x0 : Int) : Prop := (if (!g38_0 x0) = true then True else ((P39 x0) ∧ True))
def g14_0 (x0 : Int) : ByteArray := (if (!g38_0 x0) = true then ByteArray.mk #[] else g39_0 x0)
theorem p14_0 (x0 : Int) : runF tab ext14 false 8 [] 2000 [] oks14 kds14 tys14 Tryd.f14.results [true] [.code b14] (entE 0 0 sig14 (x0, ())) (entL sig14 (x0, ())) = some ([Dyn.mk Ty.str (ByteArray.mk #[])], [], [True, (!g38_0 x0) = Bool.true]) := by kernel_rfl
theorem p14_1 (x0 : Int) : runF tab ext14 false 8 [] 2000 [] oks14 kds14 tys14 Tryd.f14.results [false] [.code b14] (entE 0 0 sig14 (x0, ())) (entL sig14 (x0, ())) = some ([Dyn.mk Ty.str (g39_0 x0)], [], [True, (!g38_0 x0) = Bool.false, P39 x0]) := by kernel_rfl
theorem at14 (x0 : Int) (h : P14 x0) (K : Ctx) (q : Nat → Value) : AtV Tryd.prog 14 (PostR kds14 oks14 [⟨Ty.str, g14_0 x0⟩] [] [] q K) 8 K q [] [.code b14] (entE 0 0 sig14 (x0, ())) (entL sig14 (x0, ())) := by
  unfold P14 at h
  unfold g14_0
  by_cases b0 : (!g38_0 x0) = true
  · try simp only [if_pos b0] at h ⊢
    exact AtV.fin Tryd.func14 tabOk ext14Ok mixed (p14_0 x0) ⟨trivial, b0, trivial⟩
  · try simp only [if_neg b0] at h ⊢
    replace b0 := Bool.eq_false_iff.2 b0
    obtain ⟨s0, h⟩ := h
    exact AtV.fin Tryd.func14 tabOk ext14Ok mixed (p14_1 x0) ⟨trivial, b0, s0, trivial⟩

def S14 : Am.Spec := { sig := sig14, pre := fun ⟨x0, _⟩ => P14 x0, res := fun ⟨x0, _⟩ => [⟨Ty.str, g14_0 x0⟩], kds := kds14 }
theorem con14 : Contract Tryd.prog 14 S14 := contract_of Tryd.func14 hb14 (Nat.le_of_ble_eq_true (by kernel_rfl)) (fun ⟨x0, _⟩ h _ K q => at14 x0 h K q)


end Go.Proofs.YtomcblkbgnielaaDoor

/- Function 15 (spec.DrawSpeedText): its runs between cut points. Written by a program of this repo (gen). -/
set_option linter.unusedVariables false
set_option linter.unusedSimpArgs false
set_option maxRecDepth 100000
namespace Go.Proofs.YtomcblkbgnielaaDoor
open Go Go.Am Go.Proofs
def ext15 : Ext := [(22, S22), (36, S36)]
theorem call15_22 : Callable Tryd.prog 22 := ⟨Tryd.f22, Tryd.func22, by kernel_rfl, by kernel_rfl⟩
theorem call15_36 : Callable Tryd.prog 36 := ⟨Tryd.f36, Tryd.func36, by kernel_rfl, by kernel_rfl⟩
theorem ext15Ok : ExtOk Tryd.prog ext15 := ⟨⟨call15_22, con22⟩, ⟨call15_36, con36⟩, trivial⟩

noncomputable def b15 : Code := bodyOf Tryd.f15
theorem hb15 : Tryd.f15.body = some b15 := by kernel_rfl
def sig15 : List AT := [AT.v (Ty.sl (Ty.int IntKind.u8))]
def tys15 : List Ty := [Ty.int IntKind.i64]
def kds15 : List RK := []
def oks15 : List AT := owns sig15
def P15 (x0 : List Int) : Prop := ((P36 (x0, 0, 0, ())) ∧ True)
def g15_0 (x0 : List Int) : Int := g36_0 (x0, 0, 0, ())
theorem p15_0 (x0 : List Int) : runF tab ext15 false 8 [] 2000 [] oks15 kds15 tys15 Tryd.f15.results [] [.code b15] (entE 0 0 sig15 (x0, ())) (entL sig15 (x0, ())) = some ([Dyn.mk (Ty.int IntKind.i64) (g36_0 (x0, 0, 0, ()))], [], [True, P36 (x0, 0, 0, ())]) := by kernel_rfl
theorem at15 (x0 : List Int) (h : P15 x0) (K : Ctx) (q : Nat → Value) : AtV Tryd.prog 15 (PostR kds15 oks15 [⟨Ty.int IntKind.i64, g15_0 x0⟩] [] [] q K) 8 K q [] [.code b15] (entE 0 0 sig15 (x0, ())) (entL sig15 (x0, ())) := by
  unfold P15 at h
  unfold g15_0
  obtain ⟨s0, h⟩ := h
  exact AtV.fin Tryd.func15 tabOk ext15Ok mixed (p15_0 x0) ⟨trivial, s0, trivial⟩

def S15 : Am.Spec := { sig := sig15, pre := fun ⟨x0, _⟩ => P15 x0, res := fun ⟨x0, _⟩ => [⟨Ty.int IntKind.i64, g15_0 x0⟩], kds := kds15 }
theorem con15 : Contract Tryd.prog 15 S15 := contract_of Tryd.func15 hb15 (Nat.le_of_ble_eq_true (by kernel_rfl)) (fun ⟨x0, _⟩ h _ K q => at15 x0 h K q)


end Go.Proofs.YtomcblkbgnielaaDoor

/- Function 16 (impl.SpeedText): its runs between cut points. Written by a program of this repo (gen). -/
set_option linter.unusedVariables false
set_option linter.unusedSimpArgs false
set_option maxRecDepth 100000
namespace Go.Proofs.YtomcblkbgnielaaDoor
open Go Go.Am Go.Proofs
def ext16 : Ext := [(37, S37), (9, S9)]
theorem call16_37 : Callable Tryd.prog 37 := ⟨Tryd.f37, Tryd.func37, by kernel_rfl, by kernel_rfl⟩
theorem call16_9 : Callable Tryd.prog 9 := ⟨Tryd.f9, Tryd.func9, by kernel_rfl, by kernel_rfl⟩
theorem ext16Ok : ExtOk Tryd.prog ext16 := ⟨⟨call16_37, con37⟩, ⟨call16_9, con9⟩, trivial⟩

noncomputable def b16 : Code := bodyOf Tryd.f16
theorem hb16 : Tryd.f16.body = some b16 := by kernel_rfl
def sig16 : List AT := [AT.v (Ty.int IntKind.i64)]
def tys16 : List Ty := [Ty.str]
def kds16 : List RK := []
def oks16 : List AT := owns sig16
def P16 (x0 : Int) : Prop := (if (!g37_0 x0) = true then True else ((ByteArray.size (g9_0 x0 3) + 4 ≤ 9223372036854775807) ∧ True))
def g16_0 (x0 : Int) : ByteArray := (if (!g37_0 x0) = true then ByteArray.mk #[] else g9_0 x0 3 ++ ByteArray.mk #[32, 109, 47, 115])
theorem p16_0 (x0 : Int) : runF tab ext16 false 9 [] 2000 [] oks16 kds16 tys16 Tryd.f16.results [true] [.code b16] (entE 0 0 sig16 (x0, ())) (entL sig16 (x0, ())) = some ([Dyn.mk Ty.str (ByteArray.mk #[])], [], [True, (!g37_0 x0) = Bool.true]) := by kernel_rfl
theorem p16_1 (x0 : Int) : runF tab ext16 false 9 [] 2000 [] oks16 kds16 tys16 Tryd.f16.results [false] [.code b16] (entE 0 0 sig16 (x0, ())) (entL sig16 (x0, ())) = some ([Dyn.mk Ty.str (g9_0 x0 3 ++ ByteArray.mk #[32, 109, 47, 115])], [], [True, (!g37_0 x0) = Bool.false, True, ByteArray.size (g9_0 x0 3) + 4 ≤ 9223372036854775807]) := by kernel_rfl
theorem at16 (x0 : Int) (h : P16 x0) (K : Ctx) (q : Nat → Value) : AtV Tryd.prog 16 (PostR kds16 oks16 [⟨Ty.str, g16_0 x0⟩] [] [] q K) 9 K q [] [.code b16] (entE 0 0 sig16 (x0, ())) (entL sig16 (x0, ())) := by
  unfold P16 at h
  unfold g16_0
  by_cases b0 : (!g37_0 x0) = true
  · try simp only [if_pos b0] at h ⊢
    exact AtV.fin Tryd.func16 tabOk ext16Ok mixed (p16_0 x0) ⟨trivial, b0, trivial⟩
  · try simp only [if_neg b0] at h ⊢
    replace b0 := Bool.eq_false_iff.2 b0
    obtain ⟨s0, h⟩ := h
    exact AtV.fin Tryd.func16 tabOk ext16Ok mixed (p16_1 x0) ⟨trivial, b0, trivial, s0, trivial⟩

def S16 : Am.Spec := { sig := sig16, pre := fun ⟨x0, _⟩ => P16 x0, res := fun ⟨x0, _⟩ => [⟨Ty.str, g16_0 x0⟩], kds := kds16 }
theorem con16 : Contract Tryd.prog 16 S16 := contract_of Tryd.func16 hb16 (Nat.le_of_ble_eq_true (by kernel_rfl)) (fun ⟨x0, _⟩ h _ K q => at16 x0 h K q)


end Go.Proofs.YtomcblkbgnielaaDoor

/- Function 40 (strings.TrimSuffix): its contract, off what is known of the library. -/
set_option linter.unusedVariables false
set_option linter.unusedSimpArgs false
set_option maxRecDepth 100000
namespace Go.Proofs.YtomcblkbgnielaaDoor
open Go Go.Am Go.Proofs
def sig40 : List AT := [AT.v Ty.str, AT.v Ty.str]
def g40_0 (x0 x1 : ByteArray) : ByteArray := ⟨(Lib.trimSuffix x0.data.toList x1.data.toList).toArray⟩
def P40 (x0 x1 : ByteArray) : Prop := True
def S40 : Am.Spec := { sig := sig40, pre := fun ⟨x0, x1, _⟩ => P40 x0 x1, res := fun ⟨x0, x1, _⟩ => [⟨Ty.str, g40_0 x0 x1⟩] }
theorem con40 : Contract Tryd.prog 40 S40 := contract_flat rfl fun w ⟨x0, x1, _⟩ vs bss hg hp hw ha => by
  obtain ⟨v0, s0, _, _, rfl, _, ⟨_, rfl, _⟩, v1, s1, _, _, rfl, _, ⟨_, rfl, _⟩, rfl, _⟩ := ha
  have hi : x0.size ≤ maxLen := hw.1
  refine ⟨fun d hd => ?_, ?_⟩
  · rw [List.mem_singleton.1 hd]
    refine ⟨rfl, ?_⟩
    show (List.toArray _).size ≤ maxLen
    rw [List.size_toArray]
    have e : x0.data.toList.length = x0.size := rfl
    unfold Lib.trimSuffix
    split
    · rw [List.length_take]; omega
    · omega
  · refine (Tryd.strings_TrimSuffix x0 x1 w hi).mono ?_
    rintro e w' ⟨rfl, rfl⟩
    exact ⟨rfl, Kept.refl _ _⟩

end Go.Proofs.YtomcblkbgnielaaDoor

/- Function 17 (impl.ReadSpeed): its runs between cut points. Written by a program of this repo (gen). -/
set_option linter.unusedVariables false
set_option linter.unusedSimpArgs false
set_option maxRecDepth 100000
namespace Go.Proofs.YtomcblkbgnielaaDoor
open Go Go.Am Go.Proofs
def ext17 : Ext := [(40, S40), (10, S10), (16, S16)]
theorem call17_40 : Callable Tryd.prog 40 := ⟨Tryd.f40, Tryd.func40, by kernel_rfl, by kernel_rfl⟩
theorem call17_10 : Callable Tryd.prog 10 := ⟨Tryd.f10, Tryd.func10, by kernel_rfl, by kernel_rfl⟩
theorem call17_16 : Callable Tryd.prog 16 := ⟨Tryd.f16, Tryd.func16, by kernel_rfl, by kernel_rfl⟩
theorem ext17Ok : ExtOk Tryd.prog ext17 := ⟨⟨call17_40, con40⟩, ⟨call17_10, con10⟩, ⟨call17_16, con16⟩, trivial⟩

noncomputable def b17 : Code := bodyOf Tryd.f17
theorem hb17 : Tryd.f17.body = some b17 := by kernel_rfl
def sig17 : List AT := [AT.v (Ty.str)]
def tys17 : List Ty := [Ty.int IntKind.i64, Ty.bool]
def kds17 : List RK := []
def oks17 : List AT := owns sig17
def P17 (x0 : ByteArray) : Prop := ((P10 (g40_0 x0 (ByteArray.mk #[32, 109, 47, 115])) 3) ∧ (if (!g10_1 (g40_0 x0 (ByteArray.mk #[32, 109, 47, 115])) 3) = true then True else ((P16 (g10_0 (g40_0 x0 (ByteArray.mk #[32, 109, 47, 115])) 3)) ∧ True)))
def g17_0 (x0 : ByteArray) : Int := (if (!g10_1 (g40_0 x0 (ByteArray.mk #[32, 109, 47, 115])) 3) = true then 0 else (if (!ByteArray.toList (g16_0 (g10_0 (g40_0 x0 (ByteArray.mk #[32, 109, 47, 115])) 3)) == ByteArray.toList x0) = true then 0 else g10_0 (g40_0 x0 (ByteArray.mk #[32, 109, 47, 115])) 3))
def g17_1 (x0 : ByteArray) : Bool := (if (!g10_1 (g40_0 x0 (ByteArray.mk #[32, 109, 47, 115])) 3) = true then Bool.false else (if (!ByteArray.toList (g16_0 (g10_0 (g40_0 x0 (ByteArray.mk #[32, 109, 47, 115])) 3)) == ByteArray.toList x0) = true then Bool.false else Bool.true))
theorem p17_0 (x0 : ByteArray) : runF tab ext17 false 21 [] 2000 [] oks17 kds17 tys17 Tryd.f17.results [true, true] [.code b17] (entE 0 0 sig17 (x0, ())) (entL sig17 (x0, ())) = some ([Dyn.mk (Ty.int IntKind.i64) 0, Dyn.mk Ty.bool Bool.false], [], [True, P10 (g40_0 x0 (ByteArray.mk #[32, 109, 47, 115])) 3, (!g10_1 (g40_0 x0 (ByteArray.mk #[32, 109, 47, 115])) 3) = Bool.true, Bool.true = Bool.true]) := by kernel_rfl
theorem p17_1 (x0 : ByteArray) : runF tab ext17 false 21 [] 2000 [] oks17 kds17 tys17 Tryd.f17.results [false, true] [.code b17] (entE 0 0 sig17 (x0, ())) (entL sig17 (x0, ())) = some ([Dyn.mk (Ty.int IntKind.i64) 0, Dyn.mk Ty.bool Bool.false], [], [True, P10 (g40_0 x0 (ByteArray.mk #[32, 109, 47, 115])) 3, (!g10_1 (g40_0 x0 (ByteArray.mk #[32, 109, 47, 115])) 3) = Bool.false, P16 (g10_0 (g40_0 x0 (ByteArray.mk #[32, 109, 47, 115])) 3), (!ByteArray.toList (g16_0 (g10_0 (g40_0 x0 (ByteArray.mk #[32, 109, 47, 115])) 3)) == ByteArray.toList x0) = Bool.true]) := by kernel_rfl
theorem p17_2 (x0 : ByteArray) : runF tab ext17 false 21 [] 2000 [] oks17 kds17 tys17 Tryd.f17.results [false, false] [.code b17] (entE 0 0 sig17 (x0, ())) (entL sig17 (x0, ())) = some ([Dyn.mk (Ty.int IntKind.i64) (g10_0 (g40_0 x0 (ByteArray.mk #[32, 109, 47, 115])) 3), Dyn.mk Ty.bool Bool.true], [], [True, P10 (g40_0 x0 (ByteArray.mk #[32, 109, 47, 115])) 3, (!g10_1 (g40_0 x0 (ByteArray.mk #[32, 109, 47, 115])) 3) = Bool.false, P16 (g10_0 (g40_0 x0 (ByteArray.mk #[32, 109, 47, 115])) 3), (!ByteArray.toList (g16_0 (g10_0 (g40_0 x0 (ByteArray.mk #[32, 109, 47, 115])) 3)) == ByteArray.toList x0) = Bool.false]) := by kernel_rfl
theorem at17 (x0 : ByteArray) (h : P17 x0) (K : Ctx) (q : Nat → Value) : AtV Tryd.prog 17 (PostR kds17 oks17 [⟨Ty.int IntKind.i64, g17_0 x0⟩, ⟨Ty.bool, g17_1 x0⟩] [] [] q K) 21 K q [] [.code b17] (entE 0 0 sig17 (x0, ())) (entL sig17 (x0, ())) := by
  unfold P17 at h
  unfold g17_0 g17_1
  obtain ⟨s0, h⟩ := h
  by_cases b0 : (!g10_1 (g40_0 x0 (ByteArray.mk #[32, 109, 47, 115])) 3) = true
  · try simp only [if_pos b0] at h ⊢
    exact AtV.fin Tryd.func17 tabOk ext17Ok mixed (p17_0 x0) ⟨trivial, s0, b0, rfl, trivial⟩
  · try simp only [if_neg b0] at h ⊢
    replace b0 := Bool.eq_false_iff.2 b0
    obtain ⟨s1, h⟩ := h
    by_cases b1 : (!ByteArray.toList (g16_0 (g10_0 (g40_0 x0 (ByteArray.mk #[32, 109, 47, 115])) 3)) == ByteArray.toList x0) = true
    · try simp only [if_pos b1] at h ⊢
      exact AtV.fin Tryd.func17 tabOk ext17Ok mixed (p17_1 x0) ⟨trivial, s0, b0, s1, b1, trivial⟩
    · try simp only [if_neg b1] at h ⊢
      replace b1 := Bool.eq_false_iff.2 b1
      exact AtV.fin Tryd.func17 tabOk ext17Ok mixed (p17_2 x0) ⟨trivial, s0, b0, s1, b1, trivial⟩

def S17 : Am.Spec := { sig := sig17, pre := fun ⟨x0, _⟩ => P17 x0, res := fun ⟨x0, _⟩ => [⟨Ty.int IntKind.i64, g17_0 x0⟩, ⟨Ty.bool, g17_1 x0⟩], kds := kds17 }
theorem con17 : Contract Tryd.prog 17 S17 := contract_of Tryd.func17 hb17 (Nat.le_of_ble_eq_true (by kernel_rfl)) (fun ⟨x0, _⟩ h _ K q => at17 x0 h K q)


end Go.Proofs.YtomcblkbgnielaaDoor

/- Function 41 (impl.nearest): its runs between cut points. Written by a program of this repo (gen). -/
set_option linter.unusedVariables false
set_option linter.unusedSimpArgs false
set_option maxRecDepth 100000
namespace Go.Proofs.YtomcblkbgnielaaDoor
open Go Go.Am Go.Proofs
def ext41 : Ext := [(33, S33)]
theorem call41_33 : Callable Tryd.prog 33 := ⟨Tryd.f33, Tryd.func33, by kernel_rfl, by kernel_rfl⟩
theorem ext41Ok : ExtOk Tryd.prog ext41 := ⟨⟨call41_33, con33⟩, trivial⟩

noncomputable def b41 : Code := bodyOf Tryd.f41
theorem hb41 : Tryd.f41.body = some b41 := by kernel_rfl
def sig41 : List AT := [AT.v (Ty.int IntKind.i64), AT.v (Ty.int IntKind.i64)]
def tys41 : List Ty := [Ty.int IntKind.i64]
def kds41 : List RK := []
def oks41 : List AT := owns sig41
def P41 (x0 : Int) (x1 : Int) : Prop := ((x1 ≠ 0) ∧ (InR IntKind.i64 (Int.tdiv x0 x1)) ∧ ((x1 ≠ 0) ∧ (InR IntKind.i64 (Int.tmod x0 x1)) ∧ ((P33 (Int.tmod x0 x1)) ∧ ((P33 x1) ∧ ((InR IntKind.i64 (g33_0 x1 - g33_0 (Int.tmod x0 x1))) ∧ (if (Decidable.decide (g33_0 (Int.tmod x0 x1) ≥ g33_0 x1 - g33_0 (Int.tmod x0 x1))) = true then (if (!Decidable.decide (x0 < 0) == Decidable.decide (x1 < 0)) = true then ((InR IntKind.i64 (Int.tdiv x0 x1 - 1)) ∧ True) else ((InR IntKind.i64 (Int.tdiv x0 x1 + 1)) ∧ True)) else True))))))
def g41_0 (x0 : Int) (x1 : Int) : Int := (if (Decidable.decide (g33_0 (Int.tmod x0 x1) ≥ g33_0 x1 - g33_0 (Int.tmod x0 x1))) = true then (if (!Decidable.decide (x0 < 0) == Decidable.decide (x1 < 0)) = true then Int.tdiv x0 x1 - 1 else Int.tdiv x0 x1 + 1) else Int.tdiv x0 x1)
theorem p41_0 (x0 : Int) (x1 : Int) : runF tab ext41 false 30 [] 2000 [] oks41 kds41 tys41 Tryd.f41.results [true, true] [.code b41] (entE 0 0 sig41 (x0, x1, ())) (entL sig41 (x0, x1, ())) = some ([Dyn.mk (Ty.int IntKind.i64) (Int.tdiv x0 x1 - 1)], [], [x1 ≠ 0, InR IntKind.i64 (Int.tdiv x0 x1), x1 ≠ 0, InR IntKind.i64 (Int.tmod x0 x1), P33 (Int.tmod x0 x1), P33 x1, InR IntKind.i64 (g33_0 x1 - g33_0 (Int.tmod x0 x1)), Decidable.decide (g33_0 (Int.tmod x0 x1) ≥ g33_0 x1 - g33_0 (Int.tmod x0 x1)) = Bool.true, (!Decidable.decide (x0 < 0) == Decidable.decide (x1 < 0)) = Bool.true, InR IntKind.i64 (Int.tdiv x0 x1 - 1)]) := by kernel_rfl
theorem p41_1 (x0 : Int) (x1 : Int) : runF tab ext41 false 30 [] 2000 [] oks41 kds41 tys41 Tryd.f41.results [true, false] [.code b41] (entE 0 0 sig41 (x0, x1, ())) (entL sig41 (x0, x1, ())) = some ([Dyn.mk (Ty.int IntKind.i64) (Int.tdiv x0 x1 + 1)], [], [x1 ≠ 0, InR IntKind.i64 (Int.tdiv x0 x1), x1 ≠ 0, InR IntKind.i64 (Int.tmod x0 x1), P33 (Int.tmod x0 x1), P33 x1, InR IntKind.i64 (g33_0 x1 - g33_0 (Int.tmod x0 x1)), Decidable.decide (g33_0 (Int.tmod x0 x1) ≥ g33_0 x1 - g33_0 (Int.tmod x0 x1)) = Bool.true, (!Decidable.decide (x0 < 0) == Decidable.decide (x1 < 0)) = Bool.false, InR IntKind.i64 (Int.tdiv x0 x1 + 1)]) := by kernel_rfl
theorem p41_2 (x0 : Int) (x1 : Int) : runF tab ext41 false 30 [] 2000 [] oks41 kds41 tys41 Tryd.f41.results [false] [.code b41] (entE 0 0 sig41 (x0, x1, ())) (entL sig41 (x0, x1, ())) = some ([Dyn.mk (Ty.int IntKind.i64) (Int.tdiv x0 x1)], [], [x1 ≠ 0, InR IntKind.i64 (Int.tdiv x0 x1), x1 ≠ 0, InR IntKind.i64 (Int.tmod x0 x1), P33 (Int.tmod x0 x1), P33 x1, InR IntKind.i64 (g33_0 x1 - g33_0 (Int.tmod x0 x1)), Decidable.decide (g33_0 (Int.tmod x0 x1) ≥ g33_0 x1 - g33_0 (Int.tmod x0 x1)) = Bool.false]) := by kernel_rfl
theorem at41 (x0 : Int) (x1 : Int) (h : P41 x0 x1) (K : Ctx) (q : Nat → Value) : AtV Tryd.prog 41 (PostR kds41 oks41 [⟨Ty.int IntKind.i64, g41_0 x0 x1⟩] [] [] q K) 30 K q [] [.code b41] (entE 0 0 sig41 (x0, x1, ())) (entL sig41 (x0, x1, ())) := by
  unfold P41 at h
  unfold g41_0
  obtain ⟨s0, s1, h⟩ := h
  obtain ⟨s2, s3, h⟩ := h
  obtain ⟨s4, h⟩ := h
  obtain ⟨s5, h⟩ := h
  obtain ⟨s6, h⟩ := h
  by_cases b0 : (Decidable.decide (g33_0 (Int.tmod x0 x1) ≥ g33_0 x1 - g33_0 (Int.tmod x0 x1))) = true
  · try simp only [if_pos b0] at h ⊢
    by_cases b1 : (!Decidable.decide (x0 < 0) == Decidable.decide (x1 < 0)) = true
    · try simp only [if_pos b1] at h ⊢
      obtain ⟨s7, h⟩ := h
      exact AtV.fin Tryd.func41 tabOk ext41Ok mixed (p41_0 x0 x1) ⟨s0, s1, s2, s3, s4, s5, s6, b0, b1, s7, trivial⟩
    · try simp only [if_neg b1] at h ⊢
      replace b1 := Bool.eq_false_iff.2 b1
      obtain ⟨s7, h⟩ := h
      exact AtV.fin Tryd.func41 tabOk ext41Ok mixed (p41_1 x0 x1) ⟨s0, s1, s2, s3, s4, s5, s6, b0, b1, s7, trivial⟩
  · try simp only [if_neg b0] at h ⊢
    replace b0 := Bool.eq_false_iff.2 b0
    exact AtV.fin Tryd.func41 tabOk ext41Ok mixed (p41_2 x0 x1) ⟨s0, s1, s2, s3, s4, s5, s6, b0, trivial⟩

def S41 : Am.Spec := { sig := sig41, pre := fun ⟨x0, x1, _⟩ => P41 x0 x1, res := fun ⟨x0, x1, _⟩ => [⟨Ty.int IntKind.i64, g41_0 x0 x1⟩], kds := kds41 }
theorem con41 : Contract Tryd.prog 41 S41 := contract_of Tryd.func41 hb41 (Nat.le_of_ble_eq_true (by kernel_rfl)) (fun ⟨x0, x1, _⟩ h _ K q => at41 x0 x1 h K q)


end Go.Proofs.YtomcblkbgnielaaDoor

/- Function 18 (impl.HourSpeed): its runs between cut points. Written by a program of this repo (gen). -/
set_option linter.unusedVariables false
set_option linter.unusedSimpArgs false
set_option maxRecDepth 100000
namespace Go.Proofs.YtomcblkbgnielaaDoor
open Go Go.Am Go.Proofs
def ext18 : Ext := [(37, S37), (41, S41)]
theorem call18_37 : Callable Tryd.prog 37 := ⟨Tryd.f37, Tryd.func37, by kernel_rfl, by kernel_rfl⟩
theorem call18_41 : Callable Tryd.prog 41 := ⟨Tryd.f41, Tryd.func41, by kernel_rfl, by kernel_rfl⟩
theorem ext18Ok : ExtOk Tryd.prog ext18 := ⟨⟨call18_37, con37⟩, ⟨call18_41, con41⟩, trivial⟩

noncomputable def b18 : Code := bodyOf Tryd.f18
theorem hb18 : Tryd.f18.body = some b18 := by kernel_rfl
def sig18 : List AT := [AT.v (Ty.int IntKind.i64)]
def tys18 : List Ty := [Ty.int IntKind.i64, Ty.int IntKind.i64]
def kds18 : List RK := []
def oks18 : List AT := owns sig18
def P18 (x0 : Int) : Prop := (if (!g37_0 x0) = true then True else ((InR IntKind.i64 (36 * x0)) ∧ ((P41 (36 * x0) 10) ∧ True)))
def g18_0 (x0 : Int) : Int := (if (!g37_0 x0) = true then 0 else g41_0 (36 * x0) 10)
def g18_1 (x0 : Int) : Int := (if (!g37_0 x0) = true then 2 else 0)
theorem p18_0 (x0 : Int) : runF tab ext18 false 10 [] 2000 [] oks18 kds18 tys18 Tryd.f18.results [true] [.code b18] (entE 0 0 sig18 (x0, ())) (entL sig18 (x0, ())) = some ([Dyn.mk (Ty.int IntKind.i64) 0, Dyn.mk (Ty.int IntKind.i64) 2], [], [True, (!g37_0 x0) = Bool.true]) := by kernel_rfl
theorem p18_1 (x0 : Int) : runF tab ext18 false 10 [] 2000 [] oks18 kds18 tys18 Tryd.f18.results [false] [.code b18] (entE 0 0 sig18 (x0, ())) (entL sig18 (x0, ())) = some ([Dyn.mk (Ty.int IntKind.i64) (g41_0 (36 * x0) 10), Dyn.mk (Ty.int IntKind.i64) 0], [], [True, (!g37_0 x0) = Bool.false, InR IntKind.i64 (36 * x0), P41 (36 * x0) 10]) := by kernel_rfl
theorem at18 (x0 : Int) (h : P18 x0) (K : Ctx) (q : Nat → Value) : AtV Tryd.prog 18 (PostR kds18 oks18 [⟨Ty.int IntKind.i64, g18_0 x0⟩, ⟨Ty.int IntKind.i64, g18_1 x0⟩] [] [] q K) 10 K q [] [.code b18] (entE 0 0 sig18 (x0, ())) (entL sig18 (x0, ())) := by
  unfold P18 at h
  unfold g18_0 g18_1
  by_cases b0 : (!g37_0 x0) = true
  · try simp only [if_pos b0] at h ⊢
    exact AtV.fin Tryd.func18 tabOk ext18Ok mixed (p18_0 x0) ⟨trivial, b0, trivial⟩
  · try simp only [if_neg b0] at h ⊢
    replace b0 := Bool.eq_false_iff.2 b0
    obtain ⟨s0, h⟩ := h
    obtain ⟨s1, h⟩ := h
    exact AtV.fin Tryd.func18 tabOk ext18Ok mixed (p18_1 x0) ⟨trivial, b0, s0, s1, trivial⟩

def S18 : Am.Spec := { sig := sig18, pre := fun ⟨x0, _⟩ => P18 x0, res := fun ⟨x0, _⟩ => [⟨Ty.int IntKind.i64, g18_0 x0⟩, ⟨Ty.int IntKind.i64, g18_1 x0⟩], kds := kds18 }
theorem con18 : Contract Tryd.prog 18 S18 := contract_of Tryd.func18 hb18 (Nat.le_of_ble_eq_true (by kernel_rfl)) (fun ⟨x0, _⟩ h _ K q => at18 x0 h K q)


end Go.Proofs.YtomcblkbgnielaaDoor

/- Function 19 (laws.b10Abs): its runs between cut points. Written by a program of this repo (gen). -/
set_option linter.unusedVariables false
set_option linter.unusedSimpArgs false
set_option maxRecDepth 100000
namespace Go.Proofs.YtomcblkbgnielaaDoor
open Go Go.Am Go.Proofs
def ext19 : Ext := []
theorem ext19Ok : ExtOk Tryd.prog ext19 := trivial

noncomputable def b19 : Code := bodyOf Tryd.f19
theorem hb19 : Tryd.f19.body = some b19 := by kernel_rfl
def sig19 : List AT := [AT.v (Ty.int IntKind.i64)]
def tys19 : List Ty := [Ty.int IntKind.i64]
def kds19 : List RK := []
def oks19 : List AT := owns sig19
def P19 (x0 : Int) : Prop := (if (Decidable.decide (x0 < 0)) = true then ((InR IntKind.i64 (0 - x0)) ∧ True) else True)
def g19_0 (x0 : Int) : Int := (if (Decidable.decide (x0 < 0)) = true then 0 - x0 else x0)
theorem p19_0 (x0 : Int) : runF tab ext19 false 8 [] 2000 [] oks19 kds19 tys19 Tryd.f19.results [true] [.code b19] (entE 0 0 sig19 (x0, ())) (entL sig19 (x0, ())) = some ([Dyn.mk (Ty.int IntKind.i64) (0 - x0)], [], [Decidable.decide (x0 < 0) = Bool.true, InR IntKind.i64 (0 - x0)]) := by kernel_rfl
theorem p19_1 (x0 : Int) : runF tab ext19 false 8 [] 2000 [] oks19 kds19 tys19 Tryd.f19.results [false] [.code b19] (entE 0 0 sig19 (x0, ())) (entL sig19 (x0, ())) = some ([Dyn.mk (Ty.int IntKind.i64) x0], [], [Decidable.decide (x0 < 0) = Bool.false]) := by kernel_rfl
theorem at19 (x0 : Int) (h : P19 x0) (K : Ctx) (q : Nat → Value) : AtV Tryd.prog 19 (PostR kds19 oks19 [⟨Ty.int IntKind.i64, g19_0 x0⟩] [] [] q K) 8 K q [] [.code b19] (entE 0 0 sig19 (x0, ())) (entL sig19 (x0, ())) := by
  unfold P19 at h
  unfold g19_0
  by_cases b0 : (Decidable.decide (x0 < 0)) = true
  · try simp only [if_pos b0] at h ⊢
    obtain ⟨s0, h⟩ := h
    exact AtV.fin Tryd.func19 tabOk ext19Ok mixed (p19_0 x0) ⟨b0, s0, trivial⟩
  · try simp only [if_neg b0] at h ⊢
    replace b0 := Bool.eq_false_iff.2 b0
    exact AtV.fin Tryd.func19 tabOk ext19Ok mixed (p19_1 x0) ⟨b0, trivial⟩

def S19 : Am.Spec := { sig := sig19, pre := fun ⟨x0, _⟩ => P19 x0, res := fun ⟨x0, _⟩ => [⟨Ty.int IntKind.i64, g19_0 x0⟩], kds := kds19 }
theorem con19 : Contract Tryd.prog 19 S19 := contract_of Tryd.func19 hb19 (Nat.le_of_ble_eq_true (by kernel_rfl)) (fun ⟨x0, _⟩ h _ K q => at19 x0 h K q)


end Go.Proofs.YtomcblkbgnielaaDoor

/- Function 20 (spec.DrawSecondsFor): its runs between cut points. Written by a program of this repo (gen). -/
set_option linter.unusedVariables false
set_option linter.unusedSimpArgs false
set_option maxRecDepth 100000
namespace Go.Proofs.YtomcblkbgnielaaDoor
open Go Go.Am Go.Proofs
def ext20 : Ext := [(22, S22), (36, S36), (23, S23), (24, S24), (25, S25)]
theorem call20_22 : Callable Tryd.prog 22 := ⟨Tryd.f22, Tryd.func22, by kernel_rfl, by kernel_rfl⟩
theorem call20_36 : Callable Tryd.prog 36 := ⟨Tryd.f36, Tryd.func36, by kernel_rfl, by kernel_rfl⟩
theorem call20_23 : Callable Tryd.prog 23 := ⟨Tryd.f23, Tryd.func23, by kernel_rfl, by kernel_rfl⟩
theorem call20_24 : Callable Tryd.prog 24 := ⟨Tryd.f24, Tryd.func24, by kernel_rfl, by kernel_rfl⟩
theorem call20_25 : Callable Tryd.prog 25 := ⟨Tryd.f25, Tryd.func25, by kernel_rfl, by kernel_rfl⟩
theorem ext20Ok : ExtOk Tryd.prog ext20 := ⟨⟨call20_22, con22⟩, ⟨call20_36, con36⟩, ⟨call20_23, con23⟩, ⟨call20_24, con24⟩, ⟨call20_25, con25⟩, trivial⟩

noncomputable def b20 : Code := bodyOf Tryd.f20
theorem hb20 : Tryd.f20.body = some b20 := by kernel_rfl
def sig20 : List AT := [AT.v (Ty.sl (Ty.int IntKind.u8))]
def tys20 : List Ty := [Ty.int IntKind.i64, Ty.int IntKind.i64]
def kds20 : List RK := []
def oks20 : List AT := owns sig20
def P20 (x0 : List Int) : Prop := ((P36 (x0, 0, 0, ())) ∧ ((P23 (u36_0 (x0, 0, 0, ())) 9) ∧ (if (g23_0 (u36_0 (x0, 0, 0, ())) 9) = true then ((P24 (u23_0 (u36_0 (x0, 0, 0, ())) 9) [0, 1, 1000000000, 1000000001]) ∧ True) else ((P25 (u23_0 (u36_0 (x0, 0, 0, ())) 9) 900) ∧ ((InR IntKind.i64 (1 + g25_0 (u23_0 (u36_0 (x0, 0, 0, ())) 9) 900)) ∧ True)))))
def g20_0 (x0 : List Int) : Int := (if (g23_0 (u36_0 (x0, 0, 0, ())) 9) = true then g36_0 (x0, 0, 0, ()) else g36_0 (x0, 0, 0, ()))
def g20_1 (x0 : List Int) : Int := (if (g23_0 (u36_0 (x0, 0, 0, ())) 9) = true then g24_0 (u23_0 (u36_0 (x0, 0, 0, ())) 9) [0, 1, 1000000000, 1000000001] else 1 + g25_0 (u23_0 (u36_0 (x0, 0, 0, ())) 9) 900)
theorem p20_0 (x0 : List Int) : runF tab ext20 false 20 [] 2000 [] oks20 kds20 tys20 Tryd.f20.results [true] [.code b20] (entE 0 0 sig20 (x0, ())) (entL sig20 (x0, ())) = some ([Dyn.mk (Ty.int IntKind.i64) (g36_0 (x0, 0, 0, ())), Dyn.mk (Ty.int IntKind.i64) (g24_0 (u23_0 (u36_0 (x0, 0, 0, ())) 9) [0, 1, 1000000000, 1000000001])], [], [True, P36 (x0, 0, 0, ()), P23 (u36_0 (x0, 0, 0, ())) 9, g23_0 (u36_0 (x0, 0, 0, ())) 9 = Bool.true, P24 (u23_0 (u36_0 (x0, 0, 0, ())) 9) [0, 1, 1000000000, 1000000001]]) := by kernel_rfl
theorem p20_1 (x0 : List Int) : runF tab ext20 false 20 [] 2000 [] oks20 kds20 tys20 Tryd.f20.results [false] [.code b20] (entE 0 0 sig20 (x0, ())) (entL sig20 (x0, ())) = some ([Dyn.mk (Ty.int IntKind.i64) (g36_0 (x0, 0, 0, ())), Dyn.mk (Ty.int IntKind.i64) (1 + g25_0 (u23_0 (u36_0 (x0, 0, 0, ())) 9) 900)], [], [True, P36 (x0, 0, 0, ()), P23 (u36_0 (x0, 0, 0, ())) 9, g23_0 (u36_0 (x0, 0, 0, ())) 9 = Bool.false, P25 (u23_0 (u36_0 (x0, 0, 0, ())) 9) 900, InR IntKind.i64 (1 + g25_0 (u23_0 (u36_0 (x0, 0, 0, ())) 9) 900)]) := by kernel_rfl
theorem at20 (x0 : List Int) (h : P20 x0) (K : Ctx) (q : Nat → Value) : AtV Tryd.prog 20 (PostR kds20 oks20 [⟨Ty.int IntKind.i64, g20_0 x0⟩, ⟨Ty.int IntKind.i64, g20_1 x0⟩] [] [] q K) 20 K q [] [.code b20] (entE 0 0 sig20 (x0, ())) (entL sig20 (x0, ())) := by
  unfold P20 at h
  unfold g20_0 g20_1
  obtain ⟨s0, h⟩ := h
  obtain ⟨s1, h⟩ := h
  by_cases b0 : (g23_0 (u36_0 (x0, 0, 0, ())) 9) = true
  · try simp only [if_pos b0] at h ⊢
    obtain ⟨s2, h⟩ := h
    exact AtV.fin Tryd.func20 tabOk ext20Ok mixed (p20_0 x0) ⟨trivial, s0, s1, b0, s2, trivial⟩
  · try simp only [if_neg b0] at h ⊢
    replace b0 := Bool.eq_false_iff.2 b0
    obtain ⟨s2, h⟩ := h
    obtain ⟨s3, h⟩ := h
    exact AtV.fin Tryd.func20 tabOk ext20Ok mixed (p20_1 x0) ⟨trivial, s0, s1, b0, s2, s3, trivial⟩

def S20 : Am.Spec := { sig := sig20, pre := fun ⟨x0, _⟩ => P20 x0, res := fun ⟨x0, _⟩ => [⟨Ty.int IntKind.i64, g20_0 x0⟩, ⟨Ty.int IntKind.i64, g20_1 x0⟩], kds := kds20 }
theorem con20 : Contract Tryd.prog 20 S20 := contract_of Tryd.func20 hb20 (Nat.le_of_ble_eq_true (by kernel_rfl)) (fun ⟨x0, _⟩ h _ K q => at20 x0 h K q)


end Go.Proofs.YtomcblkbgnielaaDoor

/- Function 42 (impl.ceilDiv): its runs between cut points. Written by a program of this repo (gen). -/
set_option linter.unusedVariables false
set_option linter.unusedSimpArgs false
set_option maxRecDepth 100000
namespace Go.Proofs.YtomcblkbgnielaaDoor
open Go Go.Am Go.Proofs
def ext42 : Ext := []
theorem ext42Ok : ExtOk Tryd.prog ext42 := trivial

noncomputable def b42 : Code := bodyOf Tryd.f42
theorem hb42 : Tryd.f42.body = some b42 := by kernel_rfl
def sig42 : List AT := [AT.v (Ty.int IntKind.i64), AT.v (Ty.int IntKind.i64)]
def tys42 : List Ty := [Ty.int IntKind.i64]
def kds42 : List RK := []
def oks42 : List AT := owns sig42
def P42 (x0 : Int) (x1 : Int) : Prop := ((InR IntKind.i64 (x0 + x1)) ∧ ((InR IntKind.i64 (x0 + x1 - 1)) ∧ ((x1 ≠ 0) ∧ (InR IntKind.i64 (Int.tdiv (x0 + x1 - 1) x1)) ∧ True)))
def g42_0 (x0 : Int) (x1 : Int) : Int := Int.tdiv (x0 + x1 - 1) x1
theorem p42_0 (x0 : Int) (x1 : Int) : runF tab ext42 false 11 [] 2000 [] oks42 kds42 tys42 Tryd.f42.results [] [.code b42] (entE 0 0 sig42 (x0, x1, ())) (entL sig42 (x0, x1, ())) = some ([Dyn.mk (Ty.int IntKind.i64) (Int.tdiv (x0 + x1 - 1) x1)], [], [InR IntKind.i64 (x0 + x1), InR IntKind.i64 (x0 + x1 - 1), x1 ≠ 0, InR IntKind.i64 (Int.tdiv (x0 + x1 - 1) x1)]) := by kernel_rfl
theorem at42 (x0 : Int) (x1 : Int) (h : P42 x0 x1) (K : Ctx) (q : Nat → Value) : AtV Tryd.prog 42 (PostR kds42 oks42 [⟨Ty.int IntKind.i64, g42_0 x0 x1⟩] [] [] q K) 11 K q [] [.code b42] (entE 0 0 sig42 (x0, x1, ())) (entL sig42 (x0, x1, ())) := by
  unfold P42 at h
  unfold g42_0
  obtain ⟨s0, h⟩ := h
  obtain ⟨s1, h⟩ := h
  obtain ⟨s2, s3, h⟩ := h
  exact AtV.fin Tryd.func42 tabOk ext42Ok mixed (p42_0 x0 x1) ⟨s0, s1, s2, s3, trivial⟩

def S42 : Am.Spec := { sig := sig42, pre := fun ⟨x0, x1, _⟩ => P42 x0 x1, res := fun ⟨x0, x1, _⟩ => [⟨Ty.int IntKind.i64, g42_0 x0 x1⟩], kds := kds42 }
theorem con42 : Contract Tryd.prog 42 S42 := contract_of Tryd.func42 hb42 (Nat.le_of_ble_eq_true (by kernel_rfl)) (fun ⟨x0, x1, _⟩ h _ K q => at42 x0 x1 h K q)


end Go.Proofs.YtomcblkbgnielaaDoor

/- Function 21 (impl.SecondsFor): its runs between cut points. Written by a program of this repo (gen). -/
set_option linter.unusedVariables false
set_option linter.unusedSimpArgs false
set_option maxRecDepth 100000
namespace Go.Proofs.YtomcblkbgnielaaDoor
open Go Go.Am Go.Proofs
def ext21 : Ext := [(37, S37), (26, S26), (42, S42)]
theorem call21_37 : Callable Tryd.prog 37 := ⟨Tryd.f37, Tryd.func37, by kernel_rfl, by kernel_rfl⟩
theorem call21_26 : Callable Tryd.prog 26 := ⟨Tryd.f26, Tryd.func26, by kernel_rfl, by kernel_rfl⟩
theorem call21_42 : Callable Tryd.prog 42 := ⟨Tryd.f42, Tryd.func42, by kernel_rfl, by kernel_rfl⟩
theorem ext21Ok : ExtOk Tryd.prog ext21 := ⟨⟨call21_37, con37⟩, ⟨call21_26, con26⟩, ⟨call21_42, con42⟩, trivial⟩

noncomputable def b21 : Code := bodyOf Tryd.f21
theorem hb21 : Tryd.f21.body = some b21 := by kernel_rfl
def sig21 : List AT := [AT.v (Ty.int IntKind.i64), AT.v (Ty.int IntKind.i64)]
def tys21 : List Ty := [Ty.int IntKind.i64, Ty.int IntKind.i64]
def kds21 : List RK := []
def oks21 : List AT := owns sig21
def P21 (x0 : Int) (x1 : Int) : Prop := (if (!g37_0 x0) = true then True else (if (!g26_0 x1 1 1000000000) = true then True else ((P42 x0 x1) ∧ True)))
def g21_0 (x0 : Int) (x1 : Int) : Int := (if (!g37_0 x0) = true then 0 else (if (!g26_0 x1 1 1000000000) = true then 0 else g42_0 x0 x1))
def g21_1 (x0 : Int) (x1 : Int) : Int := (if (!g37_0 x0) = true then 2 else (if (!g26_0 x1 1 1000000000) = true then 2 else 0))
theorem p21_0 (x0 : Int) (x1 : Int) : runF tab ext21 false 17 [] 2000 [] oks21 kds21 tys21 Tryd.f21.results [true, true] [.code b21] (entE 0 0 sig21 (x0, x1, ())) (entL sig21 (x0, x1, ())) = some ([Dyn.mk (Ty.int IntKind.i64) 0, Dyn.mk (Ty.int IntKind.i64) 2], [], [True, (!g37_0 x0) = Bool.true, Bool.true = Bool.true]) := by kernel_rfl
theorem p21_1 (x0 : Int) (x1 : Int) : runF tab ext21 false 17 [] 2000 [] oks21 kds21 tys21 Tryd.f21.results [false, true] [.code b21] (entE 0 0 sig21 (x0, x1, ())) (entL sig21 (x0, x1, ())) = some ([Dyn.mk (Ty.int IntKind.i64) 0, Dyn.mk (Ty.int IntKind.i64) 2], [], [True, (!g37_0 x0) = Bool.false, True, (!g26_0 x1 1 1000000000) = Bool.true]) := by kernel_rfl
theorem p21_2 (x0 : Int) (x1 : Int) : runF tab ext21 false 17 [] 2000 [] oks21 kds21 tys21 Tryd.f21.results [false, false] [.code b21] (entE 0 0 sig21 (x0, x1, ())) (entL sig21 (x0, x1, ())) = some ([Dyn.mk (Ty.int IntKind.i64) (g42_0 x0 x1), Dyn.mk (Ty.int IntKind.i64) 0], [], [True, (!g37_0 x0) = Bool.false, True, (!g26_0 x1 1 1000000000) = Bool.false, P42 x0 x1]) := by kernel_rfl
theorem at21 (x0 : Int) (x1 : Int) (h : P21 x0 x1) (K : Ctx) (q : Nat → Value) : AtV Tryd.prog 21 (PostR kds21 oks21 [⟨Ty.int IntKind.i64, g21_0 x0 x1⟩, ⟨Ty.int IntKind.i64, g21_1 x0 x1⟩] [] [] q K) 17 K q [] [.code b21] (entE 0 0 sig21 (x0, x1, ())) (entL sig21 (x0, x1, ())) := by
  unfold P21 at h
  unfold g21_0 g21_1
  by_cases b0 : (!g37_0 x0) = true
  · try simp only [if_pos b0] at h ⊢
    exact AtV.fin Tryd.func21 tabOk ext21Ok mixed (p21_0 x0 x1) ⟨trivial, b0, rfl, trivial⟩
  · try simp only [if_neg b0] at h ⊢
    replace b0 := Bool.eq_false_iff.2 b0
    by_cases b1 : (!g26_0 x1 1 1000000000) = true
    · try simp only [if_pos b1] at h ⊢
      exact AtV.fin Tryd.func21 tabOk ext21Ok mixed (p21_1 x0 x1) ⟨trivial, b0, trivial, b1, trivial⟩
    · try simp only [if_neg b1] at h ⊢
      replace b1 := Bool.eq_false_iff.2 b1
      obtain ⟨s0, h⟩ := h
      exact AtV.fin Tryd.func21 tabOk ext21Ok mixed (p21_2 x0 x1) ⟨trivial, b0, trivial, b1, s0, trivial⟩

def S21 : Am.Spec := { sig := sig21, pre := fun ⟨x0, x1, _⟩ => P21 x0 x1, res := fun ⟨x0, x1, _⟩ => [⟨Ty.int IntKind.i64, g21_0 x0 x1⟩, ⟨Ty.int IntKind.i64, g21_1 x0 x1⟩], kds := kds21 }
theorem con21 : Contract Tryd.prog 21 S21 := contract_of Tryd.func21 hb21 (Nat.le_of_ble_eq_true (by kernel_rfl)) (fun ⟨x0, x1, _⟩ h _ K q => at21 x0 x1 h K q)


end Go.Proofs.YtomcblkbgnielaaDoor

/- A law that says how functions of the program and of the specification hang together. -/
set_option linter.unusedVariables false
set_option linter.unusedSimpArgs false
set_option maxRecDepth 100000
namespace Go.Proofs.YtomcblkbgnielaaDoor
open Go Go.Am Go.Proofs

def SrcOk (n : Int) (s : List Int × Int × Int × Unit) : Prop := (∀ b ∈ s.1, 0 ≤ b ∧ b ≤ 255) ∧ 0 ≤ s.2.1 ∧ s.2.1 ≤ n

theorem SrcOk.up {n m : Int} {s : List Int × Int × Int × Unit} (h : SrcOk n s) (hm : n ≤ m) : SrcOk m s := ⟨h.1, h.2.1, Int.le_trans h.2.2 hm⟩

theorem src_start {x : List Int} (hw : Wf (.sl (.int .u8)) x) : SrcOk 0 (x, 0, 0, ()) := by
  refine ⟨fun b hb => ?_, Int.le_refl _, Int.le_refl _⟩
  have := hw.2 b hb
  exact (u8_iff b).1 this

theorem wrap_small {n : Int} (h1 : -9223372036854775808 ≤ n) (h2 : n ≤ 9223372036854775807) : IntKind.wrap .i64 n = n := wrap_of_inR ((i64_iff n).2 ⟨h1, h2⟩)

theorem u64_iff (n : Int) : InR .u64 n ↔ 0 ≤ n ∧ n ≤ 18446744073709551615 := by
  have e1 : (IntKind.u64).min = 0 := by decide
  have e2 : (IntKind.u64).max = 18446744073709551615 := by decide
  simp only [InR, e1, e2]

theorem seed_in (z : Int) : InR .u64 (Int.fdiv (IntKind.wrap .u64 z) 1099511627776) := by
  have h := (u64_iff _).1 (wrap_inR .u64 z)
  rw [u64_iff, Int.fdiv_eq_ediv_of_nonneg _ (by decide)]
  omega

theorem low_byte (z : Int) : 0 ≤ IntKind.wrap .i64 (IntKind.wrap .u64 ((BitVec.toNat (BitVec.ofInt 64 z &&& BitVec.ofInt 64 255) : Nat) : Int)) ∧ IntKind.wrap .i64 (IntKind.wrap .u64 ((BitVec.toNat (BitVec.ofInt 64 z &&& BitVec.ofInt 64 255) : Nat) : Int)) ≤ 255 := by
  have h : BitVec.toNat (BitVec.ofInt 64 z &&& BitVec.ofInt 64 255) ≤ 255 := by
    rw [BitVec.toNat_and]
    exact Nat.le_trans Nat.and_le_right (by decide)
  have e : IntKind.wrap .u64 ((BitVec.toNat (BitVec.ofInt 64 z &&& BitVec.ofInt 64 255) : Nat) : Int) = ((BitVec.toNat (BitVec.ofInt 64 z &&& BitVec.ofInt 64 255) : Nat) : Int) := wrap_of_inR ((u64_iff _).2 (by omega))
  rw [e, wrap_small (by omega) (by omega)]
  omega

theorem next_ok {n : Int} {s : List Int × Int × Int × Unit} (h : SrcOk n s) (hn : n ≤ 4611686018427387904) :
    P43 s ∧ SrcOk (n + 1) (u43_0 s) ∧ 0 ≤ g43_0 s ∧ g43_0 s ≤ 255 := by
  obtain ⟨h1, h2, h3⟩ := h
  have e : IntKind.wrap .i64 (s.2.1 + 1) = s.2.1 + 1 := wrap_small (by omega) (by omega)
  unfold P43 u43_0 g43_0 SrcOk
  by_cases hc : s.2.1 < (s.1.length : Int)
  · have hb := h1 _ (mem_getD s.1 s.2.1.toNat 0 (by omega))
    have eb : IntKind.wrap .i64 (s.1.getD s.2.1.toNat 0) = s.1.getD s.2.1.toNat 0 := wrap_small (by omega) (by omega)
    by_cases hd : s.2.1 + 1 ≤ (s.1.length : Int)
    · simp only [hc, e, hd, decide_true, if_true, eb]
      exact ⟨⟨h2, trivial, trivial⟩, ⟨h1, by omega, by omega⟩, hb⟩
    · omega
  · by_cases hd : s.2.1 + 1 ≤ (s.1.length : Int)
    · omega
    · simp only [hc, e, hd, decide_false, Bool.false_eq_true, if_false]
      exact ⟨⟨seed_in _, trivial⟩, ⟨h1, by omega, by omega⟩, low_byte _⟩

theorem tmod_in {x m : Int} (hx : 0 ≤ x) (hx2 : x ≤ 65535) (hm : 1 ≤ m) : InR .i64 (Int.tmod x m) ∧ 0 ≤ Int.tmod x m ∧ Int.tmod x m < m := by
  rw [Int.tmod_eq_emod_of_nonneg hx, i64_iff]
  have h1 := Int.emod_nonneg x (show m ≠ 0 by omega)
  have h2 := Int.emod_lt_of_pos x (show 0 < m by omega)
  have h3 : x % m ≤ x := by
    rcases Int.lt_or_le x m with h | h
    · rw [Int.emod_eq_of_lt hx h]; exact Int.le_refl _
    · omega
  exact ⟨⟨by omega, by omega⟩, h1, h2⟩

theorem pick_ok {n : Int} {s : List Int × Int × Int × Unit} (h : SrcOk n s) (m : Int) (hn : n ≤ 4611686018427387902) :
    P25 s m ∧ SrcOk (n + 2) (u25_0 s m) ∧ 0 ≤ g25_0 s m ∧ (1 ≤ m → g25_0 s m < m) ∧ (m ≤ 1 → g25_0 s m = 0) := by
  obtain ⟨p1, s1, a1, b1⟩ := next_ok h (by omega)
  obtain ⟨p2, s2, a2, b2⟩ := next_ok s1 (by omega)
  unfold P25 u25_0 g25_0
  by_cases hm : m ≤ 1
  · simp only [hm, decide_true, if_true]
    exact ⟨trivial, h.up (by omega), by omega, fun _ => by omega, by first | trivial | exact fun _ => rfl⟩
  · by_cases hb : m > 200
    · simp only [hm, hb, decide_true, decide_false, Bool.false_eq_true, if_true, if_false]
      obtain ⟨t1, t2, t3⟩ := tmod_in (x := g43_0 s * 256 + g43_0 (u43_0 s)) (m := m) (by omega) (by omega) (by omega)
      exact ⟨⟨p1, by rw [i64_iff]; omega, p2, by rw [i64_iff]; omega, by omega, t1, trivial⟩, s2.up (by omega), t2, fun _ => t3, by first | trivial | exact fun h => absurd h (by simp)⟩
    · simp only [hm, hb, decide_true, decide_false, Bool.false_eq_true, if_true, if_false]
      obtain ⟨t1, t2, t3⟩ := tmod_in (x := g43_0 s) (m := m) a1 (by omega) (by omega)
      exact ⟨⟨p1, by omega, t1, trivial⟩, s1.up (by omega), t2, fun _ => t3, by first | trivial | exact fun h => absurd h (by simp)⟩

end Go.Proofs.YtomcblkbgnielaaDoor

/- A law that says how functions of the program and of the specification hang together. -/
set_option linter.unusedVariables false
set_option linter.unusedSimpArgs false
set_option maxRecDepth 100000
namespace Go.Proofs.YtomcblkbgnielaaDoor
open Go Go.Am Go.Proofs

theorem one_ok {n : Int} {s : List Int × Int × Int × Unit} (h : SrcOk n s) (m : Int) (hn : n ≤ 4611686018427387902) :
    P23 s m ∧ SrcOk (n + 2) (u23_0 s m) := by
  obtain ⟨p, s1, _⟩ := pick_ok h m hn
  exact ⟨⟨p, trivial⟩, s1⟩

end Go.Proofs.YtomcblkbgnielaaDoor

/- A law that says how functions of the program and of the specification hang together. -/
set_option linter.unusedVariables false
set_option linter.unusedSimpArgs false
set_option maxRecDepth 100000
namespace Go.Proofs.YtomcblkbgnielaaDoor
open Go Go.Am Go.Proofs

theorem among_ok {n : Int} {s : List Int × Int × Int × Unit} (h : SrcOk n s) (l : List Int) (hl : 1 ≤ l.length) (hn : n ≤ 4611686018427387902) :
    P24 s l ∧ SrcOk (n + 2) (u24_0 s l) ∧ g24_0 s l ∈ l := by
  obtain ⟨p, s1, a, b, _⟩ := pick_ok h (l.length : Int) hn
  have b := b (by omega)
  exact ⟨⟨p, a, b, trivial⟩, s1, mem_getD l _ 0 (by omega)⟩

end Go.Proofs.YtomcblkbgnielaaDoor

/- A law that says how functions of the program and of the specification hang together. -/
set_option linter.unusedVariables false
set_option linter.unusedSimpArgs false
set_option maxRecDepth 100000
namespace Go.Proofs.YtomcblkbgnielaaDoor
open Go Go.Am Go.Proofs

theorem draw_mass {n : Int} {s : List Int × Int × Int × Unit} (h : SrcOk n s) (hn : n ≤ 1000000) : P36 s ∧ SrcOk (n + 10) (u36_0 s) ∧ -1 ≤ g36_0 s ∧ g36_0 s ≤ 1000000001 := by
  obtain ⟨p1, s1⟩ := one_ok h 9 (by omega)
  unfold P36 u36_0 g36_0
  by_cases c : g23_0 s 9 = true
  · obtain ⟨p2, s2, a⟩ := among_ok s1 [-1, 0, 1, 1000000000, 1000000001] (by decide) (by omega)
    simp only [if_pos c]
    refine ⟨⟨p1, p2, trivial⟩, s2.up (by omega), ?_⟩
    simp at a
    omega
  · obtain ⟨p2, s2, a, b, _⟩ := pick_ok s1 9000 (by omega)
    have b := b (by omega)
    simp only [if_neg c]
    exact ⟨⟨p1, p2, trivial⟩, s2.up (by omega), by omega, by omega⟩

theorem draw_clock {x : List Int} (hw : Wf (.sl (.int .u8)) x) : P5 x ∧ -1 ≤ g5_0 x ∧ g5_0 x ≤ 1440 := by
  have h := src_start hw
  obtain ⟨p1, s1⟩ := one_ok h 8 (by decide)
  unfold P5 g5_0
  by_cases c : g23_0 (x, 0, 0, ()) 8 = true
  · obtain ⟨p2, s2, a⟩ := among_ok s1 [-1, 0, 1439, 1440] (by decide) (by decide)
    simp only [if_pos c]
    refine ⟨⟨p1, p2, trivial⟩, ?_⟩
    simp at a
    omega
  · obtain ⟨p2, s2, a, b, _⟩ := pick_ok s1 240 (by decide)
    obtain ⟨p3, s3, a3, b3, _⟩ := pick_ok s2 6 (by decide)
    have b := b (by decide)
    have b3 := b3 (by decide)
    simp only [if_neg c]
    exact ⟨⟨p1, p2, by rw [i64_iff]; omega, p3, by rw [i64_iff]; omega, trivial⟩, by omega, by omega⟩

theorem draw_fixed {x : List Int} (hw : Wf (.sl (.int .u8)) x) : P8 x ∧ -1000000001 ≤ g8_0 x ∧ g8_0 x ≤ 1000000001 ∧ 0 ≤ g8_1 x ∧ g8_1 x ≤ 7 := by
  have h := src_start hw
  obtain ⟨p1, s1⟩ := one_ok h 8 (by decide)
  have key : P30 (x, 0, 0, ()) ∧ SrcOk 10 (u30_0 (x, 0, 0, ())) ∧ -1000000001 ≤ g30_0 (x, 0, 0, ()) ∧ g30_0 (x, 0, 0, ()) ≤ 1000000001 := by
    unfold P30 u30_0 g30_0
    by_cases c : g23_0 (x, 0, 0, ()) 8 = true
    · obtain ⟨p2, s2, a⟩ := among_ok s1 [0, 1000000000, 1000000001, -1000000000, -1000000001, 7, -7] (by decide) (by decide)
      simp only [if_pos c]
      refine ⟨⟨p1, p2, trivial⟩, s2.up (by decide), ?_⟩
      simp at a
      omega
    · obtain ⟨p2, s2, a, b, _⟩ := pick_ok s1 4000 (by decide)
      have b := b (by decide)
      simp only [if_neg c]
      exact ⟨⟨p1, p2, by rw [i64_iff]; omega, by rw [i64_iff]; omega, trivial⟩, s2.up (by decide), by omega, by omega⟩
  obtain ⟨k1, k2, k3, k4⟩ := key
  obtain ⟨p2, s2, a⟩ := among_ok k2 [1, 2, 3, 6, 0, 7, 2, 3] (by decide) (by decide)
  unfold P8 g8_0 g8_1 P31 g31_0
  refine ⟨⟨k1, ⟨p2, trivial⟩, trivial⟩, k3, k4, ?_⟩
  simp at a
  omega

theorem draw_lap {x : List Int} (hw : Wf (.sl (.int .u8)) x) : P11 x ∧ -1 ≤ g11_0 x ∧ g11_0 x ≤ 1000000001 := by
  obtain ⟨p, s, a, b⟩ := draw_mass (src_start hw) (by decide)
  exact ⟨⟨p, trivial⟩, a, b⟩

theorem draw_speed {x : List Int} (hw : Wf (.sl (.int .u8)) x) : P15 x ∧ -1 ≤ g15_0 x ∧ g15_0 x ≤ 1000000001 := by
  obtain ⟨p, s, a, b⟩ := draw_mass (src_start hw) (by decide)
  exact ⟨⟨p, trivial⟩, a, b⟩

theorem draw_seconds {x : List Int} (hw : Wf (.sl (.int .u8)) x) : P20 x ∧ -1 ≤ g20_0 x ∧ g20_0 x ≤ 1000000001 ∧ 0 ≤ g20_1 x ∧ g20_1 x ≤ 1000000001 := by
  obtain ⟨p, s, a, b⟩ := draw_mass (src_start hw) (by decide)
  obtain ⟨p1, s1⟩ := one_ok s 9 (by decide)
  unfold P20 g20_0 g20_1
  by_cases c : g23_0 (u36_0 (x, 0, 0, ())) 9 = true
  · obtain ⟨p2, s2, m⟩ := among_ok s1 [0, 1, 1000000000, 1000000001] (by decide) (by decide)
    simp only [if_pos c]
    refine ⟨⟨p, p1, p2, trivial⟩, a, b, ?_⟩
    simp at m
    omega
  · obtain ⟨p2, s2, m, m2, _⟩ := pick_ok s1 900 (by decide)
    have m2 := m2 (by decide)
    simp only [if_neg c]
    exact ⟨⟨p, p1, p2, by rw [i64_iff]; omega, trivial⟩, a, b, by omega, by omega⟩

end Go.Proofs.YtomcblkbgnielaaDoor

/- A law that says how functions of the program and of the specification hang together. -/
set_option linter.unusedVariables false
set_option linter.unusedSimpArgs false
set_option maxRecDepth 100000
namespace Go.Proofs.YtomcblkbgnielaaDoor
open Go Go.Am Go.Proofs

def D10 (a : Nat) : UInt8 := UInt8.ofNat (48 + a)
theorem D10_nat {a : Nat} (h : a < 10) : (D10 a).toNat = 48 + a := by unfold D10; rw [UInt8.toNat_ofNat']; omega
theorem num_one {n : Nat} (h : n < 10) : numB (n : Int) = ⟨⟨[D10 n]⟩⟩ := by
  unfold numB Lib.itoa
  rw [if_neg (by omega), Int.toNat_natCast, Lib.decDigits_one h]
  rfl
theorem num_two {n : Nat} (h1 : 10 ≤ n) (h : n < 100) : numB (n : Int) = ⟨⟨[D10 (n / 10), D10 (n % 10)]⟩⟩ := by
  unfold numB Lib.itoa
  rw [if_neg (by omega), Int.toNat_natCast, Lib.decDigits_two (by omega) h]
  rfl

theorem pad_two {n : Nat} (h : n < 100) : P27 (n : Int) 2 ∧ g27_0 (n : Int) 2 = ⟨⟨[D10 (n / 10), D10 (n % 10)]⟩⟩ := by
  unfold P27 g27_0
  have e : g32_0 (n : Int) = numB (n : Int) := rfl
  rw [e]
  by_cases h1 : n < 10
  · rw [num_one h1]
    have e0 : n / 10 = 0 := by omega
    have e1 : n % 10 = n := by omega
    rw [e0, e1]
    have e2 : (ByteArray.mk (Array.mk [D10 n])).size = 1 := rfl
    rw [e2]
    exact ⟨⟨⟨rfl, trivial⟩, by rw [i64_iff]; decide, ⟨by decide, by decide⟩, by show 1 + 1 ≤ _; decide, trivial⟩, rfl⟩
  · rw [num_two (by omega) h]
    have e2 : (ByteArray.mk (Array.mk [D10 (n / 10), D10 (n % 10)])).size = 2 := rfl
    rw [e2]
    exact ⟨⟨⟨rfl, trivial⟩, by rw [i64_iff]; decide, ⟨by decide, by decide⟩, by show 0 + 2 ≤ _; decide, trivial⟩, rfl⟩

theorem num_bound : ∀ (l : List UInt8) (m i : Nat), m < 10 ^ i → i + l.length ≤ 12 → -1 ≤ num29 l (m : Int) ∧ num29 l (m : Int) < 1000000000000
  | [], m, i, h, hi => by
    have hp : 10 ^ i ≤ 10 ^ 12 := Nat.pow_le_pow_right (by decide) (by simp at hi; omega)
    have : m < 1000000000000 := Nat.lt_of_lt_of_le h hp
    show -1 ≤ (m : Int) ∧ (m : Int) < 1000000000000
    omega
  | b :: r, m, i, h, hi => by
    unfold num29
    split
    · rename_i hd
      have hd' : 48 ≤ b.toNat ∧ b.toNat ≤ 57 := by simpa using hd
      have e1 : 10 * (m : Int) + ((b.toNat : Int) - 48) = ((10 * m + (b.toNat - 48) : Nat) : Int) := by omega
      rw [e1]
      exact num_bound r _ (i + 1) (by rw [Nat.pow_succ]; omega) (by simp at hi; omega)
    · omega

theorem number_bound (x : ByteArray) : -1 ≤ g29_0 x ∧ g29_0 x < 1000000000000 := by
  unfold g29_0
  split
  · omega
  · rename_i h
    have : x.data.toList.length = x.size := rfl
    exact num_bound x.data.toList 0 0 (by decide) (by omega)

theorem number_two {a b : Nat} (ha : a < 10) (hb : b < 10) : g29_0 ⟨⟨[D10 a, D10 b]⟩⟩ = ((10 * a + b : Nat) : Int) := by
  unfold g29_0
  rw [if_neg (by show ¬ (2 < 1 ∨ 12 < 2); omega)]
  show num29 [D10 a, D10 b] 0 = _
  simp only [num29, D10_nat ha, D10_nat hb, decide_eq_true_eq, Bool.and_eq_true]
  rw [if_pos (by omega), if_pos (by omega)]
  omega


end Go.Proofs.YtomcblkbgnielaaDoor

/- A law that says how functions of the program and of the specification hang together. -/
set_option linter.unusedVariables false
set_option linter.unusedSimpArgs false
set_option maxRecDepth 100000
namespace Go.Proofs.YtomcblkbgnielaaDoor
open Go Go.Am Go.Proofs

def clk (h m : Nat) : ByteArray := ⟨⟨[D10 (h / 10), D10 (h % 10), 58, D10 (m / 10), D10 (m % 10)]⟩⟩

theorem clock_text {k : Nat} (h : k ≤ 1439) : g6_0 (k : Int) = clk (k / 60) (k % 60) := by
  unfold g6_0 g26_0
  have e1 : Int.tdiv (k : Int) 60 = ((k / 60 : Nat) : Int) := rfl
  have e2 : Int.tmod (k : Int) 60 = ((k % 60 : Nat) : Int) := rfl
  rw [e1, e2, (pad_two (n := k / 60) (by omega)).2, (pad_two (n := k % 60) (by omega)).2]
  have c1 : (k : Int) ≥ 0 := by omega
  have c2 : (k : Int) ≤ 1439 := by omega
  simp only [c1, c2, decide_true, if_true, Bool.not_true, Bool.false_eq_true, if_false]
  rfl

theorem clock_pre (n : Int) : P6 n := by
  unfold P6
  split
  · trivial
  · rename_i hw
    have hw' : 0 ≤ n ∧ n ≤ 1439 := by
      unfold g26_0 at hw
      by_cases c1 : n ≥ 0
      · by_cases c2 : n ≤ 1439
        · exact ⟨c1, c2⟩
        · simp [c1, c2] at hw
      · simp [c1] at hw
    obtain ⟨k, rfl⟩ : ∃ k : Nat, n = (k : Int) := Int.eq_ofNat_of_zero_le hw'.1
    have e1 : Int.tdiv (k : Int) 60 = ((k / 60 : Nat) : Int) := rfl
    have e2 : Int.tmod (k : Int) 60 = ((k % 60 : Nat) : Int) := rfl
    obtain ⟨p1, q1⟩ := pad_two (n := k / 60) (by omega)
    obtain ⟨p2, q2⟩ := pad_two (n := k % 60) (by omega)
    rw [e1, e2, q1, q2]
    refine ⟨by rw [i64_iff]; omega, p1, ?_, by rw [i64_iff]; omega, p2, ?_, trivial⟩
    · show 2 + 1 ≤ _; decide
    · show 3 + 2 ≤ _; decide

theorem clk_cut {h m : Nat} (h1 : h < 100) (h2 : m < 100) : g28_0 (clk h m) (ByteArray.mk #[58]) = ⟨⟨[D10 (h / 10), D10 (h % 10)]⟩⟩ ∧ g28_1 (clk h m) (ByteArray.mk #[58]) = ⟨⟨[D10 (m / 10), D10 (m % 10)]⟩⟩ := by
  have hn : (58 : UInt8) ∉ [D10 (h / 10), D10 (h % 10)] := fun hm => by
    simp only [List.mem_cons, List.mem_nil_iff, or_false] at hm
    rcases hm with e | e <;> (have := congrArg UInt8.toNat e; rw [D10_nat (by omega)] at this; have e58 : (58 : UInt8).toNat = 58 := rfl; omega)
  have hc : Lib.cut (clk h m).data.toList (ByteArray.mk #[58]).data.toList = ([D10 (h / 10), D10 (h % 10)], [D10 (m / 10), D10 (m % 10)], true) := cut_hit 58 _ hn
  unfold g28_0 g28_1
  rw [hc]
  exact ⟨rfl, rfl⟩

theorem clock_i1 {h m : Nat} (h1 : h ≤ 23) (h2 : m ≤ 59) : g7_0 (clk h m) = ((60 * h + m : Nat) : Int) ∧ g7_1 (clk h m) = true := by
  obtain ⟨c1, c2⟩ := clk_cut (h := h) (m := m) (by omega) (by omega)
  unfold g7_0 g7_1
  rw [c1, c2, number_two (by omega) (by omega), number_two (by omega) (by omega)]
  have e : 60 * ((10 * (h / 10) + h % 10 : Nat) : Int) + ((10 * (m / 10) + m % 10 : Nat) : Int) = ((60 * h + m : Nat) : Int) := by omega
  have e3 : (60 * h + m) / 60 = h := by omega
  have e4 : (60 * h + m) % 60 = m := by omega
  rw [e, clock_text (by omega), e3, e4]
  have ne : ¬ (ByteArray.toList (clk h m) == ByteArray.toList (ByteArray.mk #[])) = true := by
    rw [bytes_eq]
    intro hh
    have := congrArg ByteArray.size hh
    exact absurd (show (5 : Nat) = 0 from this) (by decide)
  rw [if_neg ne, if_neg ne]
  simp

theorem clock_i2 {x : ByteArray} (hx : g7_1 x = true) : ∃ h m : Nat, h ≤ 23 ∧ m ≤ 59 ∧ x = clk h m := by
  unfold g7_1 at hx
  generalize 60 * g29_0 (g28_0 x (ByteArray.mk #[58])) + g29_0 (g28_1 x (ByteArray.mk #[58])) = n at hx
  split at hx
  · cases hx
  · rename_i h0
    split at hx
    · cases hx
    · rename_i h1
      rw [bytes_eq] at h0
      have h1' : g6_0 n = x := by
        rw [← bytes_eq]; simpa using h1
      by_cases hw : 0 ≤ n ∧ n ≤ 1439
      · obtain ⟨k, rfl⟩ : ∃ k : Nat, n = (k : Int) := Int.eq_ofNat_of_zero_le hw.1
        exact ⟨k / 60, k % 60, by omega, by omega, by rw [← h1', clock_text (by omega)]⟩
      · exfalso
        apply h0
        rw [← h1']
        unfold g6_0 g26_0
        by_cases c1 : n ≥ 0
        · have c2 : ¬ n ≤ 1439 := by omega
          simp [c1, c2]
        · simp [c1]

theorem clock_ip {x : ByteArray} (h : x.size ≤ 1048576) : P7 x := by
  unfold P7
  have b1 := number_bound (g28_0 x (ByteArray.mk #[58]))
  have b2 := number_bound (g28_1 x (ByteArray.mk #[58]))
  refine ⟨(show x.size < 4294967281 from by omega), by rw [i64_iff]; omega, by rw [i64_iff]; omega, ?_⟩
  split
  · trivial
  · exact ⟨clock_pre _, trivial⟩

end Go.Proofs.YtomcblkbgnielaaDoor

/- A law that says how functions of the program and of the specification hang together. -/
set_option linter.unusedVariables false
set_option linter.unusedSimpArgs false
set_option maxRecDepth 100000
namespace Go.Proofs.YtomcblkbgnielaaDoor
open Go Go.Am Go.Proofs

def isD (b : UInt8) : Prop := 48 ≤ b.toNat ∧ b.toNat ≤ 57
def dval : List UInt8 → Nat → Nat
  | [], n => n
  | b :: r, n => dval r (10 * n + (b.toNat - 48))
theorem dval_append : ∀ (l : List UInt8) (b : UInt8) (n : Nat), dval (l ++ [b]) n = 10 * dval l n + (b.toNat - 48)
  | [], _, _ => rfl
  | c :: r, b, n => dval_append r b _
theorem dsign_nat {a : Nat} (h : a < 10) : (UInt8.ofNat (48 + a)).toNat = 48 + a := by rw [UInt8.toNat_ofNat']; omega

theorem dec_facts (n : Nat) : (∀ b ∈ Lib.decDigits n, isD b) ∧ dval (Lib.decDigits n) 0 = n ∧ 0 < (Lib.decDigits n).length ∧ (1 ≤ n → ((Lib.decDigits n).getD 0 0).toNat ≠ 48) := by
  induction n using Nat.strongRecOn with
  | _ n ih =>
    by_cases h : n < 10
    · rw [Lib.decDigits, dif_pos h]
      have e := dsign_nat h
      refine ⟨fun b hb => ?_, ?_, by simp, fun h1 => ?_⟩
      · rw [List.mem_singleton.1 hb]; unfold isD; omega
      · show 10 * 0 + ((UInt8.ofNat (48 + n)).toNat - 48) = n; omega
      · show (UInt8.ofNat (48 + n)).toNat ≠ 48; omega
    · rw [Lib.decDigits, dif_neg h]
      obtain ⟨i1, i2, i3, i4⟩ := ih (n / 10) (by omega)
      have e := dsign_nat (a := n % 10) (by omega)
      refine ⟨fun b hb => ?_, ?_, by simp, fun h1 => ?_⟩
      · rcases List.mem_append.1 hb with hb | hb
        · exact i1 b hb
        · rw [List.mem_singleton.1 hb]; unfold isD; omega
      · rw [dval_append, i2, e]; omega
      · have i4 := i4 (by omega)
        cases hd : Lib.decDigits (n / 10) with
        | nil => rw [hd] at i3; simp at i3
        | cons c r => rw [hd] at i4; exact i4

theorem dec_len : ∀ (k n : Nat), n < 10 ^ (k + 1) → (Lib.decDigits n).length ≤ k + 1
  | 0, n, h => by rw [Lib.decDigits, dif_pos (by simpa using h)]; simp
  | k + 1, n, h => by
    rw [Lib.decDigits]
    split
    · simp
    · have := dec_len k (n / 10) (by rw [Nat.pow_succ] at h; omega)
      simp; omega


end Go.Proofs.YtomcblkbgnielaaDoor

/- A law that says how functions of the program and of the specification hang together. -/
set_option linter.unusedVariables false
set_option linter.unusedSimpArgs false
set_option maxRecDepth 100000
namespace Go.Proofs.YtomcblkbgnielaaDoor
open Go Go.Am Go.Proofs

theorem number_dec {n : Nat} (h : n < 1000000000000) : g29_0 ⟨⟨Lib.decDigits n⟩⟩ = (n : Int) := by
  have key : ∀ (l : List UInt8) (m : Nat), (∀ b ∈ l, isD b) → num29 l (m : Int) = (dval l m : Nat) := by
    intro l
    induction l with
    | nil => intro m _; rfl
    | cons b r ih =>
      intro m hd
      have hb : isD b := hd b (List.mem_cons_self ..)
      unfold isD at hb
      unfold num29
      rw [if_pos (by simpa using hb)]
      have e1 : 10 * (m : Int) + ((b.toNat : Int) - 48) = ((10 * m + (b.toNat - 48) : Nat) : Int) := by omega
      rw [e1]
      exact ih _ (fun c hc => hd c (List.mem_cons_of_mem _ hc))
  obtain ⟨d1, d2, d3, _⟩ := dec_facts n
  have hl := dec_len 11 n (by omega)
  have hs : (ByteArray.mk ⟨Lib.decDigits n⟩).size = (Lib.decDigits n).length := rfl
  unfold g29_0
  rw [if_neg (by omega)]
  have := key (Lib.decDigits n) 0 d1
  rw [d2] at this
  exact this

end Go.Proofs.YtomcblkbgnielaaDoor

/- A law that says how functions of the program and of the specification hang together. -/
set_option linter.unusedVariables false
set_option linter.unusedSimpArgs false
set_option maxRecDepth 100000
namespace Go.Proofs.YtomcblkbgnielaaDoor
open Go Go.Am Go.Proofs

def lap (h m : Nat) : ByteArray := ⟨⟨Lib.decDigits h ++ 58 :: [D10 (m / 10), D10 (m % 10)]⟩⟩

theorem dec_free (h : Nat) : (58 : UInt8) ∉ Lib.decDigits h := fun hm => by
  have := (dec_facts h).1 _ hm
  unfold isD at this
  have e58 : (58 : UInt8).toNat = 58 := rfl
  omega

theorem lap_text {k : Nat} (h : k ≤ 1000000000) : g12_0 (k : Int) = lap (k / 60) (k % 60) := by
  unfold g12_0 g37_0 g26_0
  have e1 : Int.tdiv (k : Int) 60 = ((k / 60 : Nat) : Int) := rfl
  have e2 : Int.tmod (k : Int) 60 = ((k % 60 : Nat) : Int) := rfl
  have e3 : g32_0 ((k / 60 : Nat) : Int) = ⟨⟨Lib.decDigits (k / 60)⟩⟩ := by
    show numB _ = _
    unfold numB Lib.itoa
    rw [if_neg (by omega), Int.toNat_natCast]
  rw [e1, e2, e3, (pad_two (n := k % 60) (by omega)).2]
  have c1 : (k : Int) ≥ 0 := by omega
  have c2 : (k : Int) ≤ 1000000000 := by omega
  simp only [c1, c2, decide_true, if_true, Bool.not_true, Bool.false_eq_true, if_false]
  apply ByteArray.ext
  apply Array.ext'
  simp [ByteArray.data_append, lap]

theorem lap_pre (n : Int) : P12 n := by
  unfold P12
  split
  · trivial
  · rename_i hw
    have hw' : 0 ≤ n ∧ n ≤ 1000000000 := by
      unfold g37_0 g26_0 at hw
      by_cases c1 : n ≥ 0
      · by_cases c2 : n ≤ 1000000000
        · exact ⟨c1, c2⟩
        · simp [c1, c2] at hw
      · simp [c1] at hw
    obtain ⟨k, rfl⟩ : ∃ k : Nat, n = (k : Int) := Int.eq_ofNat_of_zero_le hw'.1
    have e1 : Int.tdiv (k : Int) 60 = ((k / 60 : Nat) : Int) := rfl
    have e2 : Int.tmod (k : Int) 60 = ((k % 60 : Nat) : Int) := rfl
    obtain ⟨p2, q2⟩ := pad_two (n := k % 60) (by omega)
    have hs : (g32_0 ((k / 60 : Nat) : Int)).size ≤ 21 := numB_size _ (by omega) (by omega)
    rw [e1, e2, q2]
    refine ⟨by rw [i64_iff]; omega, ⟨rfl, trivial⟩, by omega, by rw [i64_iff]; omega, p2, ?_, trivial⟩
    rw [ByteArray.size_append]
    have a1 : (ByteArray.mk #[58]).size = 1 := rfl
    have a2 : (ByteArray.mk ⟨[D10 (k % 60 / 10), D10 (k % 60 % 10)]⟩).size = 2 := rfl
    omega

theorem lap_cut (h m : Nat) : g28_0 (lap h m) (ByteArray.mk #[58]) = ⟨⟨Lib.decDigits h⟩⟩ ∧ g28_1 (lap h m) (ByteArray.mk #[58]) = ⟨⟨[D10 (m / 10), D10 (m % 10)]⟩⟩ := by
  have hc : Lib.cut (lap h m).data.toList (ByteArray.mk #[58]).data.toList = (Lib.decDigits h, [D10 (m / 10), D10 (m % 10)], true) := cut_hit 58 _ (dec_free h)
  unfold g28_0 g28_1
  rw [hc]
  exact ⟨rfl, rfl⟩

theorem lap_ne (h m : Nat) : lap h m ≠ ByteArray.mk #[] := fun hh => by
  have := congrArg ByteArray.size hh
  have e : (lap h m).size = (Lib.decDigits h ++ 58 :: [D10 (m / 10), D10 (m % 10)]).length := rfl
  rw [e] at this
  simp at this
  have z : (ByteArray.mk #[]).size = 0 := rfl
  omega

theorem lap_i1 {h m : Nat} (h1 : 60 * h + m ≤ 1000000000) (h2 : m ≤ 59) : g13_0 (lap h m) = ((60 * h + m : Nat) : Int) ∧ g13_1 (lap h m) = true := by
  obtain ⟨c1, c2⟩ := lap_cut h m
  unfold g13_0 g13_1
  rw [c1, c2, number_dec (by omega), number_two (by omega) (by omega)]
  have e : 60 * (h : Int) + ((10 * (m / 10) + m % 10 : Nat) : Int) = ((60 * h + m : Nat) : Int) := by omega
  have e3 : (60 * h + m) / 60 = h := by omega
  have e4 : (60 * h + m) % 60 = m := by omega
  rw [e, lap_text (by omega), e3, e4]
  have ne : ¬ (ByteArray.toList (lap h m) == ByteArray.toList (ByteArray.mk #[])) = true := by
    rw [bytes_eq]
    exact lap_ne h m
  rw [if_neg ne, if_neg ne]
  simp

theorem lap_i2 {x : ByteArray} (hx : g13_1 x = true) : ∃ h m : Nat, 60 * h + m ≤ 1000000000 ∧ m ≤ 59 ∧ x = lap h m := by
  unfold g13_1 at hx
  generalize 60 * g29_0 (g28_0 x (ByteArray.mk #[58])) + g29_0 (g28_1 x (ByteArray.mk #[58])) = n at hx
  split at hx
  · cases hx
  · rename_i h0
    split at hx
    · cases hx
    · rename_i h1
      rw [bytes_eq] at h0
      have h1' : g12_0 n = x := by
        rw [← bytes_eq]; simpa using h1
      by_cases hw : 0 ≤ n ∧ n ≤ 1000000000
      · obtain ⟨k, rfl⟩ : ∃ k : Nat, n = (k : Int) := Int.eq_ofNat_of_zero_le hw.1
        exact ⟨k / 60, k % 60, by omega, by omega, by rw [← h1', lap_text (by omega)]⟩
      · exfalso
        apply h0
        rw [← h1']
        unfold g12_0 g37_0 g26_0
        by_cases c1 : n ≥ 0
        · have c2 : ¬ n ≤ 1000000000 := by omega
          simp [c1, c2]
        · simp [c1]

theorem lap_ip {x : ByteArray} (h : x.size ≤ 1048576) : P13 x := by
  unfold P13
  have b1 := number_bound (g28_0 x (ByteArray.mk #[58]))
  have b2 := number_bound (g28_1 x (ByteArray.mk #[58]))
  refine ⟨(show x.size < 4294967281 from by omega), by rw [i64_iff]; omega, by rw [i64_iff]; omega, ?_⟩
  split
  · trivial
  · exact ⟨lap_pre _, trivial⟩

end Go.Proofs.YtomcblkbgnielaaDoor

/- A law that says how functions of the program and of the specification hang together. -/
set_option linter.unusedVariables false
set_option linter.unusedSimpArgs false
set_option maxRecDepth 100000
namespace Go.Proofs.YtomcblkbgnielaaDoor
open Go Go.Am Go.Proofs

def pz : Nat → Nat → List UInt8
  | 0, _ => []
  | d + 1, n => pz d (n / 10) ++ [UInt8.ofNat (48 + n % 10)]

theorem pz_len : ∀ d n, (pz d n).length = d
  | 0, _ => rfl
  | d + 1, n => by rw [pz, List.length_append, pz_len d]; rfl

theorem pz_zero : ∀ d, pz d 0 = List.replicate d 48
  | 0 => rfl
  | d + 1 => by
    rw [pz, Nat.zero_div, pz_zero d, List.replicate_succ']
    rfl

theorem dec_zeros : ∀ (d n : Nat), 1 ≤ d → n < 10 ^ d → List.replicate (d - (Lib.decDigits n).length) 48 ++ Lib.decDigits n = pz d n
  | 0, _, h, _ => by omega
  | d + 1, n, _, h => by
    rw [pz]
    by_cases hs : n < 10
    · rw [Lib.decDigits, dif_pos hs, show n / 10 = 0 by omega, show n % 10 = n by omega, pz_zero]
      rfl
    · rw [Nat.pow_succ] at h
      have hd : 1 ≤ d := by
        rcases Nat.eq_zero_or_pos d with rfl | hd
        · simp at h; omega
        · exact hd
      have ih := dec_zeros d (n / 10) hd (by omega)
      rw [Lib.decDigits, dif_neg hs, List.length_append, List.length_singleton, Nat.add_sub_add_right, ← List.append_assoc, ih]

theorem pz_all : ∀ (d n : Nat), ∀ b ∈ pz d n, isD b
  | 0, _, b, hb => by cases hb
  | d + 1, n, b, hb => by
    rw [pz] at hb
    rcases List.mem_append.1 hb with hb | hb
    · exact pz_all d _ b hb
    · rw [List.mem_singleton.1 hb]
      have := dsign_nat (a := n % 10) (by omega)
      unfold isD
      omega

theorem pz_val : ∀ (d n : Nat), n < 10 ^ d → ∀ m, dval (pz d n) m = m * 10 ^ d + n
  | 0, n, h, m => by
    obtain rfl : n = 0 := by simpa using h
    show m = _
    simp
  | d + 1, n, h, m => by
    rw [pz, dval_append, Nat.pow_succ] at *
    rw [pz_val d (n / 10) (by omega), dsign_nat (by omega), Nat.mul_add, ← Nat.mul_assoc]
    rw [show 10 * m * 10 ^ d = m * (10 ^ d * 10) by rw [Nat.mul_comm 10 m, Nat.mul_assoc, Nat.mul_comm 10]]
    omega

end Go.Proofs.YtomcblkbgnielaaDoor

/- A law that says how functions of the program and of the specification hang together. -/
set_option linter.unusedVariables false
set_option linter.unusedSimpArgs false
set_option maxRecDepth 100000
namespace Go.Proofs.YtomcblkbgnielaaDoor
open Go Go.Am Go.Proofs

def fixT (neg : Bool) (A d : Nat) : ByteArray := ⟨⟨(if neg then [45] else []) ++ Lib.decDigits (A / 10 ^ d) ++ 46 :: pz d (A % 10 ^ d)⟩⟩

theorem pad_pz {k d : Nat} (h : k < 10 ^ d) (h1 : 1 ≤ d) : g27_0 (k : Int) (d : Int) = ⟨⟨pz d k⟩⟩ := by
  unfold g27_0
  have e : g32_0 (k : Int) = ⟨⟨Lib.decDigits k⟩⟩ := by
    show numB _ = _
    unfold numB Lib.itoa
    rw [if_neg (by omega), Int.toNat_natCast]
  have hs : (ByteArray.mk ⟨Lib.decDigits k⟩).size = (Lib.decDigits k).length := rfl
  rw [e, hs, ← dec_zeros d k h1 h]
  have hc : (if 0 < (d : Int) - ((Lib.decDigits k).length : Int) then (d : Int) - ((Lib.decDigits k).length : Int) else 0) = ((d - (Lib.decDigits k).length : Nat) : Int) := by
    split <;> omega
  rw [hc]
  apply ByteArray.ext
  apply Array.ext'
  have hr : Lib.repeatL (List.replicate 1 48) (d - (Lib.decDigits k).length) = List.replicate (d - (Lib.decDigits k).length) (48 : UInt8) := by
    rw [Lib.repeatL_replicate, Nat.mul_one]
  unfold g44_0
  rw [Int.toNat_natCast, ByteArray.data_append, Array.toList_append]
  show Lib.repeatL [48] _ ++ Lib.decDigits k = _
  have h48 : ([48] : List UInt8) = List.replicate 1 48 := rfl
  rw [h48, hr]

theorem fix_i {n : Int} {d : Nat} (hn : -1000000000 ≤ n ∧ n ≤ 1000000000) (h1 : 1 ≤ d) (h6 : d ≤ 6) : g9_0 n (d : Int) = fixT (decide (n < 0)) n.natAbs d := by
  have dk : ∀ k : Nat, g32_0 (k : Int) = ⟨⟨Lib.decDigits k⟩⟩ := fun k => by
    show numB _ = _
    unfold numB Lib.itoa
    rw [if_neg (by omega), Int.toNat_natCast]
  have hd := dk (n.natAbs / 10 ^ d)
  have hp : n.natAbs % 10 ^ d < 10 ^ d := Nat.mod_lt _ (Nat.pos_of_ne_zero (by have := Nat.one_le_pow d 10 (by decide); omega))
  have w0 : g26_0 n (-1000000000) 1000000000 = true := by
    unfold g26_0
    rw [if_pos (by simp only [decide_eq_true_eq]; omega)]
    simp only [decide_eq_true_eq]; omega
  have w1 : g26_0 (d : Int) 1 6 = true := by
    unfold g26_0
    rw [if_pos (by simp only [decide_eq_true_eq]; omega)]
    simp only [decide_eq_true_eq]; omega
  unfold g9_0 u9
  rw [w0, w1, Int.toNat_natCast, hd, pad_pz hp h1]
  simp only [Bool.not_true, Bool.false_eq_true, if_false]
  unfold fixT
  apply ByteArray.ext
  apply Array.ext'
  by_cases hx : n < 0 <;> simp [hx, ByteArray.data_append]

end Go.Proofs.YtomcblkbgnielaaDoor

/- A law that says how functions of the program and of the specification hang together. -/
set_option linter.unusedVariables false
set_option linter.unusedSimpArgs false
set_option maxRecDepth 100000
namespace Go.Proofs.YtomcblkbgnielaaDoor
open Go Go.Am Go.Proofs

theorem dval_app : ∀ (l r : List UInt8) (n : Nat), dval (l ++ r) n = dval r (dval l n)
  | [], _, _ => rfl
  | _ :: l, r, _ => dval_app l r _

theorem number_of {l : List UInt8} (hd : ∀ b ∈ l, isD b) (h1 : 1 ≤ l.length) (h2 : l.length ≤ 12) : g29_0 ⟨⟨l⟩⟩ = ((dval l 0 : Nat) : Int) := by
  have key : ∀ (l : List UInt8) (m : Nat), (∀ b ∈ l, isD b) → num29 l (m : Int) = (dval l m : Nat) := by
    intro l
    induction l with
    | nil => intro m _; rfl
    | cons b r ih =>
      intro m hd
      have hb : isD b := hd b (List.mem_cons_self ..)
      unfold isD at hb
      unfold num29
      rw [if_pos (by simpa using hb)]
      have e1 : 10 * (m : Int) + ((b.toNat : Int) - 48) = ((10 * m + (b.toNat - 48) : Nat) : Int) := by omega
      rw [e1]
      exact ih _ (fun c hc => hd c (List.mem_cons_of_mem _ hc))
  have hs : (ByteArray.mk ⟨l⟩).size = l.length := rfl
  unfold g29_0
  rw [if_neg (by omega)]
  exact key l 0 hd

theorem number_fix {A d : Nat} (hA : A ≤ 1000000000) (h1 : 1 ≤ d) (h6 : d ≤ 6) : g29_0 ⟨⟨Lib.decDigits (A / 10 ^ d) ++ pz d (A % 10 ^ d)⟩⟩ = (A : Int) := by
  have hp : 1 ≤ 10 ^ d := Nat.one_le_pow _ _ (by decide)
  obtain ⟨d1, d2, d3, _⟩ := dec_facts (A / 10 ^ d)
  have hq : A / 10 ^ d < 10 ^ (9 - d + 1) := by
    rw [Nat.div_lt_iff_lt_mul hp, ← Nat.pow_add, show 9 - d + 1 + d = 10 by omega]
    exact Nat.lt_of_le_of_lt hA (by decide)
  have hl := dec_len (9 - d) _ hq
  have hlen : (Lib.decDigits (A / 10 ^ d) ++ pz d (A % 10 ^ d)).length = (Lib.decDigits (A / 10 ^ d)).length + d := by rw [List.length_append, pz_len]
  rw [number_of (fun b hb => by
    rcases List.mem_append.1 hb with hb | hb
    · exact d1 b hb
    · exact pz_all _ _ b hb) (by omega) (by omega), dval_app, d2, pz_val _ _ (Nat.mod_lt _ hp)]
  have := Nat.div_add_mod A (10 ^ d)
  rw [Nat.mul_comm] at this
  rw [this]

theorem fix_cut (A d : Nat) : g28_0 (fixT false A d) (ByteArray.mk #[46]) = ⟨⟨Lib.decDigits (A / 10 ^ d)⟩⟩ ∧ g28_1 (fixT false A d) (ByteArray.mk #[46]) = ⟨⟨pz d (A % 10 ^ d)⟩⟩ := by
  have hn : (46 : UInt8) ∉ Lib.decDigits (A / 10 ^ d) := fun hm => by
    have := (dec_facts (A / 10 ^ d)).1 _ hm
    unfold isD at this
    have e46 : (46 : UInt8).toNat = 46 := rfl
    omega
  have hc : Lib.cut (fixT false A d).data.toList (ByteArray.mk #[46]).data.toList = (Lib.decDigits (A / 10 ^ d), pz d (A % 10 ^ d), true) := by
    have e : (fixT false A d).data.toList = Lib.decDigits (A / 10 ^ d) ++ 46 :: pz d (A % 10 ^ d) := by simp [fixT]
    rw [e]
    exact cut_hit 46 _ hn
  unfold g28_0 g28_1
  rw [hc]
  exact ⟨rfl, rfl⟩

theorem fix_minus (A d : Nat) : g35_0 (fixT true A d) (ByteArray.mk #[45]) = true ∧ g34_0 (fixT true A d) (ByteArray.mk #[45]) = fixT false A d := by
  have e : (fixT true A d).data.toList = 45 :: (Lib.decDigits (A / 10 ^ d) ++ 46 :: pz d (A % 10 ^ d)) := by simp [fixT]
  unfold g35_0 g34_0 Lib.trimPrefix Lib.hasPrefix
  rw [e]
  have z : (ByteArray.mk #[45]).data.toList = [45] := rfl
  rw [z]
  exact ⟨by simp [List.isPrefixOf], by simp [List.isPrefixOf, fixT]⟩

theorem fix_plus (A d : Nat) : g35_0 (fixT false A d) (ByteArray.mk #[45]) = false ∧ g34_0 (fixT false A d) (ByteArray.mk #[45]) = fixT false A d := by
  have e : (fixT false A d).data.toList = Lib.decDigits (A / 10 ^ d) ++ 46 :: pz d (A % 10 ^ d) := by simp [fixT]
  obtain ⟨d1, _, d3, _⟩ := dec_facts (A / 10 ^ d)
  have hp : Lib.hasPrefix (fixT false A d).data.toList (ByteArray.mk #[45]).data.toList = false := by
    rw [e]
    cases hd : Lib.decDigits (A / 10 ^ d) with
    | nil => rw [hd] at d3; simp at d3
    | cons b r =>
      have hb := d1 b (by rw [hd]; exact List.mem_cons_self ..)
      unfold isD at hb
      have hne : ((45 : UInt8) == b) = false := by
        rw [beq_eq_false_iff_ne]
        intro e
        have := congrArg UInt8.toNat e
        have e45 : (45 : UInt8).toNat = 45 := rfl
        omega
      show List.isPrefixOf [45] (b :: _) = false
      simp [List.isPrefixOf, hne]
  unfold g35_0 g34_0 Lib.trimPrefix
  rw [hp]
  exact ⟨rfl, rfl⟩

end Go.Proofs.YtomcblkbgnielaaDoor

/- A law that says how functions of the program and of the specification hang together. -/
set_option linter.unusedVariables false
set_option linter.unusedSimpArgs false
set_option maxRecDepth 100000
namespace Go.Proofs.YtomcblkbgnielaaDoor
open Go Go.Am Go.Proofs

theorem fixT_ne (s : Bool) (A d : Nat) : fixT s A d ≠ ByteArray.mk #[] := fun hh => by
  have := congrArg ByteArray.size hh
  have e : (fixT s A d).size = ((if s then [45] else []) ++ Lib.decDigits (A / 10 ^ d) ++ 46 :: pz d (A % 10 ^ d)).length := rfl
  rw [e] at this
  simp at this
  have z : (ByteArray.mk #[]).size = 0 := rfl
  omega

theorem fixed_i1 {n : Int} {d : Nat} (hn : -1000000000 ≤ n ∧ n ≤ 1000000000) (h1 : 1 ≤ d) (h6 : d ≤ 6) : g10_0 (fixT (decide (n < 0)) n.natAbs d) (d : Int) = n ∧ g10_1 (fixT (decide (n < 0)) n.natAbs d) (d : Int) = true := by
  have hA : n.natAbs ≤ 1000000000 := by omega
  obtain ⟨c1, c2⟩ := fix_cut n.natAbs d
  have hnum := number_fix hA h1 h6
  have hj : (ByteArray.mk ⟨Lib.decDigits (n.natAbs / 10 ^ d)⟩) ++ (ByteArray.mk ⟨pz d (n.natAbs % 10 ^ d)⟩) = ⟨⟨Lib.decDigits (n.natAbs / 10 ^ d) ++ pz d (n.natAbs % 10 ^ d)⟩⟩ := by
    apply ByteArray.ext
    apply Array.ext'
    simp [ByteArray.data_append]
  have ht := fix_i hn h1 h6
  unfold g10_0 g10_1
  by_cases hx : n < 0
  · have ne := fixT_ne true n.natAbs d
    obtain ⟨m1, m2⟩ := fix_minus n.natAbs d
    simp only [hx, decide_true] at ht ⊢
    rw [m1, m2, c1, c2, hj, hnum, show (0 : Int) - (n.natAbs : Int) = n by omega, ht]
    have ne' : ¬ (ByteArray.toList (fixT true n.natAbs d) == ByteArray.toList (ByteArray.mk #[])) = true := by rw [bytes_eq]; exact ne
    rw [if_pos rfl, if_pos rfl, if_neg ne', if_neg ne']
    simp
  · have ne := fixT_ne false n.natAbs d
    obtain ⟨m1, m2⟩ := fix_plus n.natAbs d
    simp only [hx, decide_false] at ht ⊢
    rw [m1, m2, c1, c2, hj, hnum, show (n.natAbs : Int) = n by omega, ht]
    have ne' : ¬ (ByteArray.toList (fixT false n.natAbs d) == ByteArray.toList (ByteArray.mk #[])) = true := by rw [bytes_eq]; exact ne
    simp only [Bool.false_eq_true, if_false]
    rw [if_neg ne', if_neg ne']
    simp

theorem text_of_fix {n p : Int} {x : ByteArray} (h : g9_0 n p = x) (h0 : x ≠ ByteArray.mk #[]) : ∃ (m : Int) (d : Nat), p = (d : Int) ∧ 1 ≤ d ∧ d ≤ 6 ∧ (-1000000000 ≤ m ∧ m ≤ 1000000000) ∧ x = fixT (decide (m < 0)) m.natAbs d := by
  by_cases c0 : (!g26_0 n (-1000000000) 1000000000) = true
  · exfalso; apply h0; rw [← h]; unfold g9_0; rw [if_pos c0]
  · by_cases c1 : (!g26_0 p 1 6) = true
    · exfalso; apply h0; rw [← h]; unfold g9_0; rw [if_neg c0, if_pos c1]
    · have w0 := win9 c0
      have w1 := win9 c1
      obtain ⟨d, rfl⟩ : ∃ d : Nat, p = (d : Int) := Int.eq_ofNat_of_zero_le (by omega)
      exact ⟨n, d, rfl, by omega, by omega, w0, by rw [← h, fix_i w0 (by omega) (by omega)]⟩

theorem fixed_i2 {x : ByteArray} {p : Int} (hx : g10_1 x p = true) : ∃ (m : Int) (d : Nat), p = (d : Int) ∧ 1 ≤ d ∧ d ≤ 6 ∧ (-1000000000 ≤ m ∧ m ≤ 1000000000) ∧ x = fixT (decide (m < 0)) m.natAbs d := by
  unfold g10_1 at hx
  split at hx
  · split at hx
    · cases hx
    · rename_i h0
      rw [bytes_eq] at h0
      split at hx
      · cases hx
      · rename_i h1
        exact text_of_fix ((bytes_eq _ _).1 (by simpa using h1)) h0
  · split at hx
    · cases hx
    · rename_i h0
      rw [bytes_eq] at h0
      split at hx
      · cases hx
      · rename_i h1
        exact text_of_fix ((bytes_eq _ _).1 (by simpa using h1)) h0

end Go.Proofs.YtomcblkbgnielaaDoor

/- A law that says how functions of the program and of the specification hang together. -/
set_option linter.unusedVariables false
set_option linter.unusedSimpArgs false
set_option maxRecDepth 100000
namespace Go.Proofs.YtomcblkbgnielaaDoor
open Go Go.Am Go.Proofs

theorem chainT {c : Prop} [Decidable c] {B : Bool} {Q : Prop} (h : ¬ c → B = true → Q) (hx : (if c then false else B) = true) : Q := by
  split at hx
  · cases hx
  · rename_i hc; exact h hc hx
end Go.Proofs.YtomcblkbgnielaaDoor

/- A law that says how functions of the program and of the specification hang together. -/
set_option linter.unusedVariables false
set_option linter.unusedSimpArgs false
set_option maxRecDepth 100000
namespace Go.Proofs.YtomcblkbgnielaaDoor
open Go Go.Am Go.Proofs

theorem fixed_ip {x : ByteArray} {p : Int} (h : x.size ≤ 1048576) : P10 x p := by
  unfold P10
  have ht : (g34_0 x (ByteArray.mk #[45])).size ≤ 1048576 := by
    show (List.toArray _).size ≤ _
    rw [List.size_toArray]
    have e : x.data.toList.length = x.size := rfl
    unfold Lib.trimPrefix
    split
    · rw [List.length_drop]; omega
    · omega
  generalize g34_0 x (ByteArray.mk #[45]) = t at *
  obtain ⟨l1, l2⟩ := cutLen28 t.data.toList (ByteArray.mk #[46]).data.toList
  have e : t.data.toList.length = t.size := rfl
  have a1 : (g28_0 t (ByteArray.mk #[46])).size = (Lib.cut t.data.toList (ByteArray.mk #[46]).data.toList).1.length := by
    show (List.toArray _).size = _
    rw [List.size_toArray]
  have a2 : (g28_1 t (ByteArray.mk #[46])).size = (Lib.cut t.data.toList (ByteArray.mk #[46]).data.toList).2.1.length := by
    show (List.toArray _).size = _
    rw [List.size_toArray]
  refine ⟨(show t.size < 4294967281 from by omega), by omega, ?_⟩
  split
  · have b := number_bound (g28_0 t (ByteArray.mk #[46]) ++ g28_1 t (ByteArray.mk #[46]))
    exact ⟨by rw [i64_iff]; omega, trivial⟩
  · trivial

end Go.Proofs.YtomcblkbgnielaaDoor

/- A law that says how functions of the program and of the specification hang together. -/
set_option linter.unusedVariables false
set_option linter.unusedSimpArgs false
set_option maxRecDepth 100000
namespace Go.Proofs.YtomcblkbgnielaaDoor
open Go Go.Am Go.Proofs

end Go.Proofs.YtomcblkbgnielaaDoor

/- A law that says how functions of the program and of the specification hang together. -/
set_option linter.unusedVariables false
set_option linter.unusedSimpArgs false
set_option maxRecDepth 100000
namespace Go.Proofs.YtomcblkbgnielaaDoor
open Go Go.Am Go.Proofs

theorem ifT {c : Prop} [Decidable c] {Q : Prop} (h : ¬ c → Q) : if c then True else Q := by
  by_cases hc : c
  · rw [if_pos hc]; trivial
  · rw [if_neg hc]; exact h hc
end Go.Proofs.YtomcblkbgnielaaDoor

/- A law that says how functions of the program and of the specification hang together. -/
set_option linter.unusedVariables false
set_option linter.unusedSimpArgs false
set_option maxRecDepth 100000
namespace Go.Proofs.YtomcblkbgnielaaDoor
open Go Go.Am Go.Proofs

end Go.Proofs.YtomcblkbgnielaaDoor

/- A law that says how functions of the program and of the specification hang together. -/
set_option linter.unusedVariables false
set_option linter.unusedSimpArgs false
set_option maxRecDepth 100000
namespace Go.Proofs.YtomcblkbgnielaaDoor
open Go Go.Am Go.Proofs

def mps : List UInt8 := [32, 109, 47, 115]

def spT (A : Nat) : ByteArray := ⟨⟨((fixT false A 3).data.toList) ++ mps⟩⟩

theorem unit_iff (n : Int) : g37_0 n = true ↔ 0 ≤ n ∧ n ≤ 1000000000 := by
  unfold g37_0 g26_0
  by_cases c1 : n ≥ 0
  · by_cases c2 : n ≤ 1000000000
    · simp [c1, c2]
    · simp [c1, c2]
  · have : ¬ 0 ≤ n := c1
    simp [c1, this]

theorem trim_hit (p : List UInt8) : g40_0 ⟨⟨p ++ mps⟩⟩ (ByteArray.mk #[32, 109, 47, 115]) = ⟨⟨p⟩⟩ := by
  have h : Lib.hasSuffix (p ++ mps) mps = true := by
    unfold Lib.hasSuffix
    simp
  have e : Lib.trimSuffix (p ++ mps) mps = p := by
    unfold Lib.trimSuffix
    rw [if_pos h]
    simp
  show (⟨(Lib.trimSuffix (p ++ mps) mps).toArray⟩ : ByteArray) = _
  rw [e]

theorem trim_size (x y : ByteArray) : (g40_0 x y).size ≤ x.size := by
  show (List.toArray _).size ≤ _
  rw [List.size_toArray]
  have e : x.data.toList.length = x.size := rfl
  unfold Lib.trimSuffix
  split
  · rw [List.length_take]; omega
  · omega

theorem fix_threeI {A : Nat} (h : A ≤ 1000000000) : g9_0 (A : Int) 3 = fixT false A 3 ∧ g10_0 (fixT false A 3) 3 = (A : Int) ∧ g10_1 (fixT false A 3) 3 = true := by
  have e3 : ((3 : Nat) : Int) = 3 := rfl
  have z : decide ((A : Int) < 0) = false := decide_eq_false (by omega)
  have a := fix_i (n := (A : Int)) (d := 3) ⟨by omega, by omega⟩ (by decide) (by decide)
  have b := fixed_i1 (n := (A : Int)) (d := 3) ⟨by omega, by omega⟩ (by decide) (by decide)
  rw [z, Int.natAbs_natCast, e3] at a b
  exact ⟨a, b.1, b.2⟩

theorem text_speed {A : Nat} (h : A ≤ 1000000000) : g16_0 (A : Int) = spT A := by
  have hu : g37_0 (A : Int) = true := (unit_iff _).2 (by omega)
  unfold g16_0
  rw [hu, (fix_threeI h).1]
  simp only [Bool.not_true, Bool.false_eq_true, if_false]
  apply ByteArray.ext
  apply Array.ext'
  rw [ByteArray.data_append, Array.toList_append]
  rfl

theorem speed_i1 {A : Nat} (h : A ≤ 1000000000) : g17_0 (spT A) = (A : Int) ∧ g17_1 (spT A) = true := by
  have ht : g40_0 (spT A) (ByteArray.mk #[32, 109, 47, 115]) = fixT false A 3 := trim_hit _
  obtain ⟨_, a, b⟩ := fix_threeI h
  unfold g17_0 g17_1
  rw [ht, a, b, text_speed h]
  simp

theorem speed_i2 {x : ByteArray} (hx : g17_1 x = true) : ∃ A : Nat, A ≤ 1000000000 ∧ x = spT A := by
  unfold g17_1 at hx
  refine chainT (fun h0 hx => chainT (fun h1 _ => ?_) hx) hx
  have h1' : g16_0 (g10_0 (g40_0 x (ByteArray.mk #[32, 109, 47, 115])) 3) = x := (bytes_eq _ _).1 (by simpa using h1)
  have h0' : g10_1 (g40_0 x (ByteArray.mk #[32, 109, 47, 115])) 3 = true := by simpa using h0
  by_cases hu : g37_0 (g10_0 (g40_0 x (ByteArray.mk #[32, 109, 47, 115])) 3) = true
  · obtain ⟨a1, a2⟩ := (unit_iff _).1 hu
    obtain ⟨A, hA⟩ := Int.eq_ofNat_of_zero_le a1
    rw [hA] at h1' a2
    have hA' : A ≤ 1000000000 := by omega
    exact ⟨A, hA', by rw [← h1']; exact text_speed hA'⟩
  · exfalso
    have e : g16_0 (g10_0 (g40_0 x (ByteArray.mk #[32, 109, 47, 115])) 3) = ByteArray.mk #[] := by
      unfold g16_0
      rw [if_pos (by simpa using hu)]
    rw [e] at h1'
    subst h1'
    obtain ⟨m, d, _, _, _, _, e2⟩ := fixed_i2 h0'
    exact fixT_ne _ _ _ e2.symm

theorem speed_pre (n : Int) : P16 n := by
  unfold P16
  refine ifT fun hu => ?_
  obtain ⟨a1, a2⟩ := (unit_iff n).1 (by simpa using hu)
  obtain ⟨A, rfl⟩ := Int.eq_ofNat_of_zero_le a1
  refine ⟨?_, trivial⟩
  rw [(fix_threeI (by omega)).1]
  have e : (fixT false A 3).size = (Lib.decDigits (A / 10 ^ 3) ++ 46 :: pz 3 (A % 10 ^ 3)).length := by
    show ((if false = true then [45] else []) ++ Lib.decDigits (A / 10 ^ 3) ++ 46 :: pz 3 (A % 10 ^ 3)).length = _
    simp
  have hl := dec_len 6 (A / 10 ^ 3) (by rw [Nat.div_lt_iff_lt_mul (by decide)]; exact Nat.lt_of_le_of_lt (show A ≤ 1000000000 by omega) (by decide))
  rw [e, List.length_append, List.length_cons, pz_len]
  omega

end Go.Proofs.YtomcblkbgnielaaDoor

/- A law that says how functions of the program and of the specification hang together. -/
set_option linter.unusedVariables false
set_option linter.unusedSimpArgs false
set_option maxRecDepth 100000
namespace Go.Proofs.YtomcblkbgnielaaDoor
open Go Go.Am Go.Proofs

theorem tl_empty (x : ByteArray) : (ByteArray.toList x == ByteArray.toList (ByteArray.mk #[])) = decide (x = ByteArray.mk #[]) := by
  by_cases h : x = ByteArray.mk #[]
  · rw [decide_eq_true h, (bytes_eq _ _).2 h]
  · rw [decide_eq_false h, (bytes_ne _ _).2 h]

theorem clk_ne (h m : Nat) : clk h m ≠ ByteArray.mk #[] := fun hh => by
  have := congrArg ByteArray.size hh
  exact absurd (show (5 : Nat) = 0 from this) (by decide)

theorem unitB (n lo hi : Int) : g26_0 n lo hi = decide (lo ≤ n ∧ n ≤ hi) := by
  unfold g26_0
  by_cases c1 : n ≥ lo
  · by_cases c2 : n ≤ hi
    · simp [c1, c2]
    · simp [c1, c2]
  · have : ¬ lo ≤ n := c1
    simp [c1, this]

theorem law_clock (n : Int) : P6 n ∧ P7 (g6_0 n) ∧ decide (g6_0 n = ByteArray.mk #[]) = !g7_1 (g6_0 n) ∧
    (g7_1 (g6_0 n) = true → g7_0 (g6_0 n) = n ∧ (g6_0 n).size = 5) := by
  refine ⟨clock_pre n, ?_⟩
  by_cases hv : 0 ≤ n ∧ n ≤ 1439
  · obtain ⟨k, rfl⟩ : ∃ k : Nat, n = (k : Int) := Int.eq_ofNat_of_zero_le hv.1
    rw [clock_text (by omega)]
    obtain ⟨a, b⟩ := clock_i1 (h := k / 60) (m := k % 60) (by omega) (by omega)
    refine ⟨clock_ip (show 5 ≤ 1048576 by decide), ?_, fun _ => ⟨?_, rfl⟩⟩
    · rw [b, decide_eq_false (clk_ne _ _)]; rfl
    · rw [a]; omega
  · have e : g6_0 n = ByteArray.mk #[] := by
      unfold g6_0
      rw [unitB, decide_eq_false hv]
      rfl
    rw [e]
    have b : g7_1 (ByteArray.mk #[]) = false := by
      cases h : g7_1 (ByteArray.mk #[]) with
      | false => rfl
      | true =>
        obtain ⟨a, b, _, _, e⟩ := clock_i2 h
        exact absurd e.symm (clk_ne _ _)
    refine ⟨clock_ip (show 0 ≤ 1048576 by decide), ?_, fun h => ?_⟩
    · rw [b]; rfl
    · rw [b] at h; cases h

theorem law_lap (n : Int) : P12 n ∧ P13 (g12_0 n) ∧ decide (g12_0 n = ByteArray.mk #[]) = !g13_1 (g12_0 n) ∧
    (g13_1 (g12_0 n) = true → g13_0 (g12_0 n) = n) ∧ decide (g12_0 n = ByteArray.mk #[]) = !decide (0 ≤ n ∧ n ≤ 1000000000) := by
  refine ⟨lap_pre n, ?_⟩
  by_cases hv : 0 ≤ n ∧ n ≤ 1000000000
  · obtain ⟨k, rfl⟩ : ∃ k : Nat, n = (k : Int) := Int.eq_ofNat_of_zero_le hv.1
    rw [lap_text (by omega)]
    obtain ⟨a, b⟩ := lap_i1 (h := k / 60) (m := k % 60) (by omega) (by omega)
    refine ⟨lap_ip ?_, ?_, fun _ => ?_, ?_⟩
    · have hl := dec_len 9 (k / 60) (by rw [Nat.div_lt_iff_lt_mul (by decide)]; exact Nat.lt_of_le_of_lt (show k ≤ 1000000000 by omega) (by decide))
      have e : (lap (k / 60) (k % 60)).size = (Lib.decDigits (k / 60) ++ 58 :: [D10 (k % 60 / 10), D10 (k % 60 % 10)]).length := rfl
      rw [e, List.length_append]
      simp only [List.length_cons, List.length_nil]
      omega
    · rw [b, decide_eq_false (lap_ne _ _)]; rfl
    · rw [a]; omega
    · rw [decide_eq_false (lap_ne _ _), decide_eq_true hv]; rfl
  · have e : g12_0 n = ByteArray.mk #[] := by
      unfold g12_0 g37_0
      rw [unitB, decide_eq_false hv]
      rfl
    rw [e]
    have b : g13_1 (ByteArray.mk #[]) = false := by
      cases h : g13_1 (ByteArray.mk #[]) with
      | false => rfl
      | true =>
        obtain ⟨a, b, _, _, e⟩ := lap_i2 h
        exact absurd e.symm (lap_ne _ _)
    refine ⟨lap_ip (show 0 ≤ 1048576 by decide), ?_, fun h => ?_, ?_⟩
    · rw [b]; rfl
    · rw [b] at h; cases h
    · rw [decide_eq_false hv]; rfl

theorem spT_size {A : Nat} (h : A ≤ 1000000000) : (spT A).size ≤ 100 ∧ spT A ≠ ByteArray.mk #[] := by
  have e : (spT A).size = ((fixT false A 3).data.toList ++ mps).length := rfl
  have e2 : (fixT false A 3).data.toList = Lib.decDigits (A / 10 ^ 3) ++ 46 :: pz 3 (A % 10 ^ 3) := by simp [fixT]
  have hl := dec_len 6 (A / 10 ^ 3) (by rw [Nat.div_lt_iff_lt_mul (by decide)]; exact Nat.lt_of_le_of_lt (show A ≤ 1000000000 by omega) (by decide))
  have em : mps.length = 4 := rfl
  have es : (spT A).size = (Lib.decDigits (A / 10 ^ 3)).length + (3 + 1) + 4 := by
    rw [e, e2, List.length_append, List.length_append, List.length_cons, pz_len, em]
  refine ⟨by omega, fun hh => ?_⟩
  rw [hh] at es
  have z : (ByteArray.mk #[]).size = 0 := rfl
  omega

theorem law_speed (n : Int) : P16 n ∧ P17 (g16_0 n) ∧ decide (g16_0 n = ByteArray.mk #[]) = !g17_1 (g16_0 n) ∧
    (g17_1 (g16_0 n) = true → g17_0 (g16_0 n) = n) := by
  have pre : ∀ x : ByteArray, x.size ≤ 1048576 → P17 x := fun x h => by
    unfold P17
    refine ⟨fixed_ip ?_, ifT fun _ => ⟨speed_pre _, trivial⟩⟩
    exact Nat.le_trans (trim_size _ _) h
  refine ⟨speed_pre n, ?_⟩
  by_cases hv : 0 ≤ n ∧ n ≤ 1000000000
  · obtain ⟨A, rfl⟩ : ∃ k : Nat, n = (k : Int) := Int.eq_ofNat_of_zero_le hv.1
    have hA : A ≤ 1000000000 := by omega
    rw [text_speed hA]
    obtain ⟨a, b⟩ := speed_i1 hA
    obtain ⟨s1, s2⟩ := spT_size hA
    exact ⟨pre _ (by omega), by rw [b, decide_eq_false s2]; rfl, fun _ => a⟩
  · have e : g16_0 n = ByteArray.mk #[] := by
      unfold g16_0 g37_0
      rw [unitB, decide_eq_false hv]
      rfl
    rw [e]
    have b : g17_1 (ByteArray.mk #[]) = false := by
      cases h : g17_1 (ByteArray.mk #[]) with
      | false => rfl
      | true =>
        obtain ⟨A, hA, e⟩ := speed_i2 h
        exact absurd e.symm (spT_size hA).2
    refine ⟨pre _ (show 0 ≤ 1048576 by decide), ?_, fun h => ?_⟩
    · rw [b]; rfl
    · rw [b] at h; cases h

theorem law_fixed (n p : Int) : P10 (g9_0 n p) p ∧ decide (g9_0 n p = ByteArray.mk #[]) = !g10_1 (g9_0 n p) p ∧
    (g10_1 (g9_0 n p) p = true → g10_0 (g9_0 n p) p = n) := by
  by_cases hv : (-1000000000 ≤ n ∧ n ≤ 1000000000) ∧ 1 ≤ p ∧ p ≤ 6
  · obtain ⟨d, rfl⟩ : ∃ k : Nat, p = (k : Int) := Int.eq_ofNat_of_zero_le (by omega)
    have h1 : 1 ≤ d := by omega
    have h6 : d ≤ 6 := by omega
    rw [fix_i hv.1 h1 h6]
    obtain ⟨a, b⟩ := fixed_i1 hv.1 h1 h6
    have hs : (fixT (decide (n < 0)) n.natAbs d).size ≤ 1048576 := by
      have e : (fixT (decide (n < 0)) n.natAbs d).size = ((if decide (n < 0) = true then [45] else []) ++ Lib.decDigits (n.natAbs / 10 ^ d) ++ 46 :: pz d (n.natAbs % 10 ^ d)).length := rfl
      have hl := dec_len 9 (n.natAbs / 10 ^ d) (Nat.lt_of_le_of_lt (Nat.div_le_self _ _) (show n.natAbs < 10 ^ (9 + 1) by omega))
      rw [e, List.length_append, List.length_append, List.length_cons, pz_len]
      have : (if decide (n < 0) = true then [(45 : UInt8)] else []).length ≤ 1 := by split <;> simp
      omega
    exact ⟨fixed_ip hs, by rw [b, decide_eq_false (fixT_ne _ _ _)]; rfl, fun _ => a⟩
  · have e : g9_0 n p = ByteArray.mk #[] := by
      unfold g9_0
      rw [unitB, unitB]
      by_cases h1 : -1000000000 ≤ n ∧ n ≤ 1000000000
      · rw [decide_eq_true h1, decide_eq_false (show ¬ (1 ≤ p ∧ p ≤ 6) from fun h => hv ⟨h1, h⟩)]; rfl
      · rw [decide_eq_false h1]; rfl
    rw [e]
    have b : g10_1 (ByteArray.mk #[]) p = false := by
      cases h : g10_1 (ByteArray.mk #[]) p with
      | false => rfl
      | true =>
        obtain ⟨m, d, _, _, _, _, e⟩ := fixed_i2 h
        exact absurd e.symm (fixT_ne _ _ _)
    refine ⟨fixed_ip (show 0 ≤ 1048576 by decide), ?_, fun h => ?_⟩
    · rw [b]; rfl
    · rw [b] at h; cases h

theorem numB_small (n : Int) (h0 : 0 ≤ n) (h : n ≤ 1000000000) : (numB n).size ≤ 21 := numB_size _ (by omega) (by omega)

theorem law_lapS (n : Int) : P14 n ∧ decide (g14_0 n = ByteArray.mk #[]) = !decide (0 ≤ n ∧ n ≤ 1000000000) := by
  unfold P14 g14_0 g38_0
  have hm : g49_0 n 0 1000000000 = decide (0 ≤ n ∧ n ≤ 1000000000) := by
    unfold g49_0
    by_cases c1 : n ≥ 0
    · by_cases c2 : n ≤ 1000000000
      · simp [c1, c2]
      · simp [c1, c2]
    · have : ¬ 0 ≤ n := c1
      simp [c1, this]
  rw [hm]
  by_cases hv : 0 ≤ n ∧ n ≤ 1000000000
  · simp only [decide_eq_true hv, Bool.not_true, Bool.false_eq_true, if_false]
    have e1 : Int.tmod n 60 = n % 60 := Int.tmod_eq_emod_of_nonneg hv.1
    have e2 : Int.tdiv n 60 = n / 60 := Int.tdiv_eq_ediv_of_nonneg hv.1
    have s1 := numB_small (n % 60) (by omega) (by omega)
    have s2 := numB_small (n / 60) (by omega) (by omega)
    constructor
    · refine ⟨?_, trivial⟩
      unfold P39 g50_0
      rw [e1, e2]
      have a1 : (ByteArray.mk #[58]).size = 1 := rfl
      have a2 : (ByteArray.mk #[48]).size = 1 := rfl
      refine ⟨by rw [i64_iff]; omega, ?_⟩
      split
      · refine ⟨by omega, by rw [i64_iff]; omega, by omega, ?_, trivial⟩
        rw [ByteArray.size_append, ByteArray.size_append]; omega
      · refine ⟨by rw [i64_iff]; omega, by omega, ?_, trivial⟩
        rw [ByteArray.size_append]; omega
    · apply decide_eq_false
      intro hh
      have := congrArg ByteArray.size hh
      have z : (ByteArray.mk #[]).size = 0 := rfl
      have a1 : (ByteArray.mk #[58]).size = 1 := rfl
      unfold g39_0 at this
      rw [z] at this
      split at this <;> simp only [ByteArray.size_append] at this <;> omega
  · simp only [decide_eq_false hv, Bool.not_false, if_true]
    exact ⟨trivial, rfl⟩

theorem law_hour (v : Int) (h : -1 ≤ v ∧ v ≤ 1000000001) : P18 v ∧ -10000000000 ≤ g18_0 v ∧ g18_0 v ≤ 10000000000 ∧ (g18_1 v = 0 → -5 ≤ 10 * g18_0 v - 36 * v ∧ 10 * g18_0 v - 36 * v ≤ 5) := by
  unfold P18 g18_0 g18_1 g37_0
  rw [unitB]
  by_cases hv : 0 ≤ v ∧ v ≤ 1000000000
  · simp only [decide_eq_true hv, Bool.not_true, Bool.false_eq_true, if_false]
    have e1 : Int.tmod (36 * v) 10 = 36 * v % 10 := Int.tmod_eq_emod_of_nonneg (by omega)
    have e2 : Int.tdiv (36 * v) 10 = 36 * v / 10 := Int.tdiv_eq_ediv_of_nonneg (by omega)
    have f10 : g33_0 10 = 10 := rfl
    have fr : g33_0 (36 * v % 10) = 36 * v % 10 := by
      unfold g33_0
      rw [if_neg (by simp; omega)]
    have p10 : P33 10 := by unfold P33; rw [if_neg (by simp)]; trivial
    have pr : P33 (36 * v % 10) := by unfold P33; rw [if_neg (by simp; omega)]; trivial
    have hs : (!decide (36 * v < 0) == decide ((10 : Int) < 0)) = false := by
      rw [decide_eq_false (show ¬ 36 * v < 0 by omega)]; rfl
    unfold P41 g41_0
    rw [e1, e2, f10, fr, hs]
    by_cases hc : 36 * v % 10 ≥ 10 - 36 * v % 10
    · simp only [decide_eq_true hc, if_true, Bool.false_eq_true, if_false]
      exact ⟨⟨by rw [i64_iff]; omega, ⟨by decide, by rw [i64_iff]; omega, by decide, by rw [i64_iff]; omega, pr, p10, by rw [i64_iff]; omega, by rw [i64_iff]; omega, trivial⟩, trivial⟩, by omega, by omega, fun _ => by omega⟩
    · simp only [decide_eq_false hc, Bool.false_eq_true, if_false]
      exact ⟨⟨by rw [i64_iff]; omega, ⟨by decide, by rw [i64_iff]; omega, by decide, by rw [i64_iff]; omega, pr, p10, by rw [i64_iff]; omega, trivial⟩, trivial⟩, by omega, by omega, fun _ => by omega⟩
  · simp only [decide_eq_false hv, Bool.not_false, if_true]
    exact ⟨trivial, by decide, by decide, fun h => absurd h (by decide)⟩

theorem law_seconds (w v : Int) : P21 w v ∧ ((g21_1 w v ≠ 0 ∧ g21_0 w v = 0) ∨ (g21_1 w v = 0 ∧ 0 ≤ g21_0 w v ∧ g21_0 w v ≤ 2000000000 ∧ w ≤ g21_0 w v * v ∧ g21_0 w v * v ≤ 2000000000 ∧
    0 ≤ g21_0 w v * v ∧ (g21_0 w v - 1) * v < w ∧ -1000000000 ≤ (g21_0 w v - 1) * v)) := by
  unfold P21 g21_0 g21_1 g37_0
  rw [unitB, unitB]
  by_cases hw : 0 ≤ w ∧ w ≤ 1000000000
  · by_cases hv : 1 ≤ v ∧ v ≤ 1000000000
    · simp only [decide_eq_true hw, decide_eq_true hv, Bool.not_true, Bool.false_eq_true, if_false]
      unfold P42 g42_0
      have e2 : Int.tdiv (w + v - 1) v = (w + v - 1) / v := Int.tdiv_eq_ediv_of_nonneg (by omega)
      rw [e2]
      have a1 := Int.mul_ediv_add_emod (w + v - 1) v
      have a2 := Int.emod_nonneg (w + v - 1) (show v ≠ 0 by omega)
      have a3 := Int.emod_lt_of_pos (w + v - 1) (show 0 < v by omega)
      have a4 : 0 ≤ (w + v - 1) / v := Int.ediv_nonneg (by omega) (by omega)
      have a5 : (w + v - 1) / v ≤ w + v - 1 := Int.ediv_le_self _ (by omega)
      have a6 : v * ((w + v - 1) / v) = (w + v - 1) / v * v := Int.mul_comm _ _
      have a7 : ((w + v - 1) / v - 1) * v = (w + v - 1) / v * v - v := by rw [Int.sub_mul, Int.one_mul]
      rw [a6] at a1
      generalize (w + v - 1) / v * v = q at *
      refine ⟨⟨⟨by rw [i64_iff]; omega, by rw [i64_iff]; omega, by omega, by rw [i64_iff]; omega, trivial⟩, trivial⟩, .inr ⟨(by first | rfl | trivial), a4, by omega, by omega, by omega, by omega, ?_, ?_⟩⟩
      · rw [a7]; omega
      · rw [a7]; omega
    · simp only [decide_eq_true hw, decide_eq_false hv, Bool.not_true, Bool.not_false, Bool.false_eq_true, if_false, if_true]
      exact ⟨trivial, .inl ⟨by decide, trivial⟩⟩
  · simp only [decide_eq_false hw, Bool.not_false, if_true]
    exact ⟨trivial, .inl ⟨by decide, trivial⟩⟩

end Go.Proofs.YtomcblkbgnielaaDoor

/- Function 3 (laws.FnUnits): its runs between cut points. Written by a program of this repo (gen). -/
set_option linter.unusedVariables false
set_option linter.unusedSimpArgs false
set_option maxRecDepth 100000
namespace Go.Proofs.YtomcblkbgnielaaDoor
open Go Go.Am Go.Proofs
def ext3 : Ext := [(4, S4), (5, S5), (6, S6), (7, S7), (8, S8), (9, S9), (10, S10), (11, S11), (12, S12), (13, S13), (14, S14), (15, S15), (16, S16), (17, S17), (18, S18), (19, S19), (20, S20), (21, S21)]
theorem call3_4 : Callable Tryd.prog 4 := ⟨Tryd.f4, Tryd.func4, by kernel_rfl, by kernel_rfl⟩
theorem call3_5 : Callable Tryd.prog 5 := ⟨Tryd.f5, Tryd.func5, by kernel_rfl, by kernel_rfl⟩
theorem call3_6 : Callable Tryd.prog 6 := ⟨Tryd.f6, Tryd.func6, by kernel_rfl, by kernel_rfl⟩
theorem call3_7 : Callable Tryd.prog 7 := ⟨Tryd.f7, Tryd.func7, by kernel_rfl, by kernel_rfl⟩
theorem call3_8 : Callable Tryd.prog 8 := ⟨Tryd.f8, Tryd.func8, by kernel_rfl, by kernel_rfl⟩
theorem call3_9 : Callable Tryd.prog 9 := ⟨Tryd.f9, Tryd.func9, by kernel_rfl, by kernel_rfl⟩
theorem call3_10 : Callable Tryd.prog 10 := ⟨Tryd.f10, Tryd.func10, by kernel_rfl, by kernel_rfl⟩
theorem call3_11 : Callable Tryd.prog 11 := ⟨Tryd.f11, Tryd.func11, by kernel_rfl, by kernel_rfl⟩
theorem call3_12 : Callable Tryd.prog 12 := ⟨Tryd.f12, Tryd.func12, by kernel_rfl, by kernel_rfl⟩
theorem call3_13 : Callable Tryd.prog 13 := ⟨Tryd.f13, Tryd.func13, by kernel_rfl, by kernel_rfl⟩
theorem call3_14 : Callable Tryd.prog 14 := ⟨Tryd.f14, Tryd.func14, by kernel_rfl, by kernel_rfl⟩
theorem call3_15 : Callable Tryd.prog 15 := ⟨Tryd.f15, Tryd.func15, by kernel_rfl, by kernel_rfl⟩
theorem call3_16 : Callable Tryd.prog 16 := ⟨Tryd.f16, Tryd.func16, by kernel_rfl, by kernel_rfl⟩
theorem call3_17 : Callable Tryd.prog 17 := ⟨Tryd.f17, Tryd.func17, by kernel_rfl, by kernel_rfl⟩
theorem call3_18 : Callable Tryd.prog 18 := ⟨Tryd.f18, Tryd.func18, by kernel_rfl, by kernel_rfl⟩
theorem call3_19 : Callable Tryd.prog 19 := ⟨Tryd.f19, Tryd.func19, by kernel_rfl, by kernel_rfl⟩
theorem call3_20 : Callable Tryd.prog 20 := ⟨Tryd.f20, Tryd.func20, by kernel_rfl, by kernel_rfl⟩
theorem call3_21 : Callable Tryd.prog 21 := ⟨Tryd.f21, Tryd.func21, by kernel_rfl, by kernel_rfl⟩
theorem ext3Ok : ExtOk Tryd.prog ext3 := ⟨⟨call3_4, con4⟩, ⟨call3_5, con5⟩, ⟨call3_6, con6⟩, ⟨call3_7, con7⟩, ⟨call3_8, con8⟩, ⟨call3_9, con9⟩, ⟨call3_10, con10⟩, ⟨call3_11, con11⟩, ⟨call3_12, con12⟩, ⟨call3_13, con13⟩, ⟨call3_14, con14⟩, ⟨call3_15, con15⟩, ⟨call3_16, con16⟩, ⟨call3_17, con17⟩, ⟨call3_18, con18⟩, ⟨call3_19, con19⟩, ⟨call3_20, con20⟩, ⟨call3_21, con21⟩, trivial⟩

noncomputable def b3 : Code := bodyOf Tryd.f3
theorem hb3 : Tryd.f3.body = some b3 := by kernel_rfl
def sig3 : List AT := [AT.v (Ty.sl (Ty.int IntKind.u8)), AT.v (Ty.sl (Ty.int IntKind.u8))]
def tys3 : List Ty := [Ty.bool]
def kds3 : List RK := []
def oks3 : List AT := owns sig3
def E3_3 (x0 : List Int) (x1 : List Int) : Env := [(0, PV.a (Atom.sl (Ty.int IntKind.u8) x0)), (1, PV.a (Atom.sl (Ty.int IntKind.u8) x1))]
def L3_3 (x0 : List Int) (x1 : List Int) : Heap := []
def E3_8 (x0 : List Int) (x1 : List Int) : Env := [(0, PV.a (Atom.sl (Ty.int IntKind.u8) x0)), (1, PV.a (Atom.sl (Ty.int IntKind.u8) x1))]
def L3_8 (x0 : List Int) (x1 : List Int) : Heap := []
def E3_13 (x0 : List Int) (x1 : List Int) : Env := [(0, PV.a (Atom.sl (Ty.int IntKind.u8) x0)), (1, PV.a (Atom.sl (Ty.int IntKind.u8) x1))]
def L3_13 (x0 : List Int) (x1 : List Int) : Heap := []
def E3_18 (x0 : List Int) (x1 : List Int) : Env := [(0, PV.a (Atom.sl (Ty.int IntKind.u8) x0)), (1, PV.a (Atom.sl (Ty.int IntKind.u8) x1))]
def L3_18 (x0 : List Int) (x1 : List Int) : Heap := []
def E3_23 (x0 : List Int) (x1 : List Int) : Env := [(0, PV.a (Atom.sl (Ty.int IntKind.u8) x0)), (18, PV.a (Atom.val (Value.int IntKind.i64 (g15_0 x1))))]
def L3_23 (x0 : List Int) (x1 : List Int) : Heap := []
def E3_26 (x0 : List Int) : Env := [(0, PV.a (Atom.sl (Ty.int IntKind.u8) x0))]
def L3_26 (x0 : List Int) : Heap := []
def E3_30 (x0 : List Int) : Env := [(24, PV.a (Atom.val (Value.int IntKind.i64 (g20_0 x0)))), (25, PV.a (Atom.val (Value.int IntKind.i64 (g20_1 x0)))), (26, PV.a (Atom.val (Value.int IntKind.i64 (g21_0 (g20_0 x0) (g20_1 x0)))))]
def L3_30 (x0 : List Int) : Heap := []
mutual
def R3 : Nat → List Int → List Int → List Dyn → Prop
  | 0, _, _, _ => False
  | n + 1, x0, x1, ds => (if (g4_0 x0) = true then (ds = [Dyn.mk Ty.bool Bool.true]) else (if (g4_0 x1) = true then (ds = [Dyn.mk Ty.bool Bool.true]) else (R3_3 n (x0) (x1) ds)))
def R3_3 : Nat → List Int → List Int → List Dyn → Prop
  | 0, _, _, _ => False
  | n + 1, x0, x1, ds => ((P5 x0) ∧ ((P6 (g5_0 x0)) ∧ ((P7 (g6_0 (g5_0 x0))) ∧ (if ((ByteArray.toList (g6_0 (g5_0 x0)) == ByteArray.toList (ByteArray.mk #[])) == g7_1 (g6_0 (g5_0 x0))) = true then (ds = [Dyn.mk Ty.bool Bool.false]) else (if (g7_1 (g6_0 (g5_0 x0))) = true then (if (g7_0 (g6_0 (g5_0 x0)) != g5_0 x0) = true then (ds = [Dyn.mk Ty.bool Bool.false]) else (if ((↑(ByteArray.size (g6_0 (g5_0 x0))) : Int) != 5) = true then (ds = [Dyn.mk Ty.bool Bool.false]) else (R3_8 n (x0) (x1) ds))) else (R3_8 n (x0) (x1) ds))))))
def R3_8 : Nat → List Int → List Int → List Dyn → Prop
  | 0, _, _, _ => False
  | n + 1, x0, x1, ds => ((P8 x1) ∧ ((P10 (g9_0 (g8_0 x1) (g8_1 x1)) (g8_1 x1)) ∧ (if ((ByteArray.toList (g9_0 (g8_0 x1) (g8_1 x1)) == ByteArray.toList (ByteArray.mk #[])) == g10_1 (g9_0 (g8_0 x1) (g8_1 x1)) (g8_1 x1)) = true then (ds = [Dyn.mk Ty.bool Bool.false]) else (if (g10_1 (g9_0 (g8_0 x1) (g8_1 x1)) (g8_1 x1)) = true then (if (g10_0 (g9_0 (g8_0 x1) (g8_1 x1)) (g8_1 x1) != g8_0 x1) = true then (ds = [Dyn.mk Ty.bool Bool.false]) else (R3_13 n (x0) (x1) ds)) else (R3_13 n (x0) (x1) ds)))))
def R3_13 : Nat → List Int → List Int → List Dyn → Prop
  | 0, _, _, _ => False
  | n + 1, x0, x1, ds => ((P11 x0) ∧ ((P12 (g11_0 x0)) ∧ ((P13 (g12_0 (g11_0 x0))) ∧ ((P14 (g11_0 x0)) ∧ (if (!(ByteArray.toList (g12_0 (g11_0 x0)) == ByteArray.toList (ByteArray.mk #[])) == (ByteArray.toList (g14_0 (g11_0 x0)) == ByteArray.toList (ByteArray.mk #[]))) = true then (ds = [Dyn.mk Ty.bool Bool.false]) else (if ((ByteArray.toList (g12_0 (g11_0 x0)) == ByteArray.toList (ByteArray.mk #[])) == g13_1 (g12_0 (g11_0 x0))) = true then (ds = [Dyn.mk Ty.bool Bool.false]) else (if (g13_1 (g12_0 (g11_0 x0))) = true then (if (g13_0 (g12_0 (g11_0 x0)) != g11_0 x0) = true then (ds = [Dyn.mk Ty.bool Bool.false]) else (R3_18 n (x0) (x1) ds)) else (R3_18 n (x0) (x1) ds))))))))
def R3_18 : Nat → List Int → List Int → List Dyn → Prop
  | 0, _, _, _ => False
  | n + 1, x0, x1, ds => ((P15 x1) ∧ ((P16 (g15_0 x1)) ∧ ((P17 (g16_0 (g15_0 x1))) ∧ (if ((ByteArray.toList (g16_0 (g15_0 x1)) == ByteArray.toList (ByteArray.mk #[])) == g17_1 (g16_0 (g15_0 x1))) = true then (ds = [Dyn.mk Ty.bool Bool.false]) else (if (g17_1 (g16_0 (g15_0 x1))) = true then (if (g17_0 (g16_0 (g15_0 x1)) != g15_0 x1) = true then (ds = [Dyn.mk Ty.bool Bool.false]) else (R3_23 n (x0) (x1) ds)) else (R3_23 n (x0) (x1) ds))))))
def R3_23 : Nat → List Int → List Int → List Dyn → Prop
  | 0, _, _, _ => False
  | n + 1, x0, x1, ds => ((P18 (g15_0 x1)) ∧ (if (g18_1 (g15_0 x1) == 0) = true then ((InR IntKind.i64 (10 * g18_0 (g15_0 x1))) ∧ ((InR IntKind.i64 (36 * g15_0 x1)) ∧ ((InR IntKind.i64 (10 * g18_0 (g15_0 x1) - 36 * g15_0 x1)) ∧ ((P19 (10 * g18_0 (g15_0 x1) - 36 * g15_0 x1)) ∧ ((InR IntKind.i64 (2 * g19_0 (10 * g18_0 (g15_0 x1) - 36 * g15_0 x1))) ∧ (if (Decidable.decide (2 * g19_0 (10 * g18_0 (g15_0 x1) - 36 * g15_0 x1) > 10)) = true then (ds = [Dyn.mk Ty.bool Bool.false]) else (R3_26 n (x0) ds))))))) else (R3_26 n (x0) ds)))
def R3_26 : Nat → List Int → List Dyn → Prop
  | 0, _, _ => False
  | n + 1, x0, ds => ((P20 x0) ∧ ((P21 (g20_0 x0) (g20_1 x0)) ∧ (if (g21_1 (g20_0 x0) (g20_1 x0) != 0) = true then (ds = [Dyn.mk Ty.bool (g21_0 (g20_0 x0) (g20_1 x0) == 0)]) else (R3_30 n (x0) ds))))
def R3_30 : Nat → List Int → List Dyn → Prop
  | 0, _, _ => False
  | n + 1, x0, ds => ((InR IntKind.i64 (g21_0 (g20_0 x0) (g20_1 x0) * g20_1 x0)) ∧ (if (Decidable.decide (g21_0 (g20_0 x0) (g20_1 x0) * g20_1 x0 ≥ g20_0 x0)) = true then (if (g21_0 (g20_0 x0) (g20_1 x0) == 0) = true then (ds = [Dyn.mk Ty.bool Bool.true]) else ((InR IntKind.i64 (g21_0 (g20_0 x0) (g20_1 x0) - 1)) ∧ ((InR IntKind.i64 ((g21_0 (g20_0 x0) (g20_1 x0) - 1) * g20_1 x0)) ∧ (ds = [Dyn.mk Ty.bool (Decidable.decide ((g21_0 (g20_0 x0) (g20_1 x0) - 1) * g20_1 x0 < g20_0 x0))])))) else (ds = [Dyn.mk Ty.bool Bool.false])))
end
theorem p3_0 (x0 : List Int) (x1 : List Int) : runF tab ext3 false 185 [3, 8, 13, 18, 23, 26, 30] 2000 [] oks3 kds3 tys3 Tryd.f3.results [true, true] [.code b3] (entE 0 0 sig3 (x0, x1, ())) (entL sig3 (x0, x1, ())) = some ([Dyn.mk Ty.bool Bool.true], [], [True, g4_0 x0 = Bool.true, Bool.true = Bool.true]) := by kernel_rfl
theorem p3_1 (x0 : List Int) (x1 : List Int) : runF tab ext3 false 185 [3, 8, 13, 18, 23, 26, 30] 2000 [] oks3 kds3 tys3 Tryd.f3.results [false, true] [.code b3] (entE 0 0 sig3 (x0, x1, ())) (entL sig3 (x0, x1, ())) = some ([Dyn.mk Ty.bool Bool.true], [], [True, g4_0 x0 = Bool.false, True, g4_0 x1 = Bool.true]) := by kernel_rfl
theorem p3_2 (x0 : List Int) (x1 : List Int) : Am.runN tab ext3 false 185 [3, 8, 13, 18, 23, 26, 30] 2000 [] [] [0, 1] [] [false, false] [.code b3] (entE 0 0 sig3 (x0, x1, ())) (entL sig3 (x0, x1, ())) = some (cutAt b3 3, E3_3 (x0) (x1), L3_3 (x0) (x1), [True, g4_0 x0 = Bool.false, True, g4_0 x1 = Bool.false]) := by kernel_rfl
theorem p3_3 (x0 : List Int) (x1 : List Int) : runF tab ext3 false 185 [3, 8, 13, 18, 23, 26, 30] 2000 [] oks3 kds3 tys3 Tryd.f3.results [true, true] (cutAt b3 3) (E3_3 x0 x1) (L3_3 x0 x1) = some ([Dyn.mk Ty.bool Bool.false], [], [P5 x0, P6 (g5_0 x0), P7 (g6_0 (g5_0 x0)), ((ByteArray.toList (g6_0 (g5_0 x0)) == ByteArray.toList (ByteArray.mk #[])) == g7_1 (g6_0 (g5_0 x0))) = Bool.true, Bool.true = Bool.true]) := by kernel_rfl
theorem p3_4 (x0 : List Int) (x1 : List Int) : runF tab ext3 false 185 [3, 8, 13, 18, 23, 26, 30] 2000 [] oks3 kds3 tys3 Tryd.f3.results [false, true, true, true] (cutAt b3 3) (E3_3 x0 x1) (L3_3 x0 x1) = some ([Dyn.mk Ty.bool Bool.false], [], [P5 x0, P6 (g5_0 x0), P7 (g6_0 (g5_0 x0)), ((ByteArray.toList (g6_0 (g5_0 x0)) == ByteArray.toList (ByteArray.mk #[])) == g7_1 (g6_0 (g5_0 x0))) = Bool.false, g7_1 (g6_0 (g5_0 x0)) = Bool.true, (g7_0 (g6_0 (g5_0 x0)) != g5_0 x0) = Bool.true, Bool.true = Bool.true]) := by kernel_rfl
theorem p3_5 (x0 : List Int) (x1 : List Int) : runF tab ext3 false 185 [3, 8, 13, 18, 23, 26, 30] 2000 [] oks3 kds3 tys3 Tryd.f3.results [false, true, false, true] (cutAt b3 3) (E3_3 x0 x1) (L3_3 x0 x1) = some ([Dyn.mk Ty.bool Bool.false], [], [P5 x0, P6 (g5_0 x0), P7 (g6_0 (g5_0 x0)), ((ByteArray.toList (g6_0 (g5_0 x0)) == ByteArray.toList (ByteArray.mk #[])) == g7_1 (g6_0 (g5_0 x0))) = Bool.false, g7_1 (g6_0 (g5_0 x0)) = Bool.true, (g7_0 (g6_0 (g5_0 x0)) != g5_0 x0) = Bool.false, ((↑(ByteArray.size (g6_0 (g5_0 x0))) : Int) != 5) = Bool.true]) := by kernel_rfl
theorem p3_6 (x0 : List Int) (x1 : List Int) : Am.runN tab ext3 false 185 [3, 8, 13, 18, 23, 26, 30] 2000 [] [] [0, 1] [] [false, true, false, false] (cutAt b3 3) (E3_3 x0 x1) (L3_3 x0 x1) = some (cutAt b3 8, E3_8 (x0) (x1), L3_8 (x0) (x1), [P5 x0, P6 (g5_0 x0), P7 (g6_0 (g5_0 x0)), ((ByteArray.toList (g6_0 (g5_0 x0)) == ByteArray.toList (ByteArray.mk #[])) == g7_1 (g6_0 (g5_0 x0))) = Bool.false, g7_1 (g6_0 (g5_0 x0)) = Bool.true, (g7_0 (g6_0 (g5_0 x0)) != g5_0 x0) = Bool.false, ((↑(ByteArray.size (g6_0 (g5_0 x0))) : Int) != 5) = Bool.false]) := by kernel_rfl
theorem p3_7 (x0 : List Int) (x1 : List Int) : Am.runN tab ext3 false 185 [3, 8, 13, 18, 23, 26, 30] 2000 [] [] [0, 1] [] [false, false, false] (cutAt b3 3) (E3_3 x0 x1) (L3_3 x0 x1) = some (cutAt b3 8, E3_8 (x0) (x1), L3_8 (x0) (x1), [P5 x0, P6 (g5_0 x0), P7 (g6_0 (g5_0 x0)), ((ByteArray.toList (g6_0 (g5_0 x0)) == ByteArray.toList (ByteArray.mk #[])) == g7_1 (g6_0 (g5_0 x0))) = Bool.false, g7_1 (g6_0 (g5_0 x0)) = Bool.false, Bool.false = Bool.false]) := by kernel_rfl
theorem p3_8 (x0 : List Int) (x1 : List Int) : runF tab ext3 false 185 [3, 8, 13, 18, 23, 26, 30] 2000 [] oks3 kds3 tys3 Tryd.f3.results [true, true] (cutAt b3 8) (E3_8 x0 x1) (L3_8 x0 x1) = some ([Dyn.mk Ty.bool Bool.false], [], [P8 x1, True, P10 (g9_0 (g8_0 x1) (g8_1 x1)) (g8_1 x1), ((ByteArray.toList (g9_0 (g8_0 x1) (g8_1 x1)) == ByteArray.toList (ByteArray.mk #[])) == g10_1 (g9_0 (g8_0 x1) (g8_1 x1)) (g8_1 x1)) = Bool.true, Bool.true = Bool.true]) := by kernel_rfl
theorem p3_9 (x0 : List Int) (x1 : List Int) : runF tab ext3 false 185 [3, 8, 13, 18, 23, 26, 30] 2000 [] oks3 kds3 tys3 Tryd.f3.results [false, true, true] (cutAt b3 8) (E3_8 x0 x1) (L3_8 x0 x1) = some ([Dyn.mk Ty.bool Bool.false], [], [P8 x1, True, P10 (g9_0 (g8_0 x1) (g8_1 x1)) (g8_1 x1), ((ByteArray.toList (g9_0 (g8_0 x1) (g8_1 x1)) == ByteArray.toList (ByteArray.mk #[])) == g10_1 (g9_0 (g8_0 x1) (g8_1 x1)) (g8_1 x1)) = Bool.false, g10_1 (g9_0 (g8_0 x1) (g8_1 x1)) (g8_1 x1) = Bool.true, (g10_0 (g9_0 (g8_0 x1) (g8_1 x1)) (g8_1 x1) != g8_0 x1) = Bool.true]) := by kernel_rfl
theorem p3_10 (x0 : List Int) (x1 : List Int) : Am.runN tab ext3 false 185 [3, 8, 13, 18, 23, 26, 30] 2000 [] [] [0, 1] [] [false, true, false] (cutAt b3 8) (E3_8 x0 x1) (L3_8 x0 x1) = some (cutAt b3 13, E3_13 (x0) (x1), L3_13 (x0) (x1), [P8 x1, True, P10 (g9_0 (g8_0 x1) (g8_1 x1)) (g8_1 x1), ((ByteArray.toList (g9_0 (g8_0 x1) (g8_1 x1)) == ByteArray.toList (ByteArray.mk #[])) == g10_1 (g9_0 (g8_0 x1) (g8_1 x1)) (g8_1 x1)) = Bool.false, g10_1 (g9_0 (g8_0 x1) (g8_1 x1)) (g8_1 x1) = Bool.true, (g10_0 (g9_0 (g8_0 x1) (g8_1 x1)) (g8_1 x1) != g8_0 x1) = Bool.false]) := by kernel_rfl
theorem p3_11 (x0 : List Int) (x1 : List Int) : Am.runN tab ext3 false 185 [3, 8, 13, 18, 23, 26, 30] 2000 [] [] [0, 1] [] [false, false, false] (cutAt b3 8) (E3_8 x0 x1) (L3_8 x0 x1) = some (cutAt b3 13, E3_13 (x0) (x1), L3_13 (x0) (x1), [P8 x1, True, P10 (g9_0 (g8_0 x1) (g8_1 x1)) (g8_1 x1), ((ByteArray.toList (g9_0 (g8_0 x1) (g8_1 x1)) == ByteArray.toList (ByteArray.mk #[])) == g10_1 (g9_0 (g8_0 x1) (g8_1 x1)) (g8_1 x1)) = Bool.false, g10_1 (g9_0 (g8_0 x1) (g8_1 x1)) (g8_1 x1) = Bool.false, Bool.false = Bool.false]) := by kernel_rfl
theorem p3_12 (x0 : List Int) (x1 : List Int) : runF tab ext3 false 185 [3, 8, 13, 18, 23, 26, 30] 2000 [] oks3 kds3 tys3 Tryd.f3.results [true, true, true] (cutAt b3 13) (E3_13 x0 x1) (L3_13 x0 x1) = some ([Dyn.mk Ty.bool Bool.false], [], [P11 x0, P12 (g11_0 x0), P13 (g12_0 (g11_0 x0)), P14 (g11_0 x0), (!(ByteArray.toList (g12_0 (g11_0 x0)) == ByteArray.toList (ByteArray.mk #[])) == (ByteArray.toList (g14_0 (g11_0 x0)) == ByteArray.toList (ByteArray.mk #[]))) = Bool.true, Bool.true = Bool.true, Bool.true = Bool.true]) := by kernel_rfl
theorem p3_13 (x0 : List Int) (x1 : List Int) : runF tab ext3 false 185 [3, 8, 13, 18, 23, 26, 30] 2000 [] oks3 kds3 tys3 Tryd.f3.results [false, true, true] (cutAt b3 13) (E3_13 x0 x1) (L3_13 x0 x1) = some ([Dyn.mk Ty.bool Bool.false], [], [P11 x0, P12 (g11_0 x0), P13 (g12_0 (g11_0 x0)), P14 (g11_0 x0), (!(ByteArray.toList (g12_0 (g11_0 x0)) == ByteArray.toList (ByteArray.mk #[])) == (ByteArray.toList (g14_0 (g11_0 x0)) == ByteArray.toList (ByteArray.mk #[]))) = Bool.false, ((ByteArray.toList (g12_0 (g11_0 x0)) == ByteArray.toList (ByteArray.mk #[])) == g13_1 (g12_0 (g11_0 x0))) = Bool.true, Bool.true = Bool.true]) := by kernel_rfl
theorem p3_14 (x0 : List Int) (x1 : List Int) : runF tab ext3 false 185 [3, 8, 13, 18, 23, 26, 30] 2000 [] oks3 kds3 tys3 Tryd.f3.results [false, false, true, true] (cutAt b3 13) (E3_13 x0 x1) (L3_13 x0 x1) = some ([Dyn.mk Ty.bool Bool.false], [], [P11 x0, P12 (g11_0 x0), P13 (g12_0 (g11_0 x0)), P14 (g11_0 x0), (!(ByteArray.toList (g12_0 (g11_0 x0)) == ByteArray.toList (ByteArray.mk #[])) == (ByteArray.toList (g14_0 (g11_0 x0)) == ByteArray.toList (ByteArray.mk #[]))) = Bool.false, ((ByteArray.toList (g12_0 (g11_0 x0)) == ByteArray.toList (ByteArray.mk #[])) == g13_1 (g12_0 (g11_0 x0))) = Bool.false, g13_1 (g12_0 (g11_0 x0)) = Bool.true, (g13_0 (g12_0 (g11_0 x0)) != g11_0 x0) = Bool.true]) := by kernel_rfl
theorem p3_15 (x0 : List Int) (x1 : List Int) : Am.runN tab ext3 false 185 [3, 8, 13, 18, 23, 26, 30] 2000 [] [] [0, 1] [] [false, false, true, false] (cutAt b3 13) (E3_13 x0 x1) (L3_13 x0 x1) = some (cutAt b3 18, E3_18 (x0) (x1), L3_18 (x0) (x1), [P11 x0, P12 (g11_0 x0), P13 (g12_0 (g11_0 x0)), P14 (g11_0 x0), (!(ByteArray.toList (g12_0 (g11_0 x0)) == ByteArray.toList (ByteArray.mk #[])) == (ByteArray.toList (g14_0 (g11_0 x0)) == ByteArray.toList (ByteArray.mk #[]))) = Bool.false, ((ByteArray.toList (g12_0 (g11_0 x0)) == ByteArray.toList (ByteArray.mk #[])) == g13_1 (g12_0 (g11_0 x0))) = Bool.false, g13_1 (g12_0 (g11_0 x0)) = Bool.true, (g13_0 (g12_0 (g11_0 x0)) != g11_0 x0) = Bool.false]) := by kernel_rfl
theorem p3_16 (x0 : List Int) (x1 : List Int) : Am.runN tab ext3 false 185 [3, 8, 13, 18, 23, 26, 30] 2000 [] [] [0, 1] [] [false, false, false, false] (cutAt b3 13) (E3_13 x0 x1) (L3_13 x0 x1) = some (cutAt b3 18, E3_18 (x0) (x1), L3_18 (x0) (x1), [P11 x0, P12 (g11_0 x0), P13 (g12_0 (g11_0 x0)), P14 (g11_0 x0), (!(ByteArray.toList (g12_0 (g11_0 x0)) == ByteArray.toList (ByteArray.mk #[])) == (ByteArray.toList (g14_0 (g11_0 x0)) == ByteArray.toList (ByteArray.mk #[]))) = Bool.false, ((ByteArray.toList (g12_0 (g11_0 x0)) == ByteArray.toList (ByteArray.mk #[])) == g13_1 (g12_0 (g11_0 x0))) = Bool.false, g13_1 (g12_0 (g11_0 x0)) = Bool.false, Bool.false = Bool.false]) := by kernel_rfl
theorem p3_17 (x0 : List Int) (x1 : List Int) : runF tab ext3 false 185 [3, 8, 13, 18, 23, 26, 30] 2000 [] oks3 kds3 tys3 Tryd.f3.results [true, true] (cutAt b3 18) (E3_18 x0 x1) (L3_18 x0 x1) = some ([Dyn.mk Ty.bool Bool.false], [], [P15 x1, P16 (g15_0 x1), P17 (g16_0 (g15_0 x1)), ((ByteArray.toList (g16_0 (g15_0 x1)) == ByteArray.toList (ByteArray.mk #[])) == g17_1 (g16_0 (g15_0 x1))) = Bool.true, Bool.true = Bool.true]) := by kernel_rfl
theorem p3_18 (x0 : List Int) (x1 : List Int) : runF tab ext3 false 185 [3, 8, 13, 18, 23, 26, 30] 2000 [] oks3 kds3 tys3 Tryd.f3.results [false, true, true] (cutAt b3 18) (E3_18 x0 x1) (L3_18 x0 x1) = some ([Dyn.mk Ty.bool Bool.false], [], [P15 x1, P16 (g15_0 x1), P17 (g16_0 (g15_0 x1)), ((ByteArray.toList (g16_0 (g15_0 x1)) == ByteArray.toList (ByteArray.mk #[])) == g17_1 (g16_0 (g15_0 x1))) = Bool.false, g17_1 (g16_0 (g15_0 x1)) = Bool.true, (g17_0 (g16_0 (g15_0 x1)) != g15_0 x1) = Bool.true]) := by kernel_rfl
theorem p3_19 (x0 : List Int) (x1 : List Int) : Am.runN tab ext3 false 185 [3, 8, 13, 18, 23, 26, 30] 2000 [] [] [0, 18] [] [false, true, false] (cutAt b3 18) (E3_18 x0 x1) (L3_18 x0 x1) = some (cutAt b3 23, E3_23 (x0) (x1), L3_23 (x0) (x1), [P15 x1, P16 (g15_0 x1), P17 (g16_0 (g15_0 x1)), ((ByteArray.toList (g16_0 (g15_0 x1)) == ByteArray.toList (ByteArray.mk #[])) == g17_1 (g16_0 (g15_0 x1))) = Bool.false, g17_1 (g16_0 (g15_0 x1)) = Bool.true, (g17_0 (g16_0 (g15_0 x1)) != g15_0 x1) = Bool.false]) := by kernel_rfl
theorem p3_20 (x0 : List Int) (x1 : List Int) : Am.runN tab ext3 false 185 [3, 8, 13, 18, 23, 26, 30] 2000 [] [] [0, 18] [] [false, false, false] (cutAt b3 18) (E3_18 x0 x1) (L3_18 x0 x1) = some (cutAt b3 23, E3_23 (x0) (x1), L3_23 (x0) (x1), [P15 x1, P16 (g15_0 x1), P17 (g16_0 (g15_0 x1)), ((ByteArray.toList (g16_0 (g15_0 x1)) == ByteArray.toList (ByteArray.mk #[])) == g17_1 (g16_0 (g15_0 x1))) = Bool.false, g17_1 (g16_0 (g15_0 x1)) = Bool.false, Bool.false = Bool.false]) := by kernel_rfl
theorem p3_21 (x0 : List Int) (x1 : List Int) : runF tab ext3 false 185 [3, 8, 13, 18, 23, 26, 30] 2000 [] oks3 kds3 tys3 Tryd.f3.results [true, true] (cutAt b3 23) (E3_23 x0 x1) (L3_23 x0 x1) = some ([Dyn.mk Ty.bool Bool.false], [], [P18 (g15_0 x1), (g18_1 (g15_0 x1) == 0) = Bool.true, InR IntKind.i64 (10 * g18_0 (g15_0 x1)), InR IntKind.i64 (36 * g15_0 x1), InR IntKind.i64 (10 * g18_0 (g15_0 x1) - 36 * g15_0 x1), P19 (10 * g18_0 (g15_0 x1) - 36 * g15_0 x1), InR IntKind.i64 (2 * g19_0 (10 * g18_0 (g15_0 x1) - 36 * g15_0 x1)), Decidable.decide (2 * g19_0 (10 * g18_0 (g15_0 x1) - 36 * g15_0 x1) > 10) = Bool.true]) := by kernel_rfl
theorem p3_22 (x0 : List Int) (x1 : List Int) : Am.runN tab ext3 false 185 [3, 8, 13, 18, 23, 26, 30] 2000 [] [] [0] [] [true, false] (cutAt b3 23) (E3_23 x0 x1) (L3_23 x0 x1) = some (cutAt b3 26, E3_26 (x0), L3_26 (x0), [P18 (g15_0 x1), (g18_1 (g15_0 x1) == 0) = Bool.true, InR IntKind.i64 (10 * g18_0 (g15_0 x1)), InR IntKind.i64 (36 * g15_0 x1), InR IntKind.i64 (10 * g18_0 (g15_0 x1) - 36 * g15_0 x1), P19 (10 * g18_0 (g15_0 x1) - 36 * g15_0 x1), InR IntKind.i64 (2 * g19_0 (10 * g18_0 (g15_0 x1) - 36 * g15_0 x1)), Decidable.decide (2 * g19_0 (10 * g18_0 (g15_0 x1) - 36 * g15_0 x1) > 10) = Bool.false]) := by kernel_rfl
theorem p3_23 (x0 : List Int) (x1 : List Int) : Am.runN tab ext3 false 185 [3, 8, 13, 18, 23, 26, 30] 2000 [] [] [0] [] [false, false] (cutAt b3 23) (E3_23 x0 x1) (L3_23 x0 x1) = some (cutAt b3 26, E3_26 (x0), L3_26 (x0), [P18 (g15_0 x1), (g18_1 (g15_0 x1) == 0) = Bool.false, Bool.false = Bool.false]) := by kernel_rfl
theorem p3_24 (x0 : List Int) : runF tab ext3 false 185 [3, 8, 13, 18, 23, 26, 30] 2000 [] oks3 kds3 tys3 Tryd.f3.results [true] (cutAt b3 26) (E3_26 x0) (L3_26 x0) = some ([Dyn.mk Ty.bool (g21_0 (g20_0 x0) (g20_1 x0) == 0)], [], [P20 x0, P21 (g20_0 x0) (g20_1 x0), (g21_1 (g20_0 x0) (g20_1 x0) != 0) = Bool.true]) := by kernel_rfl
theorem p3_25 (x0 : List Int) : Am.runN tab ext3 false 185 [3, 8, 13, 18, 23, 26, 30] 2000 [] [] [24, 25, 26] [] [false] (cutAt b3 26) (E3_26 x0) (L3_26 x0) = some (cutAt b3 30, E3_30 (x0), L3_30 (x0), [P20 x0, P21 (g20_0 x0) (g20_1 x0), (g21_1 (g20_0 x0) (g20_1 x0) != 0) = Bool.false]) := by kernel_rfl
theorem p3_26 (x0 : List Int) : runF tab ext3 false 185 [3, 8, 13, 18, 23, 26, 30] 2000 [] oks3 kds3 tys3 Tryd.f3.results [true, true] (cutAt b3 30) (E3_30 x0) (L3_30 x0) = some ([Dyn.mk Ty.bool Bool.true], [], [InR IntKind.i64 (g21_0 (g20_0 x0) (g20_1 x0) * g20_1 x0), Decidable.decide (g21_0 (g20_0 x0) (g20_1 x0) * g20_1 x0 ≥ g20_0 x0) = Bool.true, (g21_0 (g20_0 x0) (g20_1 x0) == 0) = Bool.true]) := by kernel_rfl
theorem p3_27 (x0 : List Int) : runF tab ext3 false 185 [3, 8, 13, 18, 23, 26, 30] 2000 [] oks3 kds3 tys3 Tryd.f3.results [true, false] (cutAt b3 30) (E3_30 x0) (L3_30 x0) = some ([Dyn.mk Ty.bool (Decidable.decide ((g21_0 (g20_0 x0) (g20_1 x0) - 1) * g20_1 x0 < g20_0 x0))], [], [InR IntKind.i64 (g21_0 (g20_0 x0) (g20_1 x0) * g20_1 x0), Decidable.decide (g21_0 (g20_0 x0) (g20_1 x0) * g20_1 x0 ≥ g20_0 x0) = Bool.true, (g21_0 (g20_0 x0) (g20_1 x0) == 0) = Bool.false, InR IntKind.i64 (g21_0 (g20_0 x0) (g20_1 x0) - 1), InR IntKind.i64 ((g21_0 (g20_0 x0) (g20_1 x0) - 1) * g20_1 x0)]) := by kernel_rfl
theorem p3_28 (x0 : List Int) : runF tab ext3 false 185 [3, 8, 13, 18, 23, 26, 30] 2000 [] oks3 kds3 tys3 Tryd.f3.results [false] (cutAt b3 30) (E3_30 x0) (L3_30 x0) = some ([Dyn.mk Ty.bool Bool.false], [], [InR IntKind.i64 (g21_0 (g20_0 x0) (g20_1 x0) * g20_1 x0), Decidable.decide (g21_0 (g20_0 x0) (g20_1 x0) * g20_1 x0 ≥ g20_0 x0) = Bool.false]) := by kernel_rfl
theorem snd3 : ∀ n, (∀ (x0 : List Int) (x1 : List Int) ds, R3 n x0 x1 ds → ∀ K q, AtV Tryd.prog 3 (PostR kds3 oks3 ds [] [] q K) 185 K q [] [.code b3] (entE 0 0 sig3 (x0, x1, ())) (entL sig3 (x0, x1, ()))) ∧ (∀ (x0 : List Int) (x1 : List Int) ds, R3_3 n x0 x1 ds → ∀ K q, AtV Tryd.prog 3 (PostR kds3 oks3 ds [] [] q K) 185 K q [] (cutAt b3 3) (E3_3 x0 x1) (L3_3 x0 x1)) ∧ (∀ (x0 : List Int) (x1 : List Int) ds, R3_8 n x0 x1 ds → ∀ K q, AtV Tryd.prog 3 (PostR kds3 oks3 ds [] [] q K) 185 K q [] (cutAt b3 8) (E3_8 x0 x1) (L3_8 x0 x1)) ∧ (∀ (x0 : List Int) (x1 : List Int) ds, R3_13 n x0 x1 ds → ∀ K q, AtV Tryd.prog 3 (PostR kds3 oks3 ds [] [] q K) 185 K q [] (cutAt b3 13) (E3_13 x0 x1) (L3_13 x0 x1)) ∧ (∀ (x0 : List Int) (x1 : List Int) ds, R3_18 n x0 x1 ds → ∀ K q, AtV Tryd.prog 3 (PostR kds3 oks3 ds [] [] q K) 185 K q [] (cutAt b3 18) (E3_18 x0 x1) (L3_18 x0 x1)) ∧ (∀ (x0 : List Int) (x1 : List Int) ds, R3_23 n x0 x1 ds → ∀ K q, AtV Tryd.prog 3 (PostR kds3 oks3 ds [] [] q K) 185 K q [] (cutAt b3 23) (E3_23 x0 x1) (L3_23 x0 x1)) ∧ (∀ (x0 : List Int) ds, R3_26 n x0 ds → ∀ K q, AtV Tryd.prog 3 (PostR kds3 oks3 ds [] [] q K) 185 K q [] (cutAt b3 26) (E3_26 x0) (L3_26 x0)) ∧ (∀ (x0 : List Int) ds, R3_30 n x0 ds → ∀ K q, AtV Tryd.prog 3 (PostR kds3 oks3 ds [] [] q K) 185 K q [] (cutAt b3 30) (E3_30 x0) (L3_30 x0)) := by
  intro n
  induction n with
  | zero => exact ⟨fun _ _ _ h => by simp only [R3] at h, fun _ _ _ h => by simp only [R3_3] at h, fun _ _ _ h => by simp only [R3_8] at h, fun _ _ _ h => by simp only [R3_13] at h, fun _ _ _ h => by simp only [R3_18] at h, fun _ _ _ h => by simp only [R3_23] at h, fun _ _ h => by simp only [R3_26] at h, fun _ _ h => by simp only [R3_30] at h⟩
  | succ n ih =>
  obtain ⟨ih, ih3, ih8, ih13, ih18, ih23, ih26, ih30⟩ := ih
  refine ⟨?_, ?_, ?_, ?_, ?_, ?_, ?_, ?_⟩
  · intro x0 x1 ds h K q
    rw [R3] at h
    by_cases b0 : (g4_0 x0) = true
    · rw [if_pos b0] at h
      subst h
      exact AtV.fin Tryd.func3 tabOk ext3Ok mixed (p3_0 x0 x1) ⟨trivial, b0, rfl, trivial⟩
    · rw [if_neg b0] at h
      replace b0 := Bool.eq_false_iff.2 b0
      by_cases b1 : (g4_0 x1) = true
      · rw [if_pos b1] at h
        subst h
        exact AtV.fin Tryd.func3 tabOk ext3Ok mixed (p3_1 x0 x1) ⟨trivial, b0, trivial, b1, trivial⟩
      · rw [if_neg b1] at h
        replace b1 := Bool.eq_false_iff.2 b1
        exact AtV.runN tabOk ext3Ok mixed (p3_2 x0 x1) ⟨trivial, b0, trivial, b1, trivial⟩ (ih3 _ _ _ h K q)

  · intro x0 x1 ds h K q
    rw [R3_3] at h
    obtain ⟨s0, h⟩ := h
    obtain ⟨s1, h⟩ := h
    obtain ⟨s2, h⟩ := h
    by_cases b0 : ((ByteArray.toList (g6_0 (g5_0 x0)) == ByteArray.toList (ByteArray.mk #[])) == g7_1 (g6_0 (g5_0 x0))) = true
    · rw [if_pos b0] at h
      subst h
      exact AtV.fin Tryd.func3 tabOk ext3Ok mixed (p3_3 x0 x1) ⟨s0, s1, s2, b0, rfl, trivial⟩
    · rw [if_neg b0] at h
      replace b0 := Bool.eq_false_iff.2 b0
      by_cases b1 : (g7_1 (g6_0 (g5_0 x0))) = true
      · rw [if_pos b1] at h
        by_cases b2 : (g7_0 (g6_0 (g5_0 x0)) != g5_0 x0) = true
        · rw [if_pos b2] at h
          subst h
          exact AtV.fin Tryd.func3 tabOk ext3Ok mixed (p3_4 x0 x1) ⟨s0, s1, s2, b0, b1, b2, rfl, trivial⟩
        · rw [if_neg b2] at h
          replace b2 := Bool.eq_false_iff.2 b2
          by_cases b3 : ((↑(ByteArray.size (g6_0 (g5_0 x0))) : Int) != 5) = true
          · rw [if_pos b3] at h
            subst h
            exact AtV.fin Tryd.func3 tabOk ext3Ok mixed (p3_5 x0 x1) ⟨s0, s1, s2, b0, b1, b2, b3, trivial⟩
          · rw [if_neg b3] at h
            replace b3 := Bool.eq_false_iff.2 b3
            exact AtV.runN tabOk ext3Ok mixed (p3_6 x0 x1) ⟨s0, s1, s2, b0, b1, b2, b3, trivial⟩ (ih8 _ _ _ h K q)
      · rw [if_neg b1] at h
        replace b1 := Bool.eq_false_iff.2 b1
        exact AtV.runN tabOk ext3Ok mixed (p3_7 x0 x1) ⟨s0, s1, s2, b0, b1, rfl, trivial⟩ (ih8 _ _ _ h K q)

  · intro x0 x1 ds h K q
    rw [R3_8] at h
    obtain ⟨s0, h⟩ := h
    obtain ⟨s1, h⟩ := h
    by_cases b0 : ((ByteArray.toList (g9_0 (g8_0 x1) (g8_1 x1)) == ByteArray.toList (ByteArray.mk #[])) == g10_1 (g9_0 (g8_0 x1) (g8_1 x1)) (g8_1 x1)) = true
    · rw [if_pos b0] at h
      subst h
      exact AtV.fin Tryd.func3 tabOk ext3Ok mixed (p3_8 x0 x1) ⟨s0, trivial, s1, b0, rfl, trivial⟩
    · rw [if_neg b0] at h
      replace b0 := Bool.eq_false_iff.2 b0
      by_cases b1 : (g10_1 (g9_0 (g8_0 x1) (g8_1 x1)) (g8_1 x1)) = true
      · rw [if_pos b1] at h
        by_cases b2 : (g10_0 (g9_0 (g8_0 x1) (g8_1 x1)) (g8_1 x1) != g8_0 x1) = true
        · rw [if_pos b2] at h
          subst h
          exact AtV.fin Tryd.func3 tabOk ext3Ok mixed (p3_9 x0 x1) ⟨s0, trivial, s1, b0, b1, b2, trivial⟩
        · rw [if_neg b2] at h
          replace b2 := Bool.eq_false_iff.2 b2
          exact AtV.runN tabOk ext3Ok mixed (p3_10 x0 x1) ⟨s0, trivial, s1, b0, b1, b2, trivial⟩ (ih13 _ _ _ h K q)
      · rw [if_neg b1] at h
        replace b1 := Bool.eq_false_iff.2 b1
        exact AtV.runN tabOk ext3Ok mixed (p3_11 x0 x1) ⟨s0, trivial, s1, b0, b1, rfl, trivial⟩ (ih13 _ _ _ h K q)

  · intro x0 x1 ds h K q
    rw [R3_13] at h
    obtain ⟨s0, h⟩ := h
    obtain ⟨s1, h⟩ := h
    obtain ⟨s2, h⟩ := h
    obtain ⟨s3, h⟩ := h
    by_cases b0 : (!(ByteArray.toList (g12_0 (g11_0 x0)) == ByteArray.toList (ByteArray.mk #[])) == (ByteArray.toList (g14_0 (g11_0 x0)) == ByteArray.toList (ByteArray.mk #[]))) = true
    · rw [if_pos b0] at h
      subst h
      exact AtV.fin Tryd.func3 tabOk ext3Ok mixed (p3_12 x0 x1) ⟨s0, s1, s2, s3, b0, rfl, rfl, trivial⟩
    · rw [if_neg b0] at h
      replace b0 := Bool.eq_false_iff.2 b0
      by_cases b1 : ((ByteArray.toList (g12_0 (g11_0 x0)) == ByteArray.toList (ByteArray.mk #[])) == g13_1 (g12_0 (g11_0 x0))) = true
      · rw [if_pos b1] at h
        subst h
        exact AtV.fin Tryd.func3 tabOk ext3Ok mixed (p3_13 x0 x1) ⟨s0, s1, s2, s3, b0, b1, rfl, trivial⟩
      · rw [if_neg b1] at h
        replace b1 := Bool.eq_false_iff.2 b1
        by_cases b2 : (g13_1 (g12_0 (g11_0 x0))) = true
        · rw [if_pos b2] at h
          by_cases b3 : (g13_0 (g12_0 (g11_0 x0)) != g11_0 x0) = true
          · rw [if_pos b3] at h
            subst h
            exact AtV.fin Tryd.func3 tabOk ext3Ok mixed (p3_14 x0 x1) ⟨s0, s1, s2, s3, b0, b1, b2, b3, trivial⟩
          · rw [if_neg b3] at h
            replace b3 := Bool.eq_false_iff.2 b3
            exact AtV.runN tabOk ext3Ok mixed (p3_15 x0 x1) ⟨s0, s1, s2, s3, b0, b1, b2, b3, trivial⟩ (ih18 _ _ _ h K q)
        · rw [if_neg b2] at h
          replace b2 := Bool.eq_false_iff.2 b2
          exact AtV.runN tabOk ext3Ok mixed (p3_16 x0 x1) ⟨s0, s1, s2, s3, b0, b1, b2, rfl, trivial⟩ (ih18 _ _ _ h K q)

  · intro x0 x1 ds h K q
    rw [R3_18] at h
    obtain ⟨s0, h⟩ := h
    obtain ⟨s1, h⟩ := h
    obtain ⟨s2, h⟩ := h
    by_cases b0 : ((ByteArray.toList (g16_0 (g15_0 x1)) == ByteArray.toList (ByteArray.mk #[])) == g17_1 (g16_0 (g15_0 x1))) = true
    · rw [if_pos b0] at h
      subst h
      exact AtV.fin Tryd.func3 tabOk ext3Ok mixed (p3_17 x0 x1) ⟨s0, s1, s2, b0, rfl, trivial⟩
    · rw [if_neg b0] at h
      replace b0 := Bool.eq_false_iff.2 b0
      by_cases b1 : (g17_1 (g16_0 (g15_0 x1))) = true
      · rw [if_pos b1] at h
        by_cases b2 : (g17_0 (g16_0 (g15_0 x1)) != g15_0 x1) = true
        · rw [if_pos b2] at h
          subst h
          exact AtV.fin Tryd.func3 tabOk ext3Ok mixed (p3_18 x0 x1) ⟨s0, s1, s2, b0, b1, b2, trivial⟩
        · rw [if_neg b2] at h
          replace b2 := Bool.eq_false_iff.2 b2
          exact AtV.runN tabOk ext3Ok mixed (p3_19 x0 x1) ⟨s0, s1, s2, b0, b1, b2, trivial⟩ (ih23 _ _ _ h K q)
      · rw [if_neg b1] at h
        replace b1 := Bool.eq_false_iff.2 b1
        exact AtV.runN tabOk ext3Ok mixed (p3_20 x0 x1) ⟨s0, s1, s2, b0, b1, rfl, trivial⟩ (ih23 _ _ _ h K q)

  · intro x0 x1 ds h K q
    rw [R3_23] at h
    obtain ⟨s0, h⟩ := h
    by_cases b0 : (g18_1 (g15_0 x1) == 0) = true
    · rw [if_pos b0] at h
      obtain ⟨s1, h⟩ := h
      obtain ⟨s2, h⟩ := h
      obtain ⟨s3, h⟩ := h
      obtain ⟨s4, h⟩ := h
      obtain ⟨s5, h⟩ := h
      by_cases b1 : (Decidable.decide (2 * g19_0 (10 * g18_0 (g15_0 x1) - 36 * g15_0 x1) > 10)) = true
      · rw [if_pos b1] at h
        subst h
        exact AtV.fin Tryd.func3 tabOk ext3Ok mixed (p3_21 x0 x1) ⟨s0, b0, s1, s2, s3, s4, s5, b1, trivial⟩
      · rw [if_neg b1] at h
        replace b1 := Bool.eq_false_iff.2 b1
        exact AtV.runN tabOk ext3Ok mixed (p3_22 x0 x1) ⟨s0, b0, s1, s2, s3, s4, s5, b1, trivial⟩ (ih26 _ _ h K q)
    · rw [if_neg b0] at h
      replace b0 := Bool.eq_false_iff.2 b0
      exact AtV.runN tabOk ext3Ok mixed (p3_23 x0 x1) ⟨s0, b0, rfl, trivial⟩ (ih26 _ _ h K q)

  · intro x0 ds h K q
    rw [R3_26] at h
    obtain ⟨s0, h⟩ := h
    obtain ⟨s1, h⟩ := h
    by_cases b0 : (g21_1 (g20_0 x0) (g20_1 x0) != 0) = true
    · rw [if_pos b0] at h
      subst h
      exact AtV.fin Tryd.func3 tabOk ext3Ok mixed (p3_24 x0) ⟨s0, s1, b0, trivial⟩
    · rw [if_neg b0] at h
      replace b0 := Bool.eq_false_iff.2 b0
      exact AtV.runN tabOk ext3Ok mixed (p3_25 x0) ⟨s0, s1, b0, trivial⟩ (ih30 _ _ h K q)

  · intro x0 ds h K q
    rw [R3_30] at h
    obtain ⟨s0, h⟩ := h
    by_cases b0 : (Decidable.decide (g21_0 (g20_0 x0) (g20_1 x0) * g20_1 x0 ≥ g20_0 x0)) = true
    · rw [if_pos b0] at h
      by_cases b1 : (g21_0 (g20_0 x0) (g20_1 x0) == 0) = true
      · rw [if_pos b1] at h
        subst h
        exact AtV.fin Tryd.func3 tabOk ext3Ok mixed (p3_26 x0) ⟨s0, b0, b1, trivial⟩
      · rw [if_neg b1] at h
        replace b1 := Bool.eq_false_iff.2 b1
        obtain ⟨s1, h⟩ := h
        obtain ⟨s2, h⟩ := h
        subst h
        exact AtV.fin Tryd.func3 tabOk ext3Ok mixed (p3_27 x0) ⟨s0, b0, b1, s1, s2, trivial⟩
    · rw [if_neg b0] at h
      replace b0 := Bool.eq_false_iff.2 b0
      subst h
      exact AtV.fin Tryd.func3 tabOk ext3Ok mixed (p3_28 x0) ⟨s0, b0, trivial⟩



def g3_0 (x0 x1 : List Int) : Bool := true
def P3 (x0 x1 : List Int) : Prop := True

theorem xor_of3 {a b : Bool} (h : a = !b) : (a == b) = false := by subst h; cases b <;> rfl

theorem s303 (n : Nat) (x0 : List Int) (h : 0 ≤ g21_0 (g20_0 x0) (g20_1 x0) ∧ g21_0 (g20_0 x0) (g20_1 x0) ≤ 2000000000 ∧ g20_0 x0 ≤ g21_0 (g20_0 x0) (g20_1 x0) * g20_1 x0 ∧ g21_0 (g20_0 x0) (g20_1 x0) * g20_1 x0 ≤ 2000000000 ∧
    0 ≤ g21_0 (g20_0 x0) (g20_1 x0) * g20_1 x0 ∧ (g21_0 (g20_0 x0) (g20_1 x0) - 1) * g20_1 x0 < g20_0 x0 ∧ -1000000000 ≤ (g21_0 (g20_0 x0) (g20_1 x0) - 1) * g20_1 x0) (hw : g20_0 x0 ≤ 1000000001) : R3_30 (n + 1) x0 [⟨.bool, true⟩] := by
  obtain ⟨h1, h2, h3, h4, h5, h6, h7⟩ := h
  rw [R3_30]
  refine ⟨by rw [i64_iff]; omega, ?_⟩
  rw [if_pos (by simpa using h3)]
  by_cases hz : g21_0 (g20_0 x0) (g20_1 x0) = 0
  · rw [if_pos (by simp [hz])]
  · rw [if_neg (by simp [hz])]
    refine ⟨by rw [i64_iff]; omega, by rw [i64_iff]; omega, ?_⟩
    rw [decide_eq_true h6]

theorem s263 (n : Nat) (x0 : List Int) (hw : Wf (.sl (.int .u8)) x0) : R3_26 (n + 2) x0 [⟨.bool, true⟩] := by
  obtain ⟨p, a1, a2, a3, a4⟩ := draw_seconds hw
  obtain ⟨q, h⟩ := law_seconds (g20_0 x0) (g20_1 x0)
  rw [R3_26]
  refine ⟨p, q, ?_⟩
  rcases h with ⟨h1, h2⟩ | ⟨h1, h2⟩
  · rw [if_pos (by simpa using h1), h2]
    rfl
  · rw [if_neg (by simp [h1])]
    exact s303 n x0 h2 a2

theorem s233 (n : Nat) (x0 x1 : List Int) (h0 : Wf (.sl (.int .u8)) x0) (h1 : Wf (.sl (.int .u8)) x1) : R3_23 (n + 3) x0 x1 [⟨.bool, true⟩] := by
  obtain ⟨_, a1, a2⟩ := draw_speed h1
  obtain ⟨p, b1, b2, b3⟩ := law_hour (g15_0 x1) ⟨a1, a2⟩
  rw [R3_23]
  refine ⟨p, ?_⟩
  by_cases hc : g18_1 (g15_0 x1) = 0
  · rw [if_pos (by simp [hc])]
    obtain ⟨c1, c2⟩ := b3 hc
    have habs : 0 ≤ g19_0 (10 * g18_0 (g15_0 x1) - 36 * g15_0 x1) ∧ g19_0 (10 * g18_0 (g15_0 x1) - 36 * g15_0 x1) ≤ 5 := by
      unfold g19_0
      simp only [decide_eq_true_eq]
      split <;> omega
    refine ⟨by rw [i64_iff]; omega, by rw [i64_iff]; omega, by rw [i64_iff]; omega, ?_, by rw [i64_iff]; omega, ?_⟩
    · unfold P19
      simp only [decide_eq_true_eq]
      split
      · exact ⟨by rw [i64_iff]; omega, trivial⟩
      · trivial
    · rw [if_neg (by simp only [decide_eq_true_eq]; omega)]
      exact s263 n x0 h0
  · rw [if_neg (by simp [hc])]
    exact s263 n x0 h0

theorem s183 (n : Nat) (x0 x1 : List Int) (h0 : Wf (.sl (.int .u8)) x0) (h1 : Wf (.sl (.int .u8)) x1) : R3_18 (n + 4) x0 x1 [⟨.bool, true⟩] := by
  obtain ⟨p, a1, a2⟩ := draw_speed h1
  obtain ⟨q1, q2, e1, e2⟩ := law_speed (g15_0 x1)
  rw [R3_18]
  refine ⟨p, q1, q2, ?_⟩
  rw [tl_empty, if_neg (by rw [xor_of3 e1]; simp)]
  by_cases hc : g17_1 (g16_0 (g15_0 x1)) = true
  · rw [if_pos hc, if_neg (by rw [e2 hc]; simp)]
    exact s233 n x0 x1 h0 h1
  · rw [if_neg hc]
    exact s233 n x0 x1 h0 h1

theorem s133 (n : Nat) (x0 x1 : List Int) (h0 : Wf (.sl (.int .u8)) x0) (h1 : Wf (.sl (.int .u8)) x1) : R3_13 (n + 5) x0 x1 [⟨.bool, true⟩] := by
  obtain ⟨p, a1, a2⟩ := draw_lap h0
  obtain ⟨q1, q2, e1, e2, e3⟩ := law_lap (g11_0 x0)
  obtain ⟨q3, e4⟩ := law_lapS (g11_0 x0)
  rw [R3_13]
  refine ⟨p, q1, q2, q3, ?_⟩
  rw [tl_empty, tl_empty, if_neg (by rw [e3, e4]; cases decide (0 ≤ g11_0 x0 ∧ g11_0 x0 ≤ 1000000000) <;> decide), if_neg (by rw [xor_of3 e1]; simp)]
  by_cases hc : g13_1 (g12_0 (g11_0 x0)) = true
  · rw [if_pos hc, if_neg (by rw [e2 hc]; simp)]
    exact s183 n x0 x1 h0 h1
  · rw [if_neg hc]
    exact s183 n x0 x1 h0 h1

theorem s83 (n : Nat) (x0 x1 : List Int) (h0 : Wf (.sl (.int .u8)) x0) (h1 : Wf (.sl (.int .u8)) x1) : R3_8 (n + 6) x0 x1 [⟨.bool, true⟩] := by
  obtain ⟨p, _⟩ := draw_fixed h1
  obtain ⟨q, e1, e2⟩ := law_fixed (g8_0 x1) (g8_1 x1)
  rw [R3_8]
  refine ⟨p, q, ?_⟩
  rw [tl_empty, if_neg (by rw [xor_of3 e1]; simp)]
  by_cases hc : g10_1 (g9_0 (g8_0 x1) (g8_1 x1)) (g8_1 x1) = true
  · rw [if_pos hc, if_neg (by rw [e2 hc]; simp)]
    exact s133 n x0 x1 h0 h1
  · rw [if_neg hc]
    exact s133 n x0 x1 h0 h1

theorem top3 (x0 x1 : List Int) (h0 : Wf (.sl (.int .u8)) x0) (h1 : Wf (.sl (.int .u8)) x1) : R3 8 x0 x1 [⟨.bool, g3_0 x0 x1⟩] := by
  unfold g3_0
  rw [R3]
  split
  · rfl
  split
  · rfl
  obtain ⟨p, _⟩ := draw_clock h0
  obtain ⟨q1, q2, e1, e2⟩ := law_clock (g5_0 x0)
  rw [R3_3]
  refine ⟨p, q1, q2, ?_⟩
  rw [tl_empty, if_neg (by rw [xor_of3 e1]; simp)]
  by_cases hc : g7_1 (g6_0 (g5_0 x0)) = true
  · obtain ⟨a, b⟩ := e2 hc
    rw [if_pos hc, if_neg (by rw [a]; simp), if_neg (by rw [b]; simp)]
    exact s83 0 x0 x1 h0 h1
  · rw [if_neg hc]
    exact s83 0 x0 x1 h0 h1

def S3 : Am.Spec := { sig := sig3, pre := fun ⟨x0, x1, _⟩ => P3 x0 x1, res := fun ⟨x0, x1, _⟩ => [⟨Ty.bool, g3_0 x0 x1⟩] }
theorem con3 : Contract Tryd.prog 3 S3 := contract_of Tryd.func3 hb3 (Nat.le_of_ble_eq_true (by kernel_rfl)) (fun ⟨x0, x1, _⟩ h hwf K q =>
  (snd3 8).1 x0 x1 _ (top3 x0 x1 hwf.1 hwf.2.1) K q)

end Go.Proofs.YtomcblkbgnielaaDoor

/- The plain law of FnUnits. -/
set_option linter.unusedVariables false
set_option linter.unusedSimpArgs false
set_option maxRecDepth 100000
namespace Go.Proofs.YtomcblkbgnielaaDoor
open Go Go.Am Go.Proofs

theorem law3 (x0 x1 : List Int) (h0 : Wf (.sl (.int .u8)) x0) (h1 : Wf (.sl (.int .u8)) x1) : P3 x0 x1 ∧ g3_0 x0 x1 = true := ⟨trivial, rfl⟩

end Go.Proofs.YtomcblkbgnielaaDoor
