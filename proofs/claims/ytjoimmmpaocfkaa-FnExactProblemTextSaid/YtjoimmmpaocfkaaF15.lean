/- Function 15: its runs between cut points. Written by a program of this repo (gen). -/
import Derived.Test.YtjoimmmpaocfkaaT
import Derived.Test.YtjoimmmpaocfkaaF38
import Derived.Test.YtjoimmmpaocfkaaF11
set_option linter.unusedVariables false
set_option linter.unusedSimpArgs false
set_option maxRecDepth 100000
namespace Go.Proofs.Ytjoimmmpaocfkaa
open Go Go.Am Go.Proofs
def ext15 : Ext := [(38, S38), (11, S11)]
theorem call15_38 : Callable Try.prog 38 := ⟨Try.f38, Try.func38, by kernel_rfl, by kernel_rfl⟩
theorem call15_11 : Callable Try.prog 11 := ⟨Try.f11, Try.func11, by kernel_rfl, by kernel_rfl⟩
theorem ext15Ok : ExtOk Try.prog ext15 := ⟨⟨call15_38, con38⟩, ⟨call15_11, con11⟩, trivial⟩
/-! Function 15. -/
noncomputable def b15 : Code := bodyOf Try.f15
theorem hb15 : Try.f15.body = some b15 := by kernel_rfl
def sig15 : List AT := [AT.v (.cons (.int .i64) (.cons .str (.cons .str .unit)))]
def tys15 : List Ty := [.str]
def P15 (x0 : Int × ByteArray × ByteArray × Unit) : Prop := (if (!g38_0 (Prod.fst x0)) = true then True else ((P11 (Prod.fst x0)) ∧ ((ByteArray.size (g11_0 (Prod.fst x0)) + 1 ≤ 9223372036854775807) ∧ ((ByteArray.size (g11_0 (Prod.fst x0) ++ ByteArray.mk #[32]) + ByteArray.size (Prod.fst (Prod.snd x0)) ≤ 9223372036854775807) ∧ ((ByteArray.size (g11_0 (Prod.fst x0) ++ ByteArray.mk #[32] ++ Prod.fst (Prod.snd x0)) + 1 ≤ 9223372036854775807) ∧ ((ByteArray.size (g11_0 (Prod.fst x0) ++ ByteArray.mk #[32] ++ Prod.fst (Prod.snd x0) ++ ByteArray.mk #[32]) + ByteArray.size (Prod.fst (Prod.snd (Prod.snd x0))) ≤ 9223372036854775807) ∧ True))))))
def g15_0 (x0 : Int × ByteArray × ByteArray × Unit) : ByteArray := (if (!g38_0 (Prod.fst x0)) = true then ByteArray.mk #[] else g11_0 (Prod.fst x0) ++ ByteArray.mk #[32] ++ Prod.fst (Prod.snd x0) ++ ByteArray.mk #[32] ++ Prod.fst (Prod.snd (Prod.snd x0)))
theorem p15_0 (x0 : Int × ByteArray × ByteArray × Unit) : runF tab ext15 false 18 [] 2000 [] tys15 Try.f15.results [true] [.code b15] (entE 0 0 sig15 (x0, ())) (entL sig15 (x0, ())) = some ([Dyn.mk Ty.str (ByteArray.mk #[])], [], [True, (!g38_0 (Prod.fst x0)) = Bool.true]) := by kernel_rfl
theorem p15_1 (x0 : Int × ByteArray × ByteArray × Unit) : runF tab ext15 false 18 [] 2000 [] tys15 Try.f15.results [false] [.code b15] (entE 0 0 sig15 (x0, ())) (entL sig15 (x0, ())) = some ([Dyn.mk Ty.str (g11_0 (Prod.fst x0) ++ ByteArray.mk #[32] ++ Prod.fst (Prod.snd x0) ++ ByteArray.mk #[32] ++ Prod.fst (Prod.snd (Prod.snd x0)))], [], [True, (!g38_0 (Prod.fst x0)) = Bool.false, P11 (Prod.fst x0), ByteArray.size (g11_0 (Prod.fst x0)) + 1 ≤ 9223372036854775807, ByteArray.size (g11_0 (Prod.fst x0) ++ ByteArray.mk #[32]) + ByteArray.size (Prod.fst (Prod.snd x0)) ≤ 9223372036854775807, ByteArray.size (g11_0 (Prod.fst x0) ++ ByteArray.mk #[32] ++ Prod.fst (Prod.snd x0)) + 1 ≤ 9223372036854775807, ByteArray.size (g11_0 (Prod.fst x0) ++ ByteArray.mk #[32] ++ Prod.fst (Prod.snd x0) ++ ByteArray.mk #[32]) + ByteArray.size (Prod.fst (Prod.snd (Prod.snd x0))) ≤ 9223372036854775807]) := by kernel_rfl
theorem at15 (x0 : Int × ByteArray × ByteArray × Unit) (h : P15 x0) (w0 : World) (O : List Nat) (q : Nat → Value) : AtV Try.prog 15 (PostR [⟨Ty.str, g15_0 x0⟩] [] [] q w0 O) 18 w0 O q [] [.code b15] (entE 0 0 sig15 (x0, ())) (entL sig15 (x0, ())) := by
  unfold P15 at h
  unfold g15_0
  by_cases b0 : (!g38_0 (Prod.fst x0)) = true
  · try simp only [if_pos b0] at h ⊢
    exact AtV.fin Try.func15 tabOk ext15Ok mixed (p15_0 x0) ⟨trivial, b0, trivial⟩
  · try simp only [if_neg b0] at h ⊢
    replace b0 := Bool.eq_false_iff.2 b0
    obtain ⟨s0, h⟩ := h
    obtain ⟨s1, h⟩ := h
    obtain ⟨s2, h⟩ := h
    obtain ⟨s3, h⟩ := h
    obtain ⟨s4, h⟩ := h
    exact AtV.fin Try.func15 tabOk ext15Ok mixed (p15_1 x0) ⟨trivial, b0, s0, s1, s2, s3, s4, trivial⟩

def S15 : Am.Spec := { sig := sig15, pre := fun ⟨x0, _⟩ => P15 x0, res := fun ⟨x0, _⟩ => [⟨Ty.str, g15_0 x0⟩] }
theorem con15 : Contract Try.prog 15 S15 := contract_of Try.func15 hb15 (Nat.le_of_ble_eq_true (by kernel_rfl)) (fun ⟨x0, _⟩ h _ w0 O q => at15 x0 h w0 O q)


end Go.Proofs.Ytjoimmmpaocfkaa
