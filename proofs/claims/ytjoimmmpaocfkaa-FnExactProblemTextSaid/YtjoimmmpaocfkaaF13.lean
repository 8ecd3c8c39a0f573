/- Function 13: its runs between cut points. Written by a program of this repo (gen). -/
import Derived.Test.YtjoimmmpaocfkaaT
import Derived.Test.YtjoimmmpaocfkaaF36
import Derived.Test.YtjoimmmpaocfkaaF37
set_option linter.unusedVariables false
set_option linter.unusedSimpArgs false
set_option maxRecDepth 100000
namespace Go.Proofs.Ytjoimmmpaocfkaa
open Go Go.Am Go.Proofs
def ext13 : Ext := [(36, S36), (37, S37)]
theorem call13_36 : Callable Try.prog 36 := ⟨Try.f36, Try.func36, by kernel_rfl, by kernel_rfl⟩
theorem call13_37 : Callable Try.prog 37 := ⟨Try.f37, Try.func37, by kernel_rfl, by kernel_rfl⟩
theorem ext13Ok : ExtOk Try.prog ext13 := ⟨⟨call13_36, con36⟩, ⟨call13_37, con37⟩, trivial⟩
/-! Function 13. -/
noncomputable def b13 : Code := bodyOf Try.f13
theorem hb13 : Try.f13.body = some b13 := by kernel_rfl
def sig13 : List AT := [AT.v (.cons (.int .i64) (.cons .str (.cons .str .unit)))]
def tys13 : List Ty := [.str]
def P13 (x0 : Int × ByteArray × ByteArray × Unit) : Prop := (if (!g36_0 (Prod.fst x0)) = true then True else ((0 ≤ Prod.fst x0) ∧ (Prod.fst x0 < 7) ∧ ((ByteArray.size (List.getD g37_0 (Int.toNat (Prod.fst x0)) ByteArray.empty) + 1 ≤ 9223372036854775807) ∧ ((ByteArray.size (List.getD g37_0 (Int.toNat (Prod.fst x0)) ByteArray.empty ++ ByteArray.mk #[32]) + ByteArray.size (Prod.fst (Prod.snd x0)) ≤ 9223372036854775807) ∧ ((ByteArray.size (List.getD g37_0 (Int.toNat (Prod.fst x0)) ByteArray.empty ++ ByteArray.mk #[32] ++ Prod.fst (Prod.snd x0)) + 1 ≤ 9223372036854775807) ∧ ((ByteArray.size (List.getD g37_0 (Int.toNat (Prod.fst x0)) ByteArray.empty ++ ByteArray.mk #[32] ++ Prod.fst (Prod.snd x0) ++ ByteArray.mk #[32]) + ByteArray.size (Prod.fst (Prod.snd (Prod.snd x0))) ≤ 9223372036854775807) ∧ True))))))
def g13_0 (x0 : Int × ByteArray × ByteArray × Unit) : ByteArray := (if (!g36_0 (Prod.fst x0)) = true then ByteArray.mk #[] else List.getD g37_0 (Int.toNat (Prod.fst x0)) ByteArray.empty ++ ByteArray.mk #[32] ++ Prod.fst (Prod.snd x0) ++ ByteArray.mk #[32] ++ Prod.fst (Prod.snd (Prod.snd x0)))
theorem p13_0 (x0 : Int × ByteArray × ByteArray × Unit) : runF tab ext13 false 20 [] 2000 [] tys13 Try.f13.results [true] [.code b13] (entE 0 0 sig13 (x0, ())) (entL sig13 (x0, ())) = some ([Dyn.mk Ty.str (ByteArray.mk #[])], [], [True, (!g36_0 (Prod.fst x0)) = Bool.true]) := by kernel_rfl
theorem p13_1 (x0 : Int × ByteArray × ByteArray × Unit) : runF tab ext13 false 20 [] 2000 [] tys13 Try.f13.results [false] [.code b13] (entE 0 0 sig13 (x0, ())) (entL sig13 (x0, ())) = some ([Dyn.mk Ty.str (List.getD g37_0 (Int.toNat (Prod.fst x0)) ByteArray.empty ++ ByteArray.mk #[32] ++ Prod.fst (Prod.snd x0) ++ ByteArray.mk #[32] ++ Prod.fst (Prod.snd (Prod.snd x0)))], [], [True, (!g36_0 (Prod.fst x0)) = Bool.false, True, 0 ≤ Prod.fst x0, Prod.fst x0 < 7, ByteArray.size (List.getD g37_0 (Int.toNat (Prod.fst x0)) ByteArray.empty) + 1 ≤ 9223372036854775807, ByteArray.size (List.getD g37_0 (Int.toNat (Prod.fst x0)) ByteArray.empty ++ ByteArray.mk #[32]) + ByteArray.size (Prod.fst (Prod.snd x0)) ≤ 9223372036854775807, ByteArray.size (List.getD g37_0 (Int.toNat (Prod.fst x0)) ByteArray.empty ++ ByteArray.mk #[32] ++ Prod.fst (Prod.snd x0)) + 1 ≤ 9223372036854775807, ByteArray.size (List.getD g37_0 (Int.toNat (Prod.fst x0)) ByteArray.empty ++ ByteArray.mk #[32] ++ Prod.fst (Prod.snd x0) ++ ByteArray.mk #[32]) + ByteArray.size (Prod.fst (Prod.snd (Prod.snd x0))) ≤ 9223372036854775807]) := by kernel_rfl
theorem at13 (x0 : Int × ByteArray × ByteArray × Unit) (h : P13 x0) (w0 : World) (O : List Nat) (q : Nat → Value) : AtV Try.prog 13 (PostR [⟨Ty.str, g13_0 x0⟩] [] [] q w0 O) 20 w0 O q [] [.code b13] (entE 0 0 sig13 (x0, ())) (entL sig13 (x0, ())) := by
  unfold P13 at h
  unfold g13_0
  by_cases b0 : (!g36_0 (Prod.fst x0)) = true
  · try simp only [if_pos b0] at h ⊢
    exact AtV.fin Try.func13 tabOk ext13Ok mixed (p13_0 x0) ⟨trivial, b0, trivial⟩
  · try simp only [if_neg b0] at h ⊢
    replace b0 := Bool.eq_false_iff.2 b0
    obtain ⟨s0, s1, h⟩ := h
    obtain ⟨s2, h⟩ := h
    obtain ⟨s3, h⟩ := h
    obtain ⟨s4, h⟩ := h
    obtain ⟨s5, h⟩ := h
    exact AtV.fin Try.func13 tabOk ext13Ok mixed (p13_1 x0) ⟨trivial, b0, trivial, s0, s1, s2, s3, s4, s5, trivial⟩

def S13 : Am.Spec := { sig := sig13, pre := fun ⟨x0, _⟩ => P13 x0, res := fun ⟨x0, _⟩ => [⟨Ty.str, g13_0 x0⟩] }
theorem con13 : Contract Try.prog 13 S13 := contract_of Try.func13 hb13 (Nat.le_of_ble_eq_true (by kernel_rfl)) (fun ⟨x0, _⟩ h _ w0 O q => at13 x0 h w0 O q)


end Go.Proofs.Ytjoimmmpaocfkaa
