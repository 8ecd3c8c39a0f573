/- Function 25: its runs between cut points. Written by a program of this repo (gen). -/
import Derived.Test.YtjoimmmpaocfkaaT
import Derived.Test.YtjoimmmpaocfkaaF32
set_option linter.unusedVariables false
set_option linter.unusedSimpArgs false
set_option maxRecDepth 100000
namespace Go.Proofs.Ytjoimmmpaocfkaa
open Go Go.Am Go.Proofs
def ext25 : Ext := [(32, S32)]
theorem call25_32 : Callable Try.prog 32 := ⟨Try.f32, Try.func32, by kernel_rfl, by kernel_rfl⟩
theorem ext25Ok : ExtOk Try.prog ext25 := ⟨⟨call25_32, con32⟩, trivial⟩
/-! Function 25. -/
noncomputable def b25 : Code := bodyOf Try.f25
theorem hb25 : Try.f25.body = some b25 := by kernel_rfl
def sig25 : List AT := [AT.v (.sl (.cons .str (.cons .str (.cons .str .unit)))),AT.v (Ty.int .i64)]
def tys25 : List Ty := [.int .i64]
def E25_5 (v1 : Int) (v5 : Int) (x0 : List (ByteArray × ByteArray × ByteArray × Unit)) : Env := [(0, PV.a (Atom.sl (Ty.cons Ty.str (Ty.cons Ty.str (Ty.cons Ty.str Ty.unit))) x0)), (1, PV.a (Atom.val (Value.int IntKind.i64 v1))), (5, PV.a (Atom.val (Value.int IntKind.i64 v5)))]
def L25_5 (v1 : Int) (v5 : Int) (x0 : List (ByteArray × ByteArray × ByteArray × Unit)) : Heap := []
mutual
def R25 : Nat → List (ByteArray × ByteArray × ByteArray × Unit) → Int → List Dyn → Prop
  | 0, _, _, _ => False
  | n + 1, x0, x1, ds => ((InR IntKind.i64 (x1 - (↑(List.length x0) : Int))) ∧ (if (Decidable.decide (x1 - (↑(List.length x0) : Int) < 0)) = true then (ds = [Dyn.mk (Ty.int IntKind.i64) (-1)]) else (R25_5 n (x1 - (↑(List.length x0) : Int)) (0) (x0) ds)))
def R25_5 : Nat → Int → Int → List (ByteArray × ByteArray × ByteArray × Unit) → List Dyn → Prop
  | 0, _, _, _, _ => False
  | n + 1, v1, v5, x0, ds => (if (Decidable.decide (v5 < (↑(List.length x0) : Int))) = true then ((0 ≤ v5) ∧ (v5 < (↑(List.length x0) : Int)) ∧ ((P32 (List.getD x0 (Int.toNat v5) (ByteArray.empty, ByteArray.empty, ByteArray.empty, ())) v1) ∧ (if (Decidable.decide (g32_0 (List.getD x0 (Int.toNat v5) (ByteArray.empty, ByteArray.empty, ByteArray.empty, ())) v1 < 0)) = true then (ds = [Dyn.mk (Ty.int IntKind.i64) (-1)]) else ((InR IntKind.i64 (v5 + 1)) ∧ (R25_5 n (g32_0 (List.getD x0 (Int.toNat v5) (ByteArray.empty, ByteArray.empty, ByteArray.empty, ())) v1) (v5 + 1) (x0) ds))))) else (ds = [Dyn.mk (Ty.int IntKind.i64) v1]))
end
theorem p25_0 (x0 : List (ByteArray × ByteArray × ByteArray × Unit)) (x1 : Int) : runF tab ext25 false 27 [] 2000 tys25 Try.f25.results [true] [.code b25] (entE 0 sig25 (x0, x1, ())) [] = some ([Dyn.mk (Ty.int IntKind.i64) (-1)], [InR IntKind.i64 (x1 - (↑(List.length x0) : Int)), Decidable.decide (x1 - (↑(List.length x0) : Int) < 0) = Bool.true]) := by kernel_rfl
theorem p25_1 (x0 : List (ByteArray × ByteArray × ByteArray × Unit)) (x1 : Int) : Am.runN tab ext25 false 27 [] 2000 [] [0, 1, 5] [] [false] [.code b25] (entE 0 sig25 (x0, x1, ())) [] = some (cutAt b25 5, E25_5 (x1 - (↑(List.length x0) : Int)) (0) (x0), L25_5 (x1 - (↑(List.length x0) : Int)) (0) (x0), [InR IntKind.i64 (x1 - (↑(List.length x0) : Int)), Decidable.decide (x1 - (↑(List.length x0) : Int) < 0) = Bool.false]) := by kernel_rfl
theorem p25_2 (v1 : Int) (v5 : Int) (x0 : List (ByteArray × ByteArray × ByteArray × Unit)) : runF tab ext25 false 27 [] 2000 tys25 Try.f25.results [true, true] (cutAt b25 5) (E25_5 v1 v5 x0) (L25_5 v1 v5 x0) = some ([Dyn.mk (Ty.int IntKind.i64) (-1)], [Decidable.decide (v5 < (↑(List.length x0) : Int)) = Bool.true, 0 ≤ v5, v5 < (↑(List.length x0) : Int), P32 (List.getD x0 (Int.toNat v5) (ByteArray.empty, ByteArray.empty, ByteArray.empty, ())) v1, Decidable.decide (g32_0 (List.getD x0 (Int.toNat v5) (ByteArray.empty, ByteArray.empty, ByteArray.empty, ())) v1 < 0) = Bool.true]) := by kernel_rfl
theorem p25_3 (v1 : Int) (v5 : Int) (x0 : List (ByteArray × ByteArray × ByteArray × Unit)) : Am.runN tab ext25 false 27 [] 2000 [] [0, 1, 5] [] [true, false] (cutAt b25 5) (E25_5 v1 v5 x0) (L25_5 v1 v5 x0) = some (cutAt b25 5, E25_5 (g32_0 (List.getD x0 (Int.toNat v5) (ByteArray.empty, ByteArray.empty, ByteArray.empty, ())) v1) (v5 + 1) (x0), L25_5 (g32_0 (List.getD x0 (Int.toNat v5) (ByteArray.empty, ByteArray.empty, ByteArray.empty, ())) v1) (v5 + 1) (x0), [Decidable.decide (v5 < (↑(List.length x0) : Int)) = Bool.true, 0 ≤ v5, v5 < (↑(List.length x0) : Int), P32 (List.getD x0 (Int.toNat v5) (ByteArray.empty, ByteArray.empty, ByteArray.empty, ())) v1, Decidable.decide (g32_0 (List.getD x0 (Int.toNat v5) (ByteArray.empty, ByteArray.empty, ByteArray.empty, ())) v1 < 0) = Bool.false, InR IntKind.i64 (v5 + 1)]) := by kernel_rfl
theorem p25_4 (v1 : Int) (v5 : Int) (x0 : List (ByteArray × ByteArray × ByteArray × Unit)) : runF tab ext25 false 27 [] 2000 tys25 Try.f25.results [false] (cutAt b25 5) (E25_5 v1 v5 x0) (L25_5 v1 v5 x0) = some ([Dyn.mk (Ty.int IntKind.i64) v1], [Decidable.decide (v5 < (↑(List.length x0) : Int)) = Bool.false]) := by kernel_rfl
theorem snd25 : ∀ n, (∀ (x0 : List (ByteArray × ByteArray × ByteArray × Unit)) (x1 : Int) ds, R25 n x0 x1 ds → ∀ w0, AtV Try.prog 25 (PostR ds w0) 27 w0 [] [.code b25] (entE 0 sig25 (x0, x1, ())) []) ∧ (∀ (v1 : Int) (v5 : Int) (x0 : List (ByteArray × ByteArray × ByteArray × Unit)) ds, R25_5 n v1 v5 x0 ds → ∀ w0, AtV Try.prog 25 (PostR ds w0) 27 w0 [] (cutAt b25 5) (E25_5 v1 v5 x0) (L25_5 v1 v5 x0)) := by
  intro n
  induction n with
  | zero => exact ⟨fun _ _ _ h => by simp only [R25] at h, fun _ _ _ _ h => by simp only [R25_5] at h⟩
  | succ n ih =>
  obtain ⟨ih, ih5⟩ := ih
  refine ⟨?_, ?_⟩
  · intro x0 x1 ds h w0
    rw [R25] at h
    obtain ⟨s0, h⟩ := h
    by_cases b0 : (Decidable.decide (x1 - (↑(List.length x0) : Int) < 0)) = true
    · rw [if_pos b0] at h
      subst h
      exact AtV.fin Try.func25 tabOk ext25Ok mixed (p25_0 x0 x1) ⟨s0, b0, trivial⟩
    · rw [if_neg b0] at h
      replace b0 := Bool.eq_false_iff.2 b0
      exact AtV.runN tabOk ext25Ok mixed (p25_1 x0 x1) ⟨s0, b0, trivial⟩ (ih5 _ _ _ _ h w0)

  · intro v1 v5 x0 ds h w0
    rw [R25_5] at h
    by_cases b0 : (Decidable.decide (v5 < (↑(List.length x0) : Int))) = true
    · rw [if_pos b0] at h
      obtain ⟨s0, s1, h⟩ := h
      obtain ⟨s2, h⟩ := h
      by_cases b1 : (Decidable.decide (g32_0 (List.getD x0 (Int.toNat v5) (ByteArray.empty, ByteArray.empty, ByteArray.empty, ())) v1 < 0)) = true
      · rw [if_pos b1] at h
        subst h
        exact AtV.fin Try.func25 tabOk ext25Ok mixed (p25_2 v1 v5 x0) ⟨b0, s0, s1, s2, b1, trivial⟩
      · rw [if_neg b1] at h
        replace b1 := Bool.eq_false_iff.2 b1
        obtain ⟨s3, h⟩ := h
        exact AtV.runN tabOk ext25Ok mixed (p25_3 v1 v5 x0) ⟨b0, s0, s1, s2, b1, s3, trivial⟩ (ih5 _ _ _ _ h w0)
    · rw [if_neg b0] at h
      replace b0 := Bool.eq_false_iff.2 b0
      subst h
      exact AtV.fin Try.func25 tabOk ext25Ok mixed (p25_4 v1 v5 x0) ⟨b0, trivial⟩



def szL25 : List (ByteArray × ByteArray × ByteArray × Unit) → Int → Int
  | [], l => l
  | x :: r, l => if g32_0 x l < 0 then -1 else szL25 r (g32_0 x l)

theorem szL25_ok : ∀ (x0 : List (ByteArray × ByteArray × ByteArray × Unit)) (l : Int), 0 ≤ l → InR .i64 l → (∀ x ∈ x0, Wf (.cons .str (.cons .str (.cons .str .unit))) x) → szL25 x0 l ≤ l
  | [], l, _, _, _ => Int.le_refl _
  | x :: r, l, h, hi, hw => by
    obtain ⟨_, h2, h3⟩ := sz32 x l h hi (hw x (List.mem_cons_self ..))
    simp only [szL25]
    rw [i64_iff] at hi
    split
    · omega
    · have := szL25_ok r (g32_0 x l) (by omega) (by rw [i64_iff]; omega) (fun y hy => hw y (List.mem_cons_of_mem _ hy))
      omega

theorem run25 (x0 : List (ByteArray × ByteArray × ByteArray × Unit)) (hm : x0.length ≤ maxLen) (hw : ∀ x ∈ x0, Wf (.cons .str (.cons .str (.cons .str .unit))) x) : ∀ (k i : Nat) (l : Int), i + k = x0.length → 0 ≤ l → InR .i64 l →
    R25_5 (k + 1) l (i : Int) x0 [⟨.int .i64, szL25 (x0.drop i) l⟩] := by
  intro k
  induction k with
  | zero =>
    intro i l hi _ _
    rw [R25_5, if_neg (by simp; omega), drop_end x0 i (by omega)]
    rfl
  | succ k ih =>
    intro i l hi h0 hl
    rw [R25_5, if_pos (by simp; omega)]
    simp only [Int.toNat_natCast]
    have hmem : x0.getD i (ByteArray.empty, ByteArray.empty, ByteArray.empty, ()) ∈ x0 := by rw [getD_lt _ _ _ (by omega)]; exact List.getElem_mem _
    obtain ⟨h1, h2, h3⟩ := sz32 _ l h0 hl (hw _ hmem)
    refine ⟨by omega, by omega, h1, ?_⟩
    rw [drop_get x0 i (ByteArray.empty, ByteArray.empty, ByteArray.empty, ()) (by omega)]
    simp only [szL25]
    have hl' := hl
    rw [i64_iff] at hl'
    by_cases hn : g32_0 (x0.getD i (ByteArray.empty, ByteArray.empty, ByteArray.empty, ())) l < 0
    · rw [if_pos (by simpa using hn), if_pos hn]
    · rw [if_neg (by simpa using hn), if_neg hn]
      exact ⟨inR_up hm (by omega), ih (i + 1) _ (by omega) (by omega) (by rw [i64_iff]; omega)⟩

def g25_0 (x0 : List (ByteArray × ByteArray × ByteArray × Unit)) (x1 : Int) : Int := if x1 - x0.length < 0 then -1 else szL25 x0 (x1 - x0.length)
def P25 (x0 : List (ByteArray × ByteArray × ByteArray × Unit)) (x1 : Int) : Prop := 0 ≤ x1

theorem g25_le (x0 : List (ByteArray × ByteArray × ByteArray × Unit)) (x1 : Int) (h : 0 ≤ x1) (hi : InR .i64 x1) (hw : Wf (.sl (.cons .str (.cons .str (.cons .str .unit)))) x0) (hg : ¬ g25_0 x0 x1 < 0) : g25_0 x0 x1 ≤ x1 - x0.length := by
  unfold g25_0 at hg ⊢
  rw [i64_iff] at hi
  split
  · rename_i h1
    rw [if_pos h1] at hg
    omega
  · exact szL25_ok x0 _ (by omega) (by rw [i64_iff]; omega) hw.2

theorem top25 (x0 : List (ByteArray × ByteArray × ByteArray × Unit)) (x1 : Int) (hw : Wf (.sl (.cons .str (.cons .str (.cons .str .unit)))) x0) (hi : InR .i64 x1) (h : 0 ≤ x1) : R25 (x0.length + 1 + 1) x0 x1 [⟨Ty.int .i64, g25_0 x0 x1⟩] := by
  have hm : x0.length ≤ maxLen := hw.1
  have hm' : x0.length ≤ 9223372036854775807 := hm
  rw [i64_iff] at hi
  rw [R25]
  refine ⟨by rw [i64_iff]; omega, ?_⟩
  unfold g25_0
  by_cases hn : x1 - (x0.length : Int) < 0
  · rw [if_pos (by simpa using hn), if_pos hn]
  · rw [if_neg (by simpa using hn), if_neg hn]
    have := run25 x0 hm hw.2 x0.length 0 (x1 - x0.length) (by omega) (by omega) (by rw [i64_iff]; omega)
    simpa using this

def S25 : Am.Spec := { sig := sig25, pre := fun ⟨x0, x1, _⟩ => P25 x0 x1, res := fun ⟨x0, x1, _⟩ => [⟨Ty.int .i64, g25_0 x0 x1⟩] }
theorem con25 : Contract Try.prog 25 S25 := contract_of Try.func25 hb25 rfl (fun _ => rfl) (Nat.le_of_ble_eq_true (by kernel_rfl)) (fun ⟨x0, x1, _⟩ h hwf w0 =>
  (snd25 _).1 x0 x1 _ (top25 x0 x1 hwf.1 hwf.2.1 h) w0)

end Go.Proofs.Ytjoimmmpaocfkaa
