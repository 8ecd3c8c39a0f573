/- Several texts in one: the functions that this law reaches, and their laws. -/
import Derived.Test.YtcakiedjgnhjcaaGreatZ3A
import Derived.Test.YtcakiedjgnhjcaaGreatZ3B
import Derived.Test.YtcakiedjgnhjcaaGreatZ3C
import Derived.Test.YtcakiedjgnhjcaaGreatZ3D

/- Function 69 (spec.l24Helpers): its runs between cut points. Written by a program of this repo (gen). -/
set_option linter.unusedVariables false
set_option linter.unusedSimpArgs false
set_option maxRecDepth 100000
namespace Go.Proofs.YtcakiedjgnhjcaaGreat
open Go Go.Am Go.Proofs
noncomputable section
def ext69 : Ext := [(109, S109)]
theorem call69_109 : Callable Tryz.prog 109 := ⟨Tryz.f109, Tryz.func109, by kernel_rfl, by kernel_rfl⟩
theorem ext69Ok : ExtOk Tryz.prog ext69 := ⟨⟨call69_109, con109⟩, trivial⟩

noncomputable def b69 : Code := bodyOf Tryz.f69
theorem hb69 : Tryz.f69.body = some b69 := by kernel_rfl
def sig69 : List AT := [AT.v (Ty.sl (Ty.cons Ty.str (Ty.cons (Ty.int .i64) (Ty.cons (Ty.int .i64) Ty.unit))))]
def tys69 : List Ty := [Ty.bool]
def kds69 : List RK := []
def oks69 : List AT := owns sig69
def E69_2 (v3 : Int) (x0 : List TyB1) : Env := [(0, PV.a (Atom.sl (Ty.cons Ty.str (Ty.cons (Ty.int .i64) (Ty.cons (Ty.int .i64) Ty.unit))) x0)), (3, PV.a (Atom.val (Value.int .i64 v3)))]
def L69_2 (v3 : Int) (x0 : List TyB1) : Heap := []
mutual
def R69 : Nat → List TyB1 → List Dyn → Prop
  | 0, _, _ => False
  | n + 1, x0, ds => (R69_2 n (0) (x0) ds)
def R69_2 : Nat → Int → List TyB1 → List Dyn → Prop
  | 0, _, _, _ => False
  | n + 1, v3, x0, ds => (if (decide (v3 < (↑(List.length x0) : Int))) = true then ((0 ≤ v3) ∧ (v3 < (↑(List.length x0) : Int)) ∧ (if (!g109_0 (List.getD x0 (Int.toNat v3) (ByteArray.empty, 0, 0, ()))) = true then (ds = [Dyn.mk Ty.bool false]) else (if (decide (v3 > 0)) = true then ((InR .i64 (v3 - 1)) ∧ ((0 ≤ v3 - 1) ∧ (v3 - 1 < (↑(List.length x0) : Int)) ∧ ((0 ≤ v3) ∧ (v3 < (↑(List.length x0) : Int)) ∧ (if (!Op.bytesLess (ByteArray.toList (List.getD x0 (Int.toNat (v3 - 1)) (ByteArray.empty, 0, 0, ())).1) (ByteArray.toList (List.getD x0 (Int.toNat v3) (ByteArray.empty, 0, 0, ())).1)) = true then (ds = [Dyn.mk Ty.bool false]) else ((InR .i64 (v3 + 1)) ∧ (R69_2 n (v3 + 1) (x0) ds)))))) else ((InR .i64 (v3 + 1)) ∧ (R69_2 n (v3 + 1) (x0) ds))))) else (ds = [Dyn.mk Ty.bool (decide ((↑(List.length x0) : Int) ≤ 10))]))
end
theorem p69_0 (x0 : List TyB1) : Am.runN tab ext69 false 36 [] 2000 [] [] [0, 3] [] [] [.code b69] (entE 0 0 sig69 (x0, ())) (entL sig69 (x0, ())) = some (cutAt b69 2, E69_2 (0) (x0), L69_2 (0) (x0), []) := by kernel_rfl
theorem p69_1 (v3 : Int) (x0 : List TyB1) : runF tab ext69 false 36 [] 2000 [] oks69 kds69 tys69 Tryz.f69.results [true, true, true] (cutAt b69 2) (E69_2 v3 x0) (L69_2 v3 x0) = some ([Dyn.mk Ty.bool false], [], [decide (v3 < (↑(List.length x0) : Int)) = true, 0 ≤ v3, v3 < (↑(List.length x0) : Int), True, (!g109_0 (List.getD x0 (Int.toNat v3) (ByteArray.empty, 0, 0, ()))) = true, true = true]) := by kernel_rfl
theorem p69_2 (v3 : Int) (x0 : List TyB1) : runF tab ext69 false 36 [] 2000 [] oks69 kds69 tys69 Tryz.f69.results [true, false, true, true] (cutAt b69 2) (E69_2 v3 x0) (L69_2 v3 x0) = some ([Dyn.mk Ty.bool false], [], [decide (v3 < (↑(List.length x0) : Int)) = true, 0 ≤ v3, v3 < (↑(List.length x0) : Int), True, (!g109_0 (List.getD x0 (Int.toNat v3) (ByteArray.empty, 0, 0, ()))) = false, decide (v3 > 0) = true, InR .i64 (v3 - 1), 0 ≤ v3 - 1, v3 - 1 < (↑(List.length x0) : Int), 0 ≤ v3, v3 < (↑(List.length x0) : Int), (!Op.bytesLess (ByteArray.toList (List.getD x0 (Int.toNat (v3 - 1)) (ByteArray.empty, 0, 0, ())).1) (ByteArray.toList (List.getD x0 (Int.toNat v3) (ByteArray.empty, 0, 0, ())).1)) = true]) := by kernel_rfl
theorem p69_3 (v3 : Int) (x0 : List TyB1) : Am.runN tab ext69 false 36 [] 2000 [] [] [0, 3] [] [true, false, true, false] (cutAt b69 2) (E69_2 v3 x0) (L69_2 v3 x0) = some (cutAt b69 2, E69_2 (v3 + 1) (x0), L69_2 (v3 + 1) (x0), [decide (v3 < (↑(List.length x0) : Int)) = true, 0 ≤ v3, v3 < (↑(List.length x0) : Int), True, (!g109_0 (List.getD x0 (Int.toNat v3) (ByteArray.empty, 0, 0, ()))) = false, decide (v3 > 0) = true, InR .i64 (v3 - 1), 0 ≤ v3 - 1, v3 - 1 < (↑(List.length x0) : Int), 0 ≤ v3, v3 < (↑(List.length x0) : Int), (!Op.bytesLess (ByteArray.toList (List.getD x0 (Int.toNat (v3 - 1)) (ByteArray.empty, 0, 0, ())).1) (ByteArray.toList (List.getD x0 (Int.toNat v3) (ByteArray.empty, 0, 0, ())).1)) = false, InR .i64 (v3 + 1)]) := by kernel_rfl
theorem p69_4 (v3 : Int) (x0 : List TyB1) : Am.runN tab ext69 false 36 [] 2000 [] [] [0, 3] [] [true, false, false, false] (cutAt b69 2) (E69_2 v3 x0) (L69_2 v3 x0) = some (cutAt b69 2, E69_2 (v3 + 1) (x0), L69_2 (v3 + 1) (x0), [decide (v3 < (↑(List.length x0) : Int)) = true, 0 ≤ v3, v3 < (↑(List.length x0) : Int), True, (!g109_0 (List.getD x0 (Int.toNat v3) (ByteArray.empty, 0, 0, ()))) = false, decide (v3 > 0) = false, false = false, InR .i64 (v3 + 1)]) := by kernel_rfl
theorem p69_5 (v3 : Int) (x0 : List TyB1) : runF tab ext69 false 36 [] 2000 [] oks69 kds69 tys69 Tryz.f69.results [false] (cutAt b69 2) (E69_2 v3 x0) (L69_2 v3 x0) = some ([Dyn.mk Ty.bool (decide ((↑(List.length x0) : Int) ≤ 10))], [], [decide (v3 < (↑(List.length x0) : Int)) = false]) := by kernel_rfl
theorem snd69 : ∀ n, (∀ (x0 : List TyB1) ds, R69 n x0 ds → ∀ K q, AtV Tryz.prog 69 (PostR kds69 oks69 ds [] [] q K) 36 K q [] [.code b69] (entE 0 0 sig69 (x0, ())) (entL sig69 (x0, ()))) ∧ (∀ (v3 : Int) (x0 : List TyB1) ds, R69_2 n v3 x0 ds → ∀ K q, AtV Tryz.prog 69 (PostR kds69 oks69 ds [] [] q K) 36 K q [] (cutAt b69 2) (E69_2 v3 x0) (L69_2 v3 x0)) := by
  intro n
  induction n with
  | zero => exact ⟨fun _ _ h => by simp only [R69] at h, fun _ _ _ h => by simp only [R69_2] at h⟩
  | succ n ih =>
  obtain ⟨ih, ih2⟩ := ih
  refine ⟨?_, ?_⟩
  · intro x0 ds h K q
    rw [R69] at h
    exact AtV.runN tabOk ext69Ok mixed (p69_0 x0) trivial (ih2 _ _ _ h K q)

  · intro v3 x0 ds h K q
    rw [R69_2] at h
    by_cases b0 : (decide (v3 < (↑(List.length x0) : Int))) = true
    · rw [if_pos b0] at h
      obtain ⟨s0, s1, h⟩ := h
      by_cases b1 : (!g109_0 (List.getD x0 (Int.toNat v3) (ByteArray.empty, 0, 0, ()))) = true
      · rw [if_pos b1] at h
        subst h
        exact AtV.fin Tryz.func69 tabOk ext69Ok mixed (p69_1 v3 x0) ⟨b0, s0, s1, trivial, b1, rfl, trivial⟩
      · rw [if_neg b1] at h
        replace b1 := Bool.eq_false_iff.2 b1
        by_cases b2 : (decide (v3 > 0)) = true
        · rw [if_pos b2] at h
          obtain ⟨s2, h⟩ := h
          obtain ⟨s3, s4, h⟩ := h
          obtain ⟨s5, s6, h⟩ := h
          by_cases b3 : (!Op.bytesLess (ByteArray.toList (List.getD x0 (Int.toNat (v3 - 1)) (ByteArray.empty, 0, 0, ())).1) (ByteArray.toList (List.getD x0 (Int.toNat v3) (ByteArray.empty, 0, 0, ())).1)) = true
          · rw [if_pos b3] at h
            subst h
            exact AtV.fin Tryz.func69 tabOk ext69Ok mixed (p69_2 v3 x0) ⟨b0, s0, s1, trivial, b1, b2, s2, s3, s4, s5, s6, b3, trivial⟩
          · rw [if_neg b3] at h
            replace b3 := Bool.eq_false_iff.2 b3
            obtain ⟨s7, h⟩ := h
            exact AtV.runN tabOk ext69Ok mixed (p69_3 v3 x0) ⟨b0, s0, s1, trivial, b1, b2, s2, s3, s4, s5, s6, b3, s7, trivial⟩ (ih2 _ _ _ h K q)
        · rw [if_neg b2] at h
          replace b2 := Bool.eq_false_iff.2 b2
          obtain ⟨s2, h⟩ := h
          exact AtV.runN tabOk ext69Ok mixed (p69_4 v3 x0) ⟨b0, s0, s1, trivial, b1, b2, rfl, s2, trivial⟩ (ih2 _ _ _ h K q)
    · rw [if_neg b0] at h
      replace b0 := Bool.eq_false_iff.2 b0
      subst h
      exact AtV.fin Tryz.func69 tabOk ext69Ok mixed (p69_5 v3 x0) ⟨b0, trivial⟩



def ok69 (x0 : List TyB1) (i : Nat) (x : TyB1) : Bool :=
  g109_0 x && (i == 0 || Op.bytesLess (ByteArray.toList (x0.getD (i - 1) (ByteArray.empty, (0 : Int), (0 : Int), ())).1) (ByteArray.toList x.1))
def g69_0 (x0 : List TyB1) : Bool := allI (ok69 x0) 0 x0 && decide (x0.length ≤ 10)
def P69 (x0 : List TyB1) : Prop := True

theorem step69 (n i : Nat) (x0 : List TyB1) (hm : x0.length ≤ maxLen) (hi : i < x0.length) (ds : List Dyn) :
    (if ok69 x0 i (x0.getD i (ByteArray.empty, (0 : Int), (0 : Int), ())) = true then R69_2 n ((i : Int) + 1) x0 ds else ds = [⟨.bool, false⟩]) → R69_2 (n + 1) (i : Int) x0 ds := by
  intro h
  have hu := inR_up hm hi
  rw [R69_2, if_pos (by simp; omega)]
  refine ⟨by omega, by omega, ?_⟩
  simp only [Int.toNat_natCast]
  unfold ok69 at h
  cases h1 : g109_0 (x0.getD i (ByteArray.empty, (0 : Int), (0 : Int), ())) with
  | false =>
    rw [h1] at h
    rw [if_pos (by rfl)]
    simpa using h
  | true =>
    rw [h1] at h
    rw [if_neg (by simp)]
    by_cases h0 : (i : Int) > 0
    · rw [if_pos (by simpa using h0)]
      have hi0 : (i == 0) = false := by simp; omega
      have e : ((i : Int) - 1).toNat = i - 1 := by omega
      refine ⟨by rw [i64_iff]; have : maxLen ≤ 9223372036854775807 := by decide
                 omega, by omega, by omega, by omega, by omega, ?_⟩
      rw [e]
      by_cases h2 : Op.bytesLess (ByteArray.toList (x0.getD (i - 1) (ByteArray.empty, (0 : Int), (0 : Int), ())).1) (ByteArray.toList (x0.getD i (ByteArray.empty, (0 : Int), (0 : Int), ())).1) = true
      · rw [h2, hi0] at h
        rw [if_neg (by rw [h2]; simp)]
        exact ⟨hu, by simpa using h⟩
      · have h2 := Bool.eq_false_iff.2 h2
        rw [h2, hi0] at h
        rw [if_pos (by rw [h2]; rfl)]
        simpa using h
    · rw [if_neg (by simpa using h0)]
      have hi0 : (i == 0) = true := by simp; omega
      rw [hi0] at h
      exact ⟨hu, by simpa using h⟩

theorem top69 (x0 : List TyB1) (hw : x0.length ≤ maxLen) : R69 (x0.length + 1 + 1) x0 [⟨.bool, g69_0 x0⟩] := by
  rw [R69]
  have key := loop_testI x0 (ByteArray.empty, (0 : Int), (0 : Int), ()) (ok69 x0) [(⟨.bool, false⟩ : Dyn)] [⟨.bool, decide (x0.length ≤ 10)⟩] (fun n i ds => R69_2 n i x0 ds) (fun n => ?_) (fun n i hi hok ds hr => ?_) (fun n i hi hok => ?_)
  · unfold g69_0
    cases h : allI (ok69 x0) 0 x0 with
    | true => rw [if_pos h] at key; simpa using key
    | false => rw [if_neg (by rw [h]; simp)] at key; simpa using key
  · rw [R69_2, if_neg (by simp)]
    have hc : decide ((x0.length : Int) ≤ 10) = decide (x0.length ≤ 10) := by
      congr 1; exact propext ⟨fun h => by omega, fun h => by omega⟩
    rw [hc]
  · exact step69 n i x0 hw hi ds (by rw [if_pos hok]; exact hr)
  · exact step69 n i x0 hw hi _ (by rw [if_neg (by rw [hok]; simp)])

def S69 : Am.Spec := { sig := sig69, pre := fun ⟨x0, _⟩ => P69 x0, res := fun ⟨x0, _⟩ => [⟨Ty.bool, g69_0 x0⟩] }
theorem con69 : Contract Tryz.prog 69 S69 := contract_of Tryz.func69 hb69 (Nat.le_of_ble_eq_true (by kernel_rfl)) (fun ⟨x0, _⟩ h hwf K q =>
  (snd69 _).1 x0 _ (top69 x0 hwf.1.1) K q)

end
end Go.Proofs.YtcakiedjgnhjcaaGreat

/- Function 110 (spec.l24Task): its runs between cut points. Written by a program of this repo (gen). -/
set_option linter.unusedVariables false
set_option linter.unusedSimpArgs false
set_option maxRecDepth 100000
namespace Go.Proofs.YtcakiedjgnhjcaaGreat
open Go Go.Am Go.Proofs
noncomputable section
def ext110 : Ext := [(121, S121), (125, S125), (126, S126)]
theorem call110_121 : Callable Tryz.prog 121 := ⟨Tryz.f121, Tryz.func121, by kernel_rfl, by kernel_rfl⟩
theorem call110_125 : Callable Tryz.prog 125 := ⟨Tryz.f125, Tryz.func125, by kernel_rfl, by kernel_rfl⟩
theorem call110_126 : Callable Tryz.prog 126 := ⟨Tryz.f126, Tryz.func126, by kernel_rfl, by kernel_rfl⟩
theorem ext110Ok : ExtOk Tryz.prog ext110 := ⟨⟨call110_121, con121⟩, ⟨call110_125, con125⟩, ⟨call110_126, con126⟩, trivial⟩

noncomputable def b110 : Code := bodyOf Tryz.f110
theorem hb110 : Tryz.f110.body = some b110 := by kernel_rfl
def sig110 : List AT := [AT.p (Ty.cons Ty.str (Ty.cons (Ty.int .i64) (Ty.cons (Ty.int .i64) Ty.unit)))]
def tys110 : List Ty := [Ty.bool]
def kds110 : List RK := []
def oks110 : List AT := owns sig110
def P110 (x0 : ByteArray × Int × Int × Unit) : Prop := True
def g110_0 (x0 : ByteArray × Int × Int × Unit) : Bool := (if (g121_0 x0.1) = true then (if (g125_0 x0.2.1) = true then g126_0 x0.2.2.1 else false) else false)
theorem p110_0 (x0 : ByteArray × Int × Int × Unit) : runF tab ext110 false 22 [] 2000 [] oks110 kds110 tys110 Tryz.f110.results [true, true] [.code b110] (entE 0 0 sig110 (x0, ())) (entL sig110 (x0, ())) = some ([Dyn.mk Ty.bool (g126_0 x0.2.2.1)], [], [True, g121_0 x0.1 = true, True, g125_0 x0.2.1 = true, True]) := by kernel_rfl
theorem p110_1 (x0 : ByteArray × Int × Int × Unit) : runF tab ext110 false 22 [] 2000 [] oks110 kds110 tys110 Tryz.f110.results [true, false] [.code b110] (entE 0 0 sig110 (x0, ())) (entL sig110 (x0, ())) = some ([Dyn.mk Ty.bool false], [], [True, g121_0 x0.1 = true, True, g125_0 x0.2.1 = false]) := by kernel_rfl
theorem p110_2 (x0 : ByteArray × Int × Int × Unit) : runF tab ext110 false 22 [] 2000 [] oks110 kds110 tys110 Tryz.f110.results [false, false] [.code b110] (entE 0 0 sig110 (x0, ())) (entL sig110 (x0, ())) = some ([Dyn.mk Ty.bool false], [], [True, g121_0 x0.1 = false, false = false]) := by kernel_rfl
theorem at110 (x0 : ByteArray × Int × Int × Unit) (h : P110 x0) (K : Ctx) (q : Nat → Value) : AtV Tryz.prog 110 (PostR kds110 oks110 [⟨Ty.bool, g110_0 x0⟩] [] [] q K) 22 K q [] [.code b110] (entE 0 0 sig110 (x0, ())) (entL sig110 (x0, ())) := by
  unfold P110 at h
  unfold g110_0
  by_cases b0 : (g121_0 x0.1) = true
  · try simp only [if_pos b0] at h ⊢
    by_cases b1 : (g125_0 x0.2.1) = true
    · try simp only [if_pos b1] at h ⊢
      exact AtV.fin Tryz.func110 tabOk ext110Ok mixed (p110_0 x0) ⟨trivial, b0, trivial, b1, trivial, trivial⟩
    · try simp only [if_neg b1] at h ⊢
      replace b1 := Bool.eq_false_iff.2 b1
      exact AtV.fin Tryz.func110 tabOk ext110Ok mixed (p110_1 x0) ⟨trivial, b0, trivial, b1, trivial⟩
  · try simp only [if_neg b0] at h ⊢
    replace b0 := Bool.eq_false_iff.2 b0
    exact AtV.fin Tryz.func110 tabOk ext110Ok mixed (p110_2 x0) ⟨trivial, b0, rfl, trivial⟩

def S110 : Am.Spec := { sig := sig110, pre := fun ⟨x0, _⟩ => P110 x0, res := fun ⟨x0, _⟩ => [⟨Ty.bool, g110_0 x0⟩], kds := kds110 }
theorem con110 : Contract Tryz.prog 110 S110 := contract_of Tryz.func110 hb110 (Nat.le_of_ble_eq_true (by kernel_rfl)) (fun ⟨x0, _⟩ h _ K q => at110 x0 h K q)


end
end Go.Proofs.YtcakiedjgnhjcaaGreat

/- Function 70 (spec.l24Tasks): its runs between cut points. Written by a program of this repo (gen). -/
set_option linter.unusedVariables false
set_option linter.unusedSimpArgs false
set_option maxRecDepth 100000
namespace Go.Proofs.YtcakiedjgnhjcaaGreat
open Go Go.Am Go.Proofs
noncomputable section
def ext70 : Ext := [(110, S110)]
theorem call70_110 : Callable Tryz.prog 110 := ⟨Tryz.f110, Tryz.func110, by kernel_rfl, by kernel_rfl⟩
theorem ext70Ok : ExtOk Tryz.prog ext70 := ⟨⟨call70_110, con110⟩, trivial⟩

noncomputable def b70 : Code := bodyOf Tryz.f70
theorem hb70 : Tryz.f70.body = some b70 := by kernel_rfl
def sig70 : List AT := [AT.v (Ty.sl (Ty.cons Ty.str (Ty.cons (Ty.int .i64) (Ty.cons (Ty.int .i64) Ty.unit))))]
def tys70 : List Ty := [Ty.bool]
def kds70 : List RK := []
def oks70 : List AT := owns sig70
def E70_2 (v3 : Int) (x0 : List TyB1) : Env := [(0, PV.a (Atom.sl (Ty.cons Ty.str (Ty.cons (Ty.int .i64) (Ty.cons (Ty.int .i64) Ty.unit))) x0)), (3, PV.a (Atom.val (Value.int .i64 v3)))]
def L70_2 (v3 : Int) (x0 : List TyB1) : Heap := []
mutual
def R70 : Nat → List TyB1 → List Dyn → Prop
  | 0, _, _ => False
  | n + 1, x0, ds => (R70_2 n (0) (x0) ds)
def R70_2 : Nat → Int → List TyB1 → List Dyn → Prop
  | 0, _, _, _ => False
  | n + 1, v3, x0, ds => (if (decide (v3 < (↑(List.length x0) : Int))) = true then ((0 ≤ v3) ∧ (v3 < (↑(List.length x0) : Int)) ∧ (if (!g110_0 (List.getD x0 (Int.toNat v3) (ByteArray.empty, 0, 0, ()))) = true then (ds = [Dyn.mk Ty.bool false]) else (if (decide (v3 > 0)) = true then ((InR .i64 (v3 - 1)) ∧ ((0 ≤ v3 - 1) ∧ (v3 - 1 < (↑(List.length x0) : Int)) ∧ ((0 ≤ v3) ∧ (v3 < (↑(List.length x0) : Int)) ∧ (if (!Op.bytesLess (ByteArray.toList (List.getD x0 (Int.toNat (v3 - 1)) (ByteArray.empty, 0, 0, ())).1) (ByteArray.toList (List.getD x0 (Int.toNat v3) (ByteArray.empty, 0, 0, ())).1)) = true then (ds = [Dyn.mk Ty.bool false]) else ((InR .i64 (v3 + 1)) ∧ (R70_2 n (v3 + 1) (x0) ds)))))) else ((InR .i64 (v3 + 1)) ∧ (R70_2 n (v3 + 1) (x0) ds))))) else (ds = [Dyn.mk Ty.bool (decide ((↑(List.length x0) : Int) ≤ 8))]))
end
theorem p70_0 (x0 : List TyB1) : Am.runN tab ext70 false 36 [] 2000 [] [] [0, 3] [] [] [.code b70] (entE 0 0 sig70 (x0, ())) (entL sig70 (x0, ())) = some (cutAt b70 2, E70_2 (0) (x0), L70_2 (0) (x0), []) := by kernel_rfl
theorem p70_1 (v3 : Int) (x0 : List TyB1) : runF tab ext70 false 36 [] 2000 [] oks70 kds70 tys70 Tryz.f70.results [true, true, true] (cutAt b70 2) (E70_2 v3 x0) (L70_2 v3 x0) = some ([Dyn.mk Ty.bool false], [], [decide (v3 < (↑(List.length x0) : Int)) = true, 0 ≤ v3, v3 < (↑(List.length x0) : Int), True, (!g110_0 (List.getD x0 (Int.toNat v3) (ByteArray.empty, 0, 0, ()))) = true, true = true]) := by kernel_rfl
theorem p70_2 (v3 : Int) (x0 : List TyB1) : runF tab ext70 false 36 [] 2000 [] oks70 kds70 tys70 Tryz.f70.results [true, false, true, true] (cutAt b70 2) (E70_2 v3 x0) (L70_2 v3 x0) = some ([Dyn.mk Ty.bool false], [], [decide (v3 < (↑(List.length x0) : Int)) = true, 0 ≤ v3, v3 < (↑(List.length x0) : Int), True, (!g110_0 (List.getD x0 (Int.toNat v3) (ByteArray.empty, 0, 0, ()))) = false, decide (v3 > 0) = true, InR .i64 (v3 - 1), 0 ≤ v3 - 1, v3 - 1 < (↑(List.length x0) : Int), 0 ≤ v3, v3 < (↑(List.length x0) : Int), (!Op.bytesLess (ByteArray.toList (List.getD x0 (Int.toNat (v3 - 1)) (ByteArray.empty, 0, 0, ())).1) (ByteArray.toList (List.getD x0 (Int.toNat v3) (ByteArray.empty, 0, 0, ())).1)) = true]) := by kernel_rfl
theorem p70_3 (v3 : Int) (x0 : List TyB1) : Am.runN tab ext70 false 36 [] 2000 [] [] [0, 3] [] [true, false, true, false] (cutAt b70 2) (E70_2 v3 x0) (L70_2 v3 x0) = some (cutAt b70 2, E70_2 (v3 + 1) (x0), L70_2 (v3 + 1) (x0), [decide (v3 < (↑(List.length x0) : Int)) = true, 0 ≤ v3, v3 < (↑(List.length x0) : Int), True, (!g110_0 (List.getD x0 (Int.toNat v3) (ByteArray.empty, 0, 0, ()))) = false, decide (v3 > 0) = true, InR .i64 (v3 - 1), 0 ≤ v3 - 1, v3 - 1 < (↑(List.length x0) : Int), 0 ≤ v3, v3 < (↑(List.length x0) : Int), (!Op.bytesLess (ByteArray.toList (List.getD x0 (Int.toNat (v3 - 1)) (ByteArray.empty, 0, 0, ())).1) (ByteArray.toList (List.getD x0 (Int.toNat v3) (ByteArray.empty, 0, 0, ())).1)) = false, InR .i64 (v3 + 1)]) := by kernel_rfl
theorem p70_4 (v3 : Int) (x0 : List TyB1) : Am.runN tab ext70 false 36 [] 2000 [] [] [0, 3] [] [true, false, false, false] (cutAt b70 2) (E70_2 v3 x0) (L70_2 v3 x0) = some (cutAt b70 2, E70_2 (v3 + 1) (x0), L70_2 (v3 + 1) (x0), [decide (v3 < (↑(List.length x0) : Int)) = true, 0 ≤ v3, v3 < (↑(List.length x0) : Int), True, (!g110_0 (List.getD x0 (Int.toNat v3) (ByteArray.empty, 0, 0, ()))) = false, decide (v3 > 0) = false, false = false, InR .i64 (v3 + 1)]) := by kernel_rfl
theorem p70_5 (v3 : Int) (x0 : List TyB1) : runF tab ext70 false 36 [] 2000 [] oks70 kds70 tys70 Tryz.f70.results [false] (cutAt b70 2) (E70_2 v3 x0) (L70_2 v3 x0) = some ([Dyn.mk Ty.bool (decide ((↑(List.length x0) : Int) ≤ 8))], [], [decide (v3 < (↑(List.length x0) : Int)) = false]) := by kernel_rfl
theorem snd70 : ∀ n, (∀ (x0 : List TyB1) ds, R70 n x0 ds → ∀ K q, AtV Tryz.prog 70 (PostR kds70 oks70 ds [] [] q K) 36 K q [] [.code b70] (entE 0 0 sig70 (x0, ())) (entL sig70 (x0, ()))) ∧ (∀ (v3 : Int) (x0 : List TyB1) ds, R70_2 n v3 x0 ds → ∀ K q, AtV Tryz.prog 70 (PostR kds70 oks70 ds [] [] q K) 36 K q [] (cutAt b70 2) (E70_2 v3 x0) (L70_2 v3 x0)) := by
  intro n
  induction n with
  | zero => exact ⟨fun _ _ h => by simp only [R70] at h, fun _ _ _ h => by simp only [R70_2] at h⟩
  | succ n ih =>
  obtain ⟨ih, ih2⟩ := ih
  refine ⟨?_, ?_⟩
  · intro x0 ds h K q
    rw [R70] at h
    exact AtV.runN tabOk ext70Ok mixed (p70_0 x0) trivial (ih2 _ _ _ h K q)

  · intro v3 x0 ds h K q
    rw [R70_2] at h
    by_cases b0 : (decide (v3 < (↑(List.length x0) : Int))) = true
    · rw [if_pos b0] at h
      obtain ⟨s0, s1, h⟩ := h
      by_cases b1 : (!g110_0 (List.getD x0 (Int.toNat v3) (ByteArray.empty, 0, 0, ()))) = true
      · rw [if_pos b1] at h
        subst h
        exact AtV.fin Tryz.func70 tabOk ext70Ok mixed (p70_1 v3 x0) ⟨b0, s0, s1, trivial, b1, rfl, trivial⟩
      · rw [if_neg b1] at h
        replace b1 := Bool.eq_false_iff.2 b1
        by_cases b2 : (decide (v3 > 0)) = true
        · rw [if_pos b2] at h
          obtain ⟨s2, h⟩ := h
          obtain ⟨s3, s4, h⟩ := h
          obtain ⟨s5, s6, h⟩ := h
          by_cases b3 : (!Op.bytesLess (ByteArray.toList (List.getD x0 (Int.toNat (v3 - 1)) (ByteArray.empty, 0, 0, ())).1) (ByteArray.toList (List.getD x0 (Int.toNat v3) (ByteArray.empty, 0, 0, ())).1)) = true
          · rw [if_pos b3] at h
            subst h
            exact AtV.fin Tryz.func70 tabOk ext70Ok mixed (p70_2 v3 x0) ⟨b0, s0, s1, trivial, b1, b2, s2, s3, s4, s5, s6, b3, trivial⟩
          · rw [if_neg b3] at h
            replace b3 := Bool.eq_false_iff.2 b3
            obtain ⟨s7, h⟩ := h
            exact AtV.runN tabOk ext70Ok mixed (p70_3 v3 x0) ⟨b0, s0, s1, trivial, b1, b2, s2, s3, s4, s5, s6, b3, s7, trivial⟩ (ih2 _ _ _ h K q)
        · rw [if_neg b2] at h
          replace b2 := Bool.eq_false_iff.2 b2
          obtain ⟨s2, h⟩ := h
          exact AtV.runN tabOk ext70Ok mixed (p70_4 v3 x0) ⟨b0, s0, s1, trivial, b1, b2, rfl, s2, trivial⟩ (ih2 _ _ _ h K q)
    · rw [if_neg b0] at h
      replace b0 := Bool.eq_false_iff.2 b0
      subst h
      exact AtV.fin Tryz.func70 tabOk ext70Ok mixed (p70_5 v3 x0) ⟨b0, trivial⟩



def ok70 (x0 : List TyB1) (i : Nat) (x : TyB1) : Bool :=
  g110_0 x && (i == 0 || Op.bytesLess (ByteArray.toList (x0.getD (i - 1) (ByteArray.empty, (0 : Int), (0 : Int), ())).1) (ByteArray.toList x.1))
def g70_0 (x0 : List TyB1) : Bool := allI (ok70 x0) 0 x0 && decide (x0.length ≤ 8)
def P70 (x0 : List TyB1) : Prop := True

theorem step70 (n i : Nat) (x0 : List TyB1) (hm : x0.length ≤ maxLen) (hi : i < x0.length) (ds : List Dyn) :
    (if ok70 x0 i (x0.getD i (ByteArray.empty, (0 : Int), (0 : Int), ())) = true then R70_2 n ((i : Int) + 1) x0 ds else ds = [⟨.bool, false⟩]) → R70_2 (n + 1) (i : Int) x0 ds := by
  intro h
  have hu := inR_up hm hi
  rw [R70_2, if_pos (by simp; omega)]
  refine ⟨by omega, by omega, ?_⟩
  simp only [Int.toNat_natCast]
  unfold ok70 at h
  cases h1 : g110_0 (x0.getD i (ByteArray.empty, (0 : Int), (0 : Int), ())) with
  | false =>
    rw [h1] at h
    rw [if_pos (by rfl)]
    simpa using h
  | true =>
    rw [h1] at h
    rw [if_neg (by simp)]
    by_cases h0 : (i : Int) > 0
    · rw [if_pos (by simpa using h0)]
      have hi0 : (i == 0) = false := by simp; omega
      have e : ((i : Int) - 1).toNat = i - 1 := by omega
      refine ⟨by rw [i64_iff]; have : maxLen ≤ 9223372036854775807 := by decide
                 omega, by omega, by omega, by omega, by omega, ?_⟩
      rw [e]
      by_cases h2 : Op.bytesLess (ByteArray.toList (x0.getD (i - 1) (ByteArray.empty, (0 : Int), (0 : Int), ())).1) (ByteArray.toList (x0.getD i (ByteArray.empty, (0 : Int), (0 : Int), ())).1) = true
      · rw [h2, hi0] at h
        rw [if_neg (by rw [h2]; simp)]
        exact ⟨hu, by simpa using h⟩
      · have h2 := Bool.eq_false_iff.2 h2
        rw [h2, hi0] at h
        rw [if_pos (by rw [h2]; rfl)]
        simpa using h
    · rw [if_neg (by simpa using h0)]
      have hi0 : (i == 0) = true := by simp; omega
      rw [hi0] at h
      exact ⟨hu, by simpa using h⟩

theorem top70 (x0 : List TyB1) (hw : x0.length ≤ maxLen) : R70 (x0.length + 1 + 1) x0 [⟨.bool, g70_0 x0⟩] := by
  rw [R70]
  have key := loop_testI x0 (ByteArray.empty, (0 : Int), (0 : Int), ()) (ok70 x0) [(⟨.bool, false⟩ : Dyn)] [⟨.bool, decide (x0.length ≤ 8)⟩] (fun n i ds => R70_2 n i x0 ds) (fun n => ?_) (fun n i hi hok ds hr => ?_) (fun n i hi hok => ?_)
  · unfold g70_0
    cases h : allI (ok70 x0) 0 x0 with
    | true => rw [if_pos h] at key; simpa using key
    | false => rw [if_neg (by rw [h]; simp)] at key; simpa using key
  · rw [R70_2, if_neg (by simp)]
    have hc : decide ((x0.length : Int) ≤ 8) = decide (x0.length ≤ 8) := by
      congr 1; exact propext ⟨fun h => by omega, fun h => by omega⟩
    rw [hc]
  · exact step70 n i x0 hw hi ds (by rw [if_pos hok]; exact hr)
  · exact step70 n i x0 hw hi _ (by rw [if_neg (by rw [hok]; simp)])

def S70 : Am.Spec := { sig := sig70, pre := fun ⟨x0, _⟩ => P70 x0, res := fun ⟨x0, _⟩ => [⟨Ty.bool, g70_0 x0⟩] }
theorem con70 : Contract Tryz.prog 70 S70 := contract_of Tryz.func70 hb70 (Nat.le_of_ble_eq_true (by kernel_rfl)) (fun ⟨x0, _⟩ h hwf K q =>
  (snd70 _).1 x0 _ (top70 x0 hwf.1.1) K q)

end
end Go.Proofs.YtcakiedjgnhjcaaGreat

/- Function 17 (spec.l32Ok): its runs between cut points. Written by a program of this repo (gen). -/
set_option linter.unusedVariables false
set_option linter.unusedSimpArgs false
set_option maxRecDepth 100000
namespace Go.Proofs.YtcakiedjgnhjcaaGreat
open Go Go.Am Go.Proofs
noncomputable section
def ext17 : Ext := [(59, S59), (60, S60), (61, S61), (62, S62), (63, S63), (64, S64), (65, S65), (66, S66), (67, S67), (68, S68), (69, S69), (70, S70)]
theorem call17_59 : Callable Tryz.prog 59 := ⟨Tryz.f59, Tryz.func59, by kernel_rfl, by kernel_rfl⟩
theorem call17_60 : Callable Tryz.prog 60 := ⟨Tryz.f60, Tryz.func60, by kernel_rfl, by kernel_rfl⟩
theorem call17_61 : Callable Tryz.prog 61 := ⟨Tryz.f61, Tryz.func61, by kernel_rfl, by kernel_rfl⟩
theorem call17_62 : Callable Tryz.prog 62 := ⟨Tryz.f62, Tryz.func62, by kernel_rfl, by kernel_rfl⟩
theorem call17_63 : Callable Tryz.prog 63 := ⟨Tryz.f63, Tryz.func63, by kernel_rfl, by kernel_rfl⟩
theorem call17_64 : Callable Tryz.prog 64 := ⟨Tryz.f64, Tryz.func64, by kernel_rfl, by kernel_rfl⟩
theorem call17_65 : Callable Tryz.prog 65 := ⟨Tryz.f65, Tryz.func65, by kernel_rfl, by kernel_rfl⟩
theorem call17_66 : Callable Tryz.prog 66 := ⟨Tryz.f66, Tryz.func66, by kernel_rfl, by kernel_rfl⟩
theorem call17_67 : Callable Tryz.prog 67 := ⟨Tryz.f67, Tryz.func67, by kernel_rfl, by kernel_rfl⟩
theorem call17_68 : Callable Tryz.prog 68 := ⟨Tryz.f68, Tryz.func68, by kernel_rfl, by kernel_rfl⟩
theorem call17_69 : Callable Tryz.prog 69 := ⟨Tryz.f69, Tryz.func69, by kernel_rfl, by kernel_rfl⟩
theorem call17_70 : Callable Tryz.prog 70 := ⟨Tryz.f70, Tryz.func70, by kernel_rfl, by kernel_rfl⟩
theorem ext17Ok : ExtOk Tryz.prog ext17 := ⟨⟨call17_59, con59⟩, ⟨call17_60, con60⟩, ⟨call17_61, con61⟩, ⟨call17_62, con62⟩, ⟨call17_63, con63⟩, ⟨call17_64, con64⟩, ⟨call17_65, con65⟩, ⟨call17_66, con66⟩, ⟨call17_67, con67⟩, ⟨call17_68, con68⟩, ⟨call17_69, con69⟩, ⟨call17_70, con70⟩, trivial⟩

noncomputable def b17 : Code := bodyOf Tryz.f17
theorem hb17 : Tryz.f17.body = some b17 := by kernel_rfl
def sig17 : List AT := [AT.p (Ty.cons (Ty.sl (Ty.cons Ty.str (Ty.cons (Ty.int .i64) (Ty.cons (Ty.int .i64) (Ty.cons (Ty.int .i64) Ty.unit))))) (Ty.cons (Ty.cons (Ty.int .i64) (Ty.cons (Ty.int .i64) (Ty.cons (Ty.int .i64) (Ty.cons (Ty.int .i64) Ty.unit)))) (Ty.cons (Ty.sl (Ty.cons (Ty.int .i64) (Ty.cons (Ty.int .i64) (Ty.cons (Ty.int .i64) Ty.unit)))) (Ty.cons (Ty.sl (Ty.cons (Ty.int .i64) (Ty.cons (Ty.int .i64) (Ty.cons (Ty.int .i64) Ty.unit)))) (Ty.cons (Ty.cons (Ty.int .i64) (Ty.cons (Ty.int .i64) (Ty.cons (Ty.int .i64) Ty.unit))) (Ty.cons (Ty.cons (Ty.int .i64) (Ty.cons (Ty.int .i64) (Ty.cons (Ty.int .i64) Ty.unit))) (Ty.cons (Ty.sl (Ty.cons Ty.str (Ty.cons (Ty.int .i64) (Ty.cons (Ty.int .i64) Ty.unit)))) (Ty.cons (Ty.cons (Ty.int .i64) (Ty.cons (Ty.int .i64) (Ty.cons (Ty.int .i64) (Ty.cons (Ty.int .i64) Ty.unit)))) (Ty.cons (Ty.sl (Ty.cons Ty.str (Ty.cons (Ty.int .i64) (Ty.cons (Ty.int .i64) (Ty.cons (Ty.int .i64) Ty.unit))))) (Ty.cons (Ty.sl (Ty.cons (Ty.int .i64) (Ty.cons (Ty.int .i64) (Ty.cons (Ty.int .i64) Ty.unit)))) (Ty.cons (Ty.sl (Ty.cons Ty.str (Ty.cons (Ty.int .i64) (Ty.cons (Ty.int .i64) Ty.unit)))) (Ty.cons (Ty.sl (Ty.cons Ty.str (Ty.cons (Ty.int .i64) (Ty.cons (Ty.int .i64) Ty.unit)))) Ty.unit))))))))))))]
def tys17 : List Ty := [Ty.bool]
def kds17 : List RK := []
def oks17 : List AT := owns sig17
def P17 (x0 : TyA0) : Prop := True
def g17_0 (x0 : TyA0) : Bool := (if (g59_0 x0.1) = true then (if (g60_0 x0.2.1) = true then (if (g61_0 x0.2.2.1) = true then (if (g62_0 x0.2.2.2.1) = true then (if (g63_0 x0.2.2.2.2.1) = true then (if (g64_0 x0.2.2.2.2.2.1) = true then (if (g65_0 x0.2.2.2.2.2.2.1) = true then (if (g66_0 x0.2.2.2.2.2.2.2.1) = true then (if (g67_0 x0.2.2.2.2.2.2.2.2.1) = true then (if (g68_0 x0.2.2.2.2.2.2.2.2.2.1) = true then (if (g69_0 x0.2.2.2.2.2.2.2.2.2.2.1) = true then g70_0 x0.2.2.2.2.2.2.2.2.2.2.2.1 else false) else false) else false) else false) else false) else false) else false) else false) else false) else false) else false)
theorem p17_0 (x0 : TyA0) : runF tab ext17 false 81 [] 2000 [] oks17 kds17 tys17 Tryz.f17.results [true, true, true, true, true, true, true, true, true, true, true] [.code b17] (entE 0 0 sig17 (x0, ())) (entL sig17 (x0, ())) = some ([Dyn.mk Ty.bool (g70_0 x0.2.2.2.2.2.2.2.2.2.2.2.1)], [], [True, g59_0 x0.1 = true, True, g60_0 x0.2.1 = true, True, g61_0 x0.2.2.1 = true, True, g62_0 x0.2.2.2.1 = true, True, g63_0 x0.2.2.2.2.1 = true, True, g64_0 x0.2.2.2.2.2.1 = true, True, g65_0 x0.2.2.2.2.2.2.1 = true, True, g66_0 x0.2.2.2.2.2.2.2.1 = true, True, g67_0 x0.2.2.2.2.2.2.2.2.1 = true, True, g68_0 x0.2.2.2.2.2.2.2.2.2.1 = true, True, g69_0 x0.2.2.2.2.2.2.2.2.2.2.1 = true, True]) := by kernel_rfl
theorem p17_1 (x0 : TyA0) : runF tab ext17 false 81 [] 2000 [] oks17 kds17 tys17 Tryz.f17.results [true, true, true, true, true, true, true, true, true, true, false] [.code b17] (entE 0 0 sig17 (x0, ())) (entL sig17 (x0, ())) = some ([Dyn.mk Ty.bool false], [], [True, g59_0 x0.1 = true, True, g60_0 x0.2.1 = true, True, g61_0 x0.2.2.1 = true, True, g62_0 x0.2.2.2.1 = true, True, g63_0 x0.2.2.2.2.1 = true, True, g64_0 x0.2.2.2.2.2.1 = true, True, g65_0 x0.2.2.2.2.2.2.1 = true, True, g66_0 x0.2.2.2.2.2.2.2.1 = true, True, g67_0 x0.2.2.2.2.2.2.2.2.1 = true, True, g68_0 x0.2.2.2.2.2.2.2.2.2.1 = true, True, g69_0 x0.2.2.2.2.2.2.2.2.2.2.1 = false]) := by kernel_rfl
theorem p17_2 (x0 : TyA0) : runF tab ext17 false 81 [] 2000 [] oks17 kds17 tys17 Tryz.f17.results [true, true, true, true, true, true, true, true, true, false, false] [.code b17] (entE 0 0 sig17 (x0, ())) (entL sig17 (x0, ())) = some ([Dyn.mk Ty.bool false], [], [True, g59_0 x0.1 = true, True, g60_0 x0.2.1 = true, True, g61_0 x0.2.2.1 = true, True, g62_0 x0.2.2.2.1 = true, True, g63_0 x0.2.2.2.2.1 = true, True, g64_0 x0.2.2.2.2.2.1 = true, True, g65_0 x0.2.2.2.2.2.2.1 = true, True, g66_0 x0.2.2.2.2.2.2.2.1 = true, True, g67_0 x0.2.2.2.2.2.2.2.2.1 = true, True, g68_0 x0.2.2.2.2.2.2.2.2.2.1 = false, false = false]) := by kernel_rfl
theorem p17_3 (x0 : TyA0) : runF tab ext17 false 81 [] 2000 [] oks17 kds17 tys17 Tryz.f17.results [true, true, true, true, true, true, true, true, false, false, false] [.code b17] (entE 0 0 sig17 (x0, ())) (entL sig17 (x0, ())) = some ([Dyn.mk Ty.bool false], [], [True, g59_0 x0.1 = true, True, g60_0 x0.2.1 = true, True, g61_0 x0.2.2.1 = true, True, g62_0 x0.2.2.2.1 = true, True, g63_0 x0.2.2.2.2.1 = true, True, g64_0 x0.2.2.2.2.2.1 = true, True, g65_0 x0.2.2.2.2.2.2.1 = true, True, g66_0 x0.2.2.2.2.2.2.2.1 = true, True, g67_0 x0.2.2.2.2.2.2.2.2.1 = false, false = false, false = false]) := by kernel_rfl
theorem p17_4 (x0 : TyA0) : runF tab ext17 false 81 [] 2000 [] oks17 kds17 tys17 Tryz.f17.results [true, true, true, true, true, true, true, false, false, false, false] [.code b17] (entE 0 0 sig17 (x0, ())) (entL sig17 (x0, ())) = some ([Dyn.mk Ty.bool false], [], [True, g59_0 x0.1 = true, True, g60_0 x0.2.1 = true, True, g61_0 x0.2.2.1 = true, True, g62_0 x0.2.2.2.1 = true, True, g63_0 x0.2.2.2.2.1 = true, True, g64_0 x0.2.2.2.2.2.1 = true, True, g65_0 x0.2.2.2.2.2.2.1 = true, True, g66_0 x0.2.2.2.2.2.2.2.1 = false, false = false, false = false, false = false]) := by kernel_rfl
theorem p17_5 (x0 : TyA0) : runF tab ext17 false 81 [] 2000 [] oks17 kds17 tys17 Tryz.f17.results [true, true, true, true, true, true, false, false, false, false, false] [.code b17] (entE 0 0 sig17 (x0, ())) (entL sig17 (x0, ())) = some ([Dyn.mk Ty.bool false], [], [True, g59_0 x0.1 = true, True, g60_0 x0.2.1 = true, True, g61_0 x0.2.2.1 = true, True, g62_0 x0.2.2.2.1 = true, True, g63_0 x0.2.2.2.2.1 = true, True, g64_0 x0.2.2.2.2.2.1 = true, True, g65_0 x0.2.2.2.2.2.2.1 = false, false = false, false = false, false = false, false = false]) := by kernel_rfl
theorem p17_6 (x0 : TyA0) : runF tab ext17 false 81 [] 2000 [] oks17 kds17 tys17 Tryz.f17.results [true, true, true, true, true, false, false, false, false, false, false] [.code b17] (entE 0 0 sig17 (x0, ())) (entL sig17 (x0, ())) = some ([Dyn.mk Ty.bool false], [], [True, g59_0 x0.1 = true, True, g60_0 x0.2.1 = true, True, g61_0 x0.2.2.1 = true, True, g62_0 x0.2.2.2.1 = true, True, g63_0 x0.2.2.2.2.1 = true, True, g64_0 x0.2.2.2.2.2.1 = false, false = false, false = false, false = false, false = false, false = false]) := by kernel_rfl
theorem p17_7 (x0 : TyA0) : runF tab ext17 false 81 [] 2000 [] oks17 kds17 tys17 Tryz.f17.results [true, true, true, true, false, false, false, false, false, false, false] [.code b17] (entE 0 0 sig17 (x0, ())) (entL sig17 (x0, ())) = some ([Dyn.mk Ty.bool false], [], [True, g59_0 x0.1 = true, True, g60_0 x0.2.1 = true, True, g61_0 x0.2.2.1 = true, True, g62_0 x0.2.2.2.1 = true, True, g63_0 x0.2.2.2.2.1 = false, false = false, false = false, false = false, false = false, false = false, false = false]) := by kernel_rfl
theorem p17_8 (x0 : TyA0) : runF tab ext17 false 81 [] 2000 [] oks17 kds17 tys17 Tryz.f17.results [true, true, true, false, false, false, false, false, false, false, false] [.code b17] (entE 0 0 sig17 (x0, ())) (entL sig17 (x0, ())) = some ([Dyn.mk Ty.bool false], [], [True, g59_0 x0.1 = true, True, g60_0 x0.2.1 = true, True, g61_0 x0.2.2.1 = true, True, g62_0 x0.2.2.2.1 = false, false = false, false = false, false = false, false = false, false = false, false = false, false = false]) := by kernel_rfl
theorem p17_9 (x0 : TyA0) : runF tab ext17 false 81 [] 2000 [] oks17 kds17 tys17 Tryz.f17.results [true, true, false, false, false, false, false, false, false, false, false] [.code b17] (entE 0 0 sig17 (x0, ())) (entL sig17 (x0, ())) = some ([Dyn.mk Ty.bool false], [], [True, g59_0 x0.1 = true, True, g60_0 x0.2.1 = true, True, g61_0 x0.2.2.1 = false, false = false, false = false, false = false, false = false, false = false, false = false, false = false, false = false]) := by kernel_rfl
theorem p17_10 (x0 : TyA0) : runF tab ext17 false 81 [] 2000 [] oks17 kds17 tys17 Tryz.f17.results [true, false, false, false, false, false, false, false, false, false, false] [.code b17] (entE 0 0 sig17 (x0, ())) (entL sig17 (x0, ())) = some ([Dyn.mk Ty.bool false], [], [True, g59_0 x0.1 = true, True, g60_0 x0.2.1 = false, false = false, false = false, false = false, false = false, false = false, false = false, false = false, false = false, false = false]) := by kernel_rfl
theorem p17_11 (x0 : TyA0) : runF tab ext17 false 81 [] 2000 [] oks17 kds17 tys17 Tryz.f17.results [false, false, false, false, false, false, false, false, false, false, false] [.code b17] (entE 0 0 sig17 (x0, ())) (entL sig17 (x0, ())) = some ([Dyn.mk Ty.bool false], [], [True, g59_0 x0.1 = false, false = false, false = false, false = false, false = false, false = false, false = false, false = false, false = false, false = false, false = false]) := by kernel_rfl
theorem at17 (x0 : TyA0) (h : P17 x0) (K : Ctx) (q : Nat → Value) : AtV Tryz.prog 17 (PostR kds17 oks17 [⟨Ty.bool, g17_0 x0⟩] [] [] q K) 81 K q [] [.code b17] (entE 0 0 sig17 (x0, ())) (entL sig17 (x0, ())) := by
  unfold P17 at h
  unfold g17_0
  by_cases b0 : (g59_0 x0.1) = true
  · try simp only [if_pos b0] at h ⊢
    by_cases b1 : (g60_0 x0.2.1) = true
    · try simp only [if_pos b1] at h ⊢
      by_cases b2 : (g61_0 x0.2.2.1) = true
      · try simp only [if_pos b2] at h ⊢
        by_cases b3 : (g62_0 x0.2.2.2.1) = true
        · try simp only [if_pos b3] at h ⊢
          by_cases b4 : (g63_0 x0.2.2.2.2.1) = true
          · try simp only [if_pos b4] at h ⊢
            by_cases b5 : (g64_0 x0.2.2.2.2.2.1) = true
            · try simp only [if_pos b5] at h ⊢
              by_cases b6 : (g65_0 x0.2.2.2.2.2.2.1) = true
              · try simp only [if_pos b6] at h ⊢
                by_cases b7 : (g66_0 x0.2.2.2.2.2.2.2.1) = true
                · try simp only [if_pos b7] at h ⊢
                  by_cases b8 : (g67_0 x0.2.2.2.2.2.2.2.2.1) = true
                  · try simp only [if_pos b8] at h ⊢
                    by_cases b9 : (g68_0 x0.2.2.2.2.2.2.2.2.2.1) = true
                    · try simp only [if_pos b9] at h ⊢
                      by_cases b10 : (g69_0 x0.2.2.2.2.2.2.2.2.2.2.1) = true
                      · try simp only [if_pos b10] at h ⊢
                        exact AtV.fin Tryz.func17 tabOk ext17Ok mixed (p17_0 x0) ⟨trivial, b0, trivial, b1, trivial, b2, trivial, b3, trivial, b4, trivial, b5, trivial, b6, trivial, b7, trivial, b8, trivial, b9, trivial, b10, trivial, trivial⟩
                      · try simp only [if_neg b10] at h ⊢
                        replace b10 := Bool.eq_false_iff.2 b10
                        exact AtV.fin Tryz.func17 tabOk ext17Ok mixed (p17_1 x0) ⟨trivial, b0, trivial, b1, trivial, b2, trivial, b3, trivial, b4, trivial, b5, trivial, b6, trivial, b7, trivial, b8, trivial, b9, trivial, b10, trivial⟩
                    · try simp only [if_neg b9] at h ⊢
                      replace b9 := Bool.eq_false_iff.2 b9
                      exact AtV.fin Tryz.func17 tabOk ext17Ok mixed (p17_2 x0) ⟨trivial, b0, trivial, b1, trivial, b2, trivial, b3, trivial, b4, trivial, b5, trivial, b6, trivial, b7, trivial, b8, trivial, b9, rfl, trivial⟩
                  · try simp only [if_neg b8] at h ⊢
                    replace b8 := Bool.eq_false_iff.2 b8
                    exact AtV.fin Tryz.func17 tabOk ext17Ok mixed (p17_3 x0) ⟨trivial, b0, trivial, b1, trivial, b2, trivial, b3, trivial, b4, trivial, b5, trivial, b6, trivial, b7, trivial, b8, rfl, rfl, trivial⟩
                · try simp only [if_neg b7] at h ⊢
                  replace b7 := Bool.eq_false_iff.2 b7
                  exact AtV.fin Tryz.func17 tabOk ext17Ok mixed (p17_4 x0) ⟨trivial, b0, trivial, b1, trivial, b2, trivial, b3, trivial, b4, trivial, b5, trivial, b6, trivial, b7, rfl, rfl, rfl, trivial⟩
              · try simp only [if_neg b6] at h ⊢
                replace b6 := Bool.eq_false_iff.2 b6
                exact AtV.fin Tryz.func17 tabOk ext17Ok mixed (p17_5 x0) ⟨trivial, b0, trivial, b1, trivial, b2, trivial, b3, trivial, b4, trivial, b5, trivial, b6, rfl, rfl, rfl, rfl, trivial⟩
            · try simp only [if_neg b5] at h ⊢
              replace b5 := Bool.eq_false_iff.2 b5
              exact AtV.fin Tryz.func17 tabOk ext17Ok mixed (p17_6 x0) ⟨trivial, b0, trivial, b1, trivial, b2, trivial, b3, trivial, b4, trivial, b5, rfl, rfl, rfl, rfl, rfl, trivial⟩
          · try simp only [if_neg b4] at h ⊢
            replace b4 := Bool.eq_false_iff.2 b4
            exact AtV.fin Tryz.func17 tabOk ext17Ok mixed (p17_7 x0) ⟨trivial, b0, trivial, b1, trivial, b2, trivial, b3, trivial, b4, rfl, rfl, rfl, rfl, rfl, rfl, trivial⟩
        · try simp only [if_neg b3] at h ⊢
          replace b3 := Bool.eq_false_iff.2 b3
          exact AtV.fin Tryz.func17 tabOk ext17Ok mixed (p17_8 x0) ⟨trivial, b0, trivial, b1, trivial, b2, trivial, b3, rfl, rfl, rfl, rfl, rfl, rfl, rfl, trivial⟩
      · try simp only [if_neg b2] at h ⊢
        replace b2 := Bool.eq_false_iff.2 b2
        exact AtV.fin Tryz.func17 tabOk ext17Ok mixed (p17_9 x0) ⟨trivial, b0, trivial, b1, trivial, b2, rfl, rfl, rfl, rfl, rfl, rfl, rfl, rfl, trivial⟩
    · try simp only [if_neg b1] at h ⊢
      replace b1 := Bool.eq_false_iff.2 b1
      exact AtV.fin Tryz.func17 tabOk ext17Ok mixed (p17_10 x0) ⟨trivial, b0, trivial, b1, rfl, rfl, rfl, rfl, rfl, rfl, rfl, rfl, rfl, trivial⟩
  · try simp only [if_neg b0] at h ⊢
    replace b0 := Bool.eq_false_iff.2 b0
    exact AtV.fin Tryz.func17 tabOk ext17Ok mixed (p17_11 x0) ⟨trivial, b0, rfl, rfl, rfl, rfl, rfl, rfl, rfl, rfl, rfl, rfl, trivial⟩

def S17 : Am.Spec := { sig := sig17, pre := fun ⟨x0, _⟩ => P17 x0, res := fun ⟨x0, _⟩ => [⟨Ty.bool, g17_0 x0⟩], kds := kds17 }
theorem con17 : Contract Tryz.prog 17 S17 := contract_of Tryz.func17 hb17 (Nat.le_of_ble_eq_true (by kernel_rfl)) (fun ⟨x0, _⟩ h _ K q => at17 x0 h K q)


end
end Go.Proofs.YtcakiedjgnhjcaaGreat

/- Function 5 (spec.ValidDesk): its runs between cut points. Written by a program of this repo (gen). -/
set_option linter.unusedVariables false
set_option linter.unusedSimpArgs false
set_option maxRecDepth 100000
namespace Go.Proofs.YtcakiedjgnhjcaaGreat
open Go Go.Am Go.Proofs
noncomputable section
def ext5 : Ext := [(17, S17)]
theorem call5_17 : Callable Tryz.prog 17 := ⟨Tryz.f17, Tryz.func17, by kernel_rfl, by kernel_rfl⟩
theorem ext5Ok : ExtOk Tryz.prog ext5 := ⟨⟨call5_17, con17⟩, trivial⟩

noncomputable def b5 : Code := bodyOf Tryz.f5
theorem hb5 : Tryz.f5.body = some b5 := by kernel_rfl
def sig5 : List AT := [AT.v (Ty.cons (Ty.sl (Ty.cons Ty.str (Ty.cons (Ty.int .i64) (Ty.cons (Ty.int .i64) (Ty.cons (Ty.int .i64) Ty.unit))))) (Ty.cons (Ty.cons (Ty.int .i64) (Ty.cons (Ty.int .i64) (Ty.cons (Ty.int .i64) (Ty.cons (Ty.int .i64) Ty.unit)))) (Ty.cons (Ty.sl (Ty.cons (Ty.int .i64) (Ty.cons (Ty.int .i64) (Ty.cons (Ty.int .i64) Ty.unit)))) (Ty.cons (Ty.sl (Ty.cons (Ty.int .i64) (Ty.cons (Ty.int .i64) (Ty.cons (Ty.int .i64) Ty.unit)))) (Ty.cons (Ty.cons (Ty.int .i64) (Ty.cons (Ty.int .i64) (Ty.cons (Ty.int .i64) Ty.unit))) (Ty.cons (Ty.cons (Ty.int .i64) (Ty.cons (Ty.int .i64) (Ty.cons (Ty.int .i64) Ty.unit))) (Ty.cons (Ty.sl (Ty.cons Ty.str (Ty.cons (Ty.int .i64) (Ty.cons (Ty.int .i64) Ty.unit)))) (Ty.cons (Ty.cons (Ty.int .i64) (Ty.cons (Ty.int .i64) (Ty.cons (Ty.int .i64) (Ty.cons (Ty.int .i64) Ty.unit)))) (Ty.cons (Ty.sl (Ty.cons Ty.str (Ty.cons (Ty.int .i64) (Ty.cons (Ty.int .i64) (Ty.cons (Ty.int .i64) Ty.unit))))) (Ty.cons (Ty.sl (Ty.cons (Ty.int .i64) (Ty.cons (Ty.int .i64) (Ty.cons (Ty.int .i64) Ty.unit)))) (Ty.cons (Ty.sl (Ty.cons Ty.str (Ty.cons (Ty.int .i64) (Ty.cons (Ty.int .i64) Ty.unit)))) (Ty.cons (Ty.sl (Ty.cons Ty.str (Ty.cons (Ty.int .i64) (Ty.cons (Ty.int .i64) Ty.unit)))) Ty.unit))))))))))))]
def tys5 : List Ty := [Ty.bool]
def kds5 : List RK := []
def oks5 : List AT := owns sig5
def P5 (x0 : TyA0) : Prop := True
def g5_0 (x0 : TyA0) : Bool := g17_0 x0
theorem p5_0 (x0 : TyA0) : runF tab ext5 false 4 [] 2000 [] oks5 kds5 tys5 Tryz.f5.results [] [.code b5] (entE 0 0 sig5 (x0, ())) (entL sig5 (x0, ())) = some ([Dyn.mk Ty.bool (g17_0 x0)], [], [True]) := by kernel_rfl
theorem at5 (x0 : TyA0) (h : P5 x0) (K : Ctx) (q : Nat → Value) : AtV Tryz.prog 5 (PostR kds5 oks5 [⟨Ty.bool, g5_0 x0⟩] [] [] q K) 4 K q [] [.code b5] (entE 0 0 sig5 (x0, ())) (entL sig5 (x0, ())) := by
  unfold P5 at h
  unfold g5_0
  exact AtV.fin Tryz.func5 tabOk ext5Ok mixed (p5_0 x0) ⟨trivial, trivial⟩

def S5 : Am.Spec := { sig := sig5, pre := fun ⟨x0, _⟩ => P5 x0, res := fun ⟨x0, _⟩ => [⟨Ty.bool, g5_0 x0⟩], kds := kds5 }
theorem con5 : Contract Tryz.prog 5 S5 := contract_of Tryz.func5 hb5 (Nat.le_of_ble_eq_true (by kernel_rfl)) (fun ⟨x0, _⟩ h _ K q => at5 x0 h K q)


end
end Go.Proofs.YtcakiedjgnhjcaaGreat

/- Function 111 (impl.IsName): its runs between cut points. Written by a program of this repo (gen). -/
set_option linter.unusedVariables false
set_option linter.unusedSimpArgs false
set_option maxRecDepth 100000
namespace Go.Proofs.YtcakiedjgnhjcaaGreat
open Go Go.Am Go.Proofs
noncomputable section
def ext111 : Ext := []
theorem ext111Ok : ExtOk Tryz.prog ext111 := trivial

noncomputable def b111 : Code := bodyOf Tryz.f111
theorem hb111 : Tryz.f111.body = some b111 := by kernel_rfl
def sig111 : List AT := [AT.v (Ty.str)]
def tys111 : List Ty := [Ty.bool]
def kds111 : List RK := []
def oks111 : List AT := owns sig111
def E111_4 (v18 : Int) (x0 : ByteArray) : Env := [(16, PV.a (Atom.osl 0 Option.none)), (17, PV.a (Atom.val (Value.int .i64 (↑(List.length (bytesOf x0)) : Int)))), (18, PV.a (Atom.val (Value.int .i64 v18)))]
def L111_4 (v18 : Int) (x0 : ByteArray) : Heap := [Option.some (Arr.mk (Ty.int .u8) (bytesOf x0) false Option.none Option.none)]
mutual
def R111 : Nat → ByteArray → List Dyn → Prop
  | 0, _, _ => False
  | n + 1, x0, ds => (if (decide ((↑(ByteArray.size x0) : Int) < 1)) = true then (ds = [Dyn.mk Ty.bool false]) else (if (decide ((↑(ByteArray.size x0) : Int) > 10)) = true then (ds = [Dyn.mk Ty.bool false]) else (R111_4 n (0) (x0) ds)))
def R111_4 : Nat → Int → ByteArray → List Dyn → Prop
  | 0, _, _, _ => False
  | n + 1, v18, x0, ds => (if (decide (v18 < (↑(List.length (bytesOf x0)) : Int))) = true then ((0 ≤ v18) ∧ (v18 < (↑(List.length (bytesOf x0)) : Int)) ∧ (if (decide (List.getD (bytesOf x0) (Int.toNat v18) 0 ≥ 97)) = true then (if (decide (List.getD (bytesOf x0) (Int.toNat v18) 0 ≥ 48)) = true then (if (!decide (List.getD (bytesOf x0) (Int.toNat v18) 0 ≤ 122)) = true then (if (v18 == 0) = true then (ds = [Dyn.mk Ty.bool false]) else (if (!decide (List.getD (bytesOf x0) (Int.toNat v18) 0 ≤ 57)) = true then (ds = [Dyn.mk Ty.bool false]) else ((InR .i64 (v18 + 1)) ∧ (R111_4 n (v18 + 1) (x0) ds)))) else ((InR .i64 (v18 + 1)) ∧ (R111_4 n (v18 + 1) (x0) ds))) else (if (!decide (List.getD (bytesOf x0) (Int.toNat v18) 0 ≤ 122)) = true then (if (v18 == 0) = true then (ds = [Dyn.mk Ty.bool false]) else (ds = [Dyn.mk Ty.bool false])) else ((InR .i64 (v18 + 1)) ∧ (R111_4 n (v18 + 1) (x0) ds)))) else (if (decide (List.getD (bytesOf x0) (Int.toNat v18) 0 ≥ 48)) = true then (if (v18 == 0) = true then (ds = [Dyn.mk Ty.bool false]) else (if (!decide (List.getD (bytesOf x0) (Int.toNat v18) 0 ≤ 57)) = true then (ds = [Dyn.mk Ty.bool false]) else ((InR .i64 (v18 + 1)) ∧ (R111_4 n (v18 + 1) (x0) ds)))) else (if (v18 == 0) = true then (ds = [Dyn.mk Ty.bool false]) else (ds = [Dyn.mk Ty.bool false]))))) else (ds = [Dyn.mk Ty.bool true]))
end
theorem p111_0 (x0 : ByteArray) : runF tab ext111 false 46 [] 2000 [] oks111 kds111 tys111 Tryz.f111.results [true, true] [.code b111] (entE 0 0 sig111 (x0, ())) (entL sig111 (x0, ())) = some ([Dyn.mk Ty.bool false], [], [decide ((↑(ByteArray.size x0) : Int) < 1) = true, true = true]) := by kernel_rfl
theorem p111_1 (x0 : ByteArray) : runF tab ext111 false 46 [] 2000 [] oks111 kds111 tys111 Tryz.f111.results [false, true] [.code b111] (entE 0 0 sig111 (x0, ())) (entL sig111 (x0, ())) = some ([Dyn.mk Ty.bool false], [], [decide ((↑(ByteArray.size x0) : Int) < 1) = false, decide ((↑(ByteArray.size x0) : Int) > 10) = true]) := by kernel_rfl
theorem p111_2 (x0 : ByteArray) : Am.runN tab ext111 false 46 [] 2000 [] [] [16, 17, 18] [0] [false, false] [.code b111] (entE 0 0 sig111 (x0, ())) (entL sig111 (x0, ())) = some (cutAt b111 4, E111_4 (0) (x0), L111_4 (0) (x0), [decide ((↑(ByteArray.size x0) : Int) < 1) = false, decide ((↑(ByteArray.size x0) : Int) > 10) = false]) := by kernel_rfl
theorem p111_3 (v18 : Int) (x0 : ByteArray) : runF tab ext111 false 46 [] 2000 [] oks111 kds111 tys111 Tryz.f111.results [true, true, true, true, true, true] (cutAt b111 4) (E111_4 v18 x0) (L111_4 v18 x0) = some ([Dyn.mk Ty.bool false], [], [decide (v18 < (↑(List.length (bytesOf x0)) : Int)) = true, 0 ≤ v18, v18 < (↑(List.length (bytesOf x0)) : Int), decide (List.getD (bytesOf x0) (Int.toNat v18) 0 ≥ 97) = true, decide (List.getD (bytesOf x0) (Int.toNat v18) 0 ≥ 48) = true, (!decide (List.getD (bytesOf x0) (Int.toNat v18) 0 ≤ 122)) = true, (v18 == 0) = true, true = true]) := by kernel_rfl
theorem p111_4 (v18 : Int) (x0 : ByteArray) : runF tab ext111 false 46 [] 2000 [] oks111 kds111 tys111 Tryz.f111.results [true, true, true, true, false, true] (cutAt b111 4) (E111_4 v18 x0) (L111_4 v18 x0) = some ([Dyn.mk Ty.bool false], [], [decide (v18 < (↑(List.length (bytesOf x0)) : Int)) = true, 0 ≤ v18, v18 < (↑(List.length (bytesOf x0)) : Int), decide (List.getD (bytesOf x0) (Int.toNat v18) 0 ≥ 97) = true, decide (List.getD (bytesOf x0) (Int.toNat v18) 0 ≥ 48) = true, (!decide (List.getD (bytesOf x0) (Int.toNat v18) 0 ≤ 122)) = true, (v18 == 0) = false, (!decide (List.getD (bytesOf x0) (Int.toNat v18) 0 ≤ 57)) = true]) := by kernel_rfl
theorem p111_5 (v18 : Int) (x0 : ByteArray) : Am.runN tab ext111 false 46 [] 2000 [] [] [16, 17, 18] [0] [true, true, true, true, false, false] (cutAt b111 4) (E111_4 v18 x0) (L111_4 v18 x0) = some (cutAt b111 4, E111_4 (v18 + 1) (x0), L111_4 (v18 + 1) (x0), [decide (v18 < (↑(List.length (bytesOf x0)) : Int)) = true, 0 ≤ v18, v18 < (↑(List.length (bytesOf x0)) : Int), decide (List.getD (bytesOf x0) (Int.toNat v18) 0 ≥ 97) = true, decide (List.getD (bytesOf x0) (Int.toNat v18) 0 ≥ 48) = true, (!decide (List.getD (bytesOf x0) (Int.toNat v18) 0 ≤ 122)) = true, (v18 == 0) = false, (!decide (List.getD (bytesOf x0) (Int.toNat v18) 0 ≤ 57)) = false, InR .i64 (v18 + 1)]) := by kernel_rfl
theorem p111_6 (v18 : Int) (x0 : ByteArray) : Am.runN tab ext111 false 46 [] 2000 [] [] [16, 17, 18] [0] [true, true, true, false, false] (cutAt b111 4) (E111_4 v18 x0) (L111_4 v18 x0) = some (cutAt b111 4, E111_4 (v18 + 1) (x0), L111_4 (v18 + 1) (x0), [decide (v18 < (↑(List.length (bytesOf x0)) : Int)) = true, 0 ≤ v18, v18 < (↑(List.length (bytesOf x0)) : Int), decide (List.getD (bytesOf x0) (Int.toNat v18) 0 ≥ 97) = true, decide (List.getD (bytesOf x0) (Int.toNat v18) 0 ≥ 48) = true, (!decide (List.getD (bytesOf x0) (Int.toNat v18) 0 ≤ 122)) = false, false = false, InR .i64 (v18 + 1)]) := by kernel_rfl
theorem p111_7 (v18 : Int) (x0 : ByteArray) : runF tab ext111 false 46 [] 2000 [] oks111 kds111 tys111 Tryz.f111.results [true, true, false, true, true, true] (cutAt b111 4) (E111_4 v18 x0) (L111_4 v18 x0) = some ([Dyn.mk Ty.bool false], [], [decide (v18 < (↑(List.length (bytesOf x0)) : Int)) = true, 0 ≤ v18, v18 < (↑(List.length (bytesOf x0)) : Int), decide (List.getD (bytesOf x0) (Int.toNat v18) 0 ≥ 97) = true, decide (List.getD (bytesOf x0) (Int.toNat v18) 0 ≥ 48) = false, (!decide (List.getD (bytesOf x0) (Int.toNat v18) 0 ≤ 122)) = true, (v18 == 0) = true, true = true]) := by kernel_rfl
theorem p111_8 (v18 : Int) (x0 : ByteArray) : runF tab ext111 false 46 [] 2000 [] oks111 kds111 tys111 Tryz.f111.results [true, true, false, true, false, true] (cutAt b111 4) (E111_4 v18 x0) (L111_4 v18 x0) = some ([Dyn.mk Ty.bool false], [], [decide (v18 < (↑(List.length (bytesOf x0)) : Int)) = true, 0 ≤ v18, v18 < (↑(List.length (bytesOf x0)) : Int), decide (List.getD (bytesOf x0) (Int.toNat v18) 0 ≥ 97) = true, decide (List.getD (bytesOf x0) (Int.toNat v18) 0 ≥ 48) = false, (!decide (List.getD (bytesOf x0) (Int.toNat v18) 0 ≤ 122)) = true, (v18 == 0) = false, true = true]) := by kernel_rfl
theorem p111_9 (v18 : Int) (x0 : ByteArray) : Am.runN tab ext111 false 46 [] 2000 [] [] [16, 17, 18] [0] [true, true, false, false, false] (cutAt b111 4) (E111_4 v18 x0) (L111_4 v18 x0) = some (cutAt b111 4, E111_4 (v18 + 1) (x0), L111_4 (v18 + 1) (x0), [decide (v18 < (↑(List.length (bytesOf x0)) : Int)) = true, 0 ≤ v18, v18 < (↑(List.length (bytesOf x0)) : Int), decide (List.getD (bytesOf x0) (Int.toNat v18) 0 ≥ 97) = true, decide (List.getD (bytesOf x0) (Int.toNat v18) 0 ≥ 48) = false, (!decide (List.getD (bytesOf x0) (Int.toNat v18) 0 ≤ 122)) = false, false = false, InR .i64 (v18 + 1)]) := by kernel_rfl
theorem p111_10 (v18 : Int) (x0 : ByteArray) : runF tab ext111 false 46 [] 2000 [] oks111 kds111 tys111 Tryz.f111.results [true, false, true, true, true, true] (cutAt b111 4) (E111_4 v18 x0) (L111_4 v18 x0) = some ([Dyn.mk Ty.bool false], [], [decide (v18 < (↑(List.length (bytesOf x0)) : Int)) = true, 0 ≤ v18, v18 < (↑(List.length (bytesOf x0)) : Int), decide (List.getD (bytesOf x0) (Int.toNat v18) 0 ≥ 97) = false, decide (List.getD (bytesOf x0) (Int.toNat v18) 0 ≥ 48) = true, true = true, (v18 == 0) = true, true = true]) := by kernel_rfl
theorem p111_11 (v18 : Int) (x0 : ByteArray) : runF tab ext111 false 46 [] 2000 [] oks111 kds111 tys111 Tryz.f111.results [true, false, true, true, false, true] (cutAt b111 4) (E111_4 v18 x0) (L111_4 v18 x0) = some ([Dyn.mk Ty.bool false], [], [decide (v18 < (↑(List.length (bytesOf x0)) : Int)) = true, 0 ≤ v18, v18 < (↑(List.length (bytesOf x0)) : Int), decide (List.getD (bytesOf x0) (Int.toNat v18) 0 ≥ 97) = false, decide (List.getD (bytesOf x0) (Int.toNat v18) 0 ≥ 48) = true, true = true, (v18 == 0) = false, (!decide (List.getD (bytesOf x0) (Int.toNat v18) 0 ≤ 57)) = true]) := by kernel_rfl
theorem p111_12 (v18 : Int) (x0 : ByteArray) : Am.runN tab ext111 false 46 [] 2000 [] [] [16, 17, 18] [0] [true, false, true, true, false, false] (cutAt b111 4) (E111_4 v18 x0) (L111_4 v18 x0) = some (cutAt b111 4, E111_4 (v18 + 1) (x0), L111_4 (v18 + 1) (x0), [decide (v18 < (↑(List.length (bytesOf x0)) : Int)) = true, 0 ≤ v18, v18 < (↑(List.length (bytesOf x0)) : Int), decide (List.getD (bytesOf x0) (Int.toNat v18) 0 ≥ 97) = false, decide (List.getD (bytesOf x0) (Int.toNat v18) 0 ≥ 48) = true, true = true, (v18 == 0) = false, (!decide (List.getD (bytesOf x0) (Int.toNat v18) 0 ≤ 57)) = false, InR .i64 (v18 + 1)]) := by kernel_rfl
theorem p111_13 (v18 : Int) (x0 : ByteArray) : runF tab ext111 false 46 [] 2000 [] oks111 kds111 tys111 Tryz.f111.results [true, false, false, true, true, true] (cutAt b111 4) (E111_4 v18 x0) (L111_4 v18 x0) = some ([Dyn.mk Ty.bool false], [], [decide (v18 < (↑(List.length (bytesOf x0)) : Int)) = true, 0 ≤ v18, v18 < (↑(List.length (bytesOf x0)) : Int), decide (List.getD (bytesOf x0) (Int.toNat v18) 0 ≥ 97) = false, decide (List.getD (bytesOf x0) (Int.toNat v18) 0 ≥ 48) = false, true = true, (v18 == 0) = true, true = true]) := by kernel_rfl
theorem p111_14 (v18 : Int) (x0 : ByteArray) : runF tab ext111 false 46 [] 2000 [] oks111 kds111 tys111 Tryz.f111.results [true, false, false, true, false, true] (cutAt b111 4) (E111_4 v18 x0) (L111_4 v18 x0) = some ([Dyn.mk Ty.bool false], [], [decide (v18 < (↑(List.length (bytesOf x0)) : Int)) = true, 0 ≤ v18, v18 < (↑(List.length (bytesOf x0)) : Int), decide (List.getD (bytesOf x0) (Int.toNat v18) 0 ≥ 97) = false, decide (List.getD (bytesOf x0) (Int.toNat v18) 0 ≥ 48) = false, true = true, (v18 == 0) = false, true = true]) := by kernel_rfl
theorem p111_15 (v18 : Int) (x0 : ByteArray) : runF tab ext111 false 46 [] 2000 [] oks111 kds111 tys111 Tryz.f111.results [false] (cutAt b111 4) (E111_4 v18 x0) (L111_4 v18 x0) = some ([Dyn.mk Ty.bool true], [], [decide (v18 < (↑(List.length (bytesOf x0)) : Int)) = false]) := by kernel_rfl
theorem snd111 : ∀ n, (∀ (x0 : ByteArray) ds, R111 n x0 ds → ∀ K q, AtV Tryz.prog 111 (PostR kds111 oks111 ds [] [] q K) 46 K q [] [.code b111] (entE 0 0 sig111 (x0, ())) (entL sig111 (x0, ()))) ∧ (∀ (v18 : Int) (x0 : ByteArray) ds, R111_4 n v18 x0 ds → ∀ K q, AtV Tryz.prog 111 (PostR kds111 oks111 ds [] [] q K) 46 K q [] (cutAt b111 4) (E111_4 v18 x0) (L111_4 v18 x0)) := by
  intro n
  induction n with
  | zero => exact ⟨fun _ _ h => by simp only [R111] at h, fun _ _ _ h => by simp only [R111_4] at h⟩
  | succ n ih =>
  obtain ⟨ih, ih4⟩ := ih
  refine ⟨?_, ?_⟩
  · intro x0 ds h K q
    rw [R111] at h
    by_cases b0 : (decide ((↑(ByteArray.size x0) : Int) < 1)) = true
    · rw [if_pos b0] at h
      subst h
      exact AtV.fin Tryz.func111 tabOk ext111Ok mixed (p111_0 x0) ⟨b0, rfl, trivial⟩
    · rw [if_neg b0] at h
      replace b0 := Bool.eq_false_iff.2 b0
      by_cases b1 : (decide ((↑(ByteArray.size x0) : Int) > 10)) = true
      · rw [if_pos b1] at h
        subst h
        exact AtV.fin Tryz.func111 tabOk ext111Ok mixed (p111_1 x0) ⟨b0, b1, trivial⟩
      · rw [if_neg b1] at h
        replace b1 := Bool.eq_false_iff.2 b1
        exact AtV.runN tabOk ext111Ok mixed (p111_2 x0) ⟨b0, b1, trivial⟩ (ih4 _ _ _ h K q)

  · intro v18 x0 ds h K q
    rw [R111_4] at h
    by_cases b0 : (decide (v18 < (↑(List.length (bytesOf x0)) : Int))) = true
    · rw [if_pos b0] at h
      obtain ⟨s0, s1, h⟩ := h
      by_cases b1 : (decide (List.getD (bytesOf x0) (Int.toNat v18) 0 ≥ 97)) = true
      · rw [if_pos b1] at h
        by_cases b2 : (decide (List.getD (bytesOf x0) (Int.toNat v18) 0 ≥ 48)) = true
        · rw [if_pos b2] at h
          by_cases b3 : (!decide (List.getD (bytesOf x0) (Int.toNat v18) 0 ≤ 122)) = true
          · rw [if_pos b3] at h
            by_cases b4 : (v18 == 0) = true
            · rw [if_pos b4] at h
              subst h
              exact AtV.fin Tryz.func111 tabOk ext111Ok mixed (p111_3 v18 x0) ⟨b0, s0, s1, b1, b2, b3, b4, rfl, trivial⟩
            · rw [if_neg b4] at h
              replace b4 := Bool.eq_false_iff.2 b4
              by_cases b5 : (!decide (List.getD (bytesOf x0) (Int.toNat v18) 0 ≤ 57)) = true
              · rw [if_pos b5] at h
                subst h
                exact AtV.fin Tryz.func111 tabOk ext111Ok mixed (p111_4 v18 x0) ⟨b0, s0, s1, b1, b2, b3, b4, b5, trivial⟩
              · rw [if_neg b5] at h
                replace b5 := Bool.eq_false_iff.2 b5
                obtain ⟨s2, h⟩ := h
                exact AtV.runN tabOk ext111Ok mixed (p111_5 v18 x0) ⟨b0, s0, s1, b1, b2, b3, b4, b5, s2, trivial⟩ (ih4 _ _ _ h K q)
          · rw [if_neg b3] at h
            replace b3 := Bool.eq_false_iff.2 b3
            obtain ⟨s2, h⟩ := h
            exact AtV.runN tabOk ext111Ok mixed (p111_6 v18 x0) ⟨b0, s0, s1, b1, b2, b3, rfl, s2, trivial⟩ (ih4 _ _ _ h K q)
        · rw [if_neg b2] at h
          replace b2 := Bool.eq_false_iff.2 b2
          by_cases b3 : (!decide (List.getD (bytesOf x0) (Int.toNat v18) 0 ≤ 122)) = true
          · rw [if_pos b3] at h
            by_cases b4 : (v18 == 0) = true
            · rw [if_pos b4] at h
              subst h
              exact AtV.fin Tryz.func111 tabOk ext111Ok mixed (p111_7 v18 x0) ⟨b0, s0, s1, b1, b2, b3, b4, rfl, trivial⟩
            · rw [if_neg b4] at h
              replace b4 := Bool.eq_false_iff.2 b4
              subst h
              exact AtV.fin Tryz.func111 tabOk ext111Ok mixed (p111_8 v18 x0) ⟨b0, s0, s1, b1, b2, b3, b4, rfl, trivial⟩
          · rw [if_neg b3] at h
            replace b3 := Bool.eq_false_iff.2 b3
            obtain ⟨s2, h⟩ := h
            exact AtV.runN tabOk ext111Ok mixed (p111_9 v18 x0) ⟨b0, s0, s1, b1, b2, b3, rfl, s2, trivial⟩ (ih4 _ _ _ h K q)
      · rw [if_neg b1] at h
        replace b1 := Bool.eq_false_iff.2 b1
        by_cases b2 : (decide (List.getD (bytesOf x0) (Int.toNat v18) 0 ≥ 48)) = true
        · rw [if_pos b2] at h
          by_cases b3 : (v18 == 0) = true
          · rw [if_pos b3] at h
            subst h
            exact AtV.fin Tryz.func111 tabOk ext111Ok mixed (p111_10 v18 x0) ⟨b0, s0, s1, b1, b2, rfl, b3, rfl, trivial⟩
          · rw [if_neg b3] at h
            replace b3 := Bool.eq_false_iff.2 b3
            by_cases b4 : (!decide (List.getD (bytesOf x0) (Int.toNat v18) 0 ≤ 57)) = true
            · rw [if_pos b4] at h
              subst h
              exact AtV.fin Tryz.func111 tabOk ext111Ok mixed (p111_11 v18 x0) ⟨b0, s0, s1, b1, b2, rfl, b3, b4, trivial⟩
            · rw [if_neg b4] at h
              replace b4 := Bool.eq_false_iff.2 b4
              obtain ⟨s2, h⟩ := h
              exact AtV.runN tabOk ext111Ok mixed (p111_12 v18 x0) ⟨b0, s0, s1, b1, b2, rfl, b3, b4, s2, trivial⟩ (ih4 _ _ _ h K q)
        · rw [if_neg b2] at h
          replace b2 := Bool.eq_false_iff.2 b2
          by_cases b3 : (v18 == 0) = true
          · rw [if_pos b3] at h
            subst h
            exact AtV.fin Tryz.func111 tabOk ext111Ok mixed (p111_13 v18 x0) ⟨b0, s0, s1, b1, b2, rfl, b3, rfl, trivial⟩
          · rw [if_neg b3] at h
            replace b3 := Bool.eq_false_iff.2 b3
            subst h
            exact AtV.fin Tryz.func111 tabOk ext111Ok mixed (p111_14 v18 x0) ⟨b0, s0, s1, b1, b2, rfl, b3, rfl, trivial⟩
    · rw [if_neg b0] at h
      replace b0 := Bool.eq_false_iff.2 b0
      subst h
      exact AtV.fin Tryz.func111 tabOk ext111Ok mixed (p111_15 v18 x0) ⟨b0, trivial⟩



def ok111 (i : Nat) (b : Int) : Bool := (decide (97 ≤ b) && decide (b ≤ 122)) || (!(i == 0) && (decide (48 ≤ b) && decide (b ≤ 57)))
def g111_0 (x0 : ByteArray) : Bool := decide (1 ≤ x0.size) && decide (x0.size ≤ 10) && allI ok111 0 (bytesOf x0)
def P111 (x0 : ByteArray) : Prop := True

theorem step111 (n i : Nat) (x0 : ByteArray) (hw : Wf .str x0) (hi : i < (bytesOf x0).length) (ds : List Dyn) :
    R111_4 (n + 1) (i : Int) x0 ds ↔ (if ok111 i ((bytesOf x0).getD i 0) = true then R111_4 n ((i : Int) + 1) x0 ds else ds = [⟨.bool, false⟩]) := by
  have hu := inR_up (xs := bytesOf x0) (by rw [bytesOf_length]; exact hw) hi
  rw [R111_4, if_pos (by simp; omega)]
  simp only [Int.toNat_natCast]
  have hb : (0 : Int) ≤ (i : Int) ∧ (i : Int) < ((bytesOf x0).length : Int) := by omega
  have hz : ((i : Int) == 0) = (i == 0) := by
    cases i with
    | zero => rfl
    | succ k => simp; omega
  simp only [hz, ok111, hu, true_and, hb.1, hb.2, ge_iff_le]
  by_cases h1 : (97 : Int) ≤ (bytesOf x0).getD i 0 <;> by_cases h2 : (bytesOf x0).getD i 0 ≤ 122 <;> by_cases h3 : (48 : Int) ≤ (bytesOf x0).getD i 0 <;> by_cases h4 : (bytesOf x0).getD i 0 ≤ 57 <;> rcases Bool.eq_false_or_eq_true (i == 0) with e0 | e0 <;> first | (exfalso; omega) | simp only [h1, h2, h3, h4, e0, decide_true, decide_false, Bool.not_true, Bool.not_false, Bool.true_and, Bool.false_and, Bool.and_true, Bool.and_false, Bool.true_or, Bool.or_true, Bool.or_false, Bool.false_or, if_true, if_false, Bool.false_eq_true]

theorem top111 (x0 : ByteArray) (hw : Wf .str x0) : R111 (x0.size + 1 + 1) x0 [⟨.bool, g111_0 x0⟩] := by
  have hl := bytesOf_length x0
  rw [R111]
  by_cases h0 : (x0.size : Int) < 1
  · rw [if_pos (by simpa using h0)]
    have : ¬ 1 ≤ x0.size := by omega
    simp [g111_0, this]
  · rw [if_neg (by simpa using h0)]
    by_cases h1 : (x0.size : Int) > 10
    · rw [if_pos (by simpa using h1)]
      have : ¬ x0.size ≤ 10 := by omega
      simp [g111_0, this]
    · rw [if_neg (by simpa using h1)]
      have key := loop_testI (bytesOf x0) 0 ok111 [(⟨.bool, false⟩ : Dyn)] [⟨.bool, true⟩] (fun n i ds => R111_4 n i x0 ds) (fun n => ?_) (fun n i hi hok ds hr => ?_) (fun n i hi hok => ?_)
      · rw [hl] at key
        have e : g111_0 x0 = allI ok111 0 (bytesOf x0) := by
          have a : 1 ≤ x0.size := by omega
          have b : x0.size ≤ 10 := by omega
          simp [g111_0, a, b]
        rw [e]
        cases h : allI ok111 0 (bytesOf x0) with
        | true => rw [if_pos h] at key; exact key
        | false => rw [if_neg (by rw [h]; simp)] at key; exact key
      · show R111_4 (n + 1) ((bytesOf x0).length : Int) x0 _
        rw [R111_4, if_neg (by simp)]
      · exact (step111 n i x0 hw hi ds).2 (by rw [if_pos hok]; exact hr)
      · exact (step111 n i x0 hw hi _).2 (by rw [if_neg (by rw [hok]; simp)])

def S111 : Am.Spec := { sig := sig111, pre := fun ⟨x0, _⟩ => P111 x0, res := fun ⟨x0, _⟩ => [⟨Ty.bool, g111_0 x0⟩] }
theorem con111 : Contract Tryz.prog 111 S111 := contract_of Tryz.func111 hb111 (Nat.le_of_ble_eq_true (by kernel_rfl)) (fun ⟨x0, _⟩ h hwf K q =>
  (snd111 _).1 x0 _ (top111 x0 hwf.1) K q)

end
end Go.Proofs.YtcakiedjgnhjcaaGreat

/- Function 80 (impl.within): its runs between cut points. Written by a program of this repo (gen). -/
set_option linter.unusedVariables false
set_option linter.unusedSimpArgs false
set_option maxRecDepth 100000
namespace Go.Proofs.YtcakiedjgnhjcaaGreat
open Go Go.Am Go.Proofs
noncomputable section
def ext80 : Ext := []
theorem ext80Ok : ExtOk Tryz.prog ext80 := trivial

noncomputable def b80 : Code := bodyOf Tryz.f80
theorem hb80 : Tryz.f80.body = some b80 := by kernel_rfl
def sig80 : List AT := [AT.v (Ty.int .i64), AT.v (Ty.int .i64), AT.v (Ty.int .i64)]
def tys80 : List Ty := [Ty.bool]
def kds80 : List RK := []
def oks80 : List AT := owns sig80
def P80 (x0 : Int) (x1 : Int) (x2 : Int) : Prop := True
def g80_0 (x0 : Int) (x1 : Int) (x2 : Int) : Bool := (if (decide (x0 ≥ x1)) = true then decide (x0 ≤ x2) else false)
theorem p80_0 (x0 : Int) (x1 : Int) (x2 : Int) : runF tab ext80 false 15 [] 2000 [] oks80 kds80 tys80 Tryz.f80.results [true] [.code b80] (entE 0 0 sig80 (x0, x1, x2, ())) (entL sig80 (x0, x1, x2, ())) = some ([Dyn.mk Ty.bool (decide (x0 ≤ x2))], [], [decide (x0 ≥ x1) = true]) := by kernel_rfl
theorem p80_1 (x0 : Int) (x1 : Int) (x2 : Int) : runF tab ext80 false 15 [] 2000 [] oks80 kds80 tys80 Tryz.f80.results [false] [.code b80] (entE 0 0 sig80 (x0, x1, x2, ())) (entL sig80 (x0, x1, x2, ())) = some ([Dyn.mk Ty.bool false], [], [decide (x0 ≥ x1) = false]) := by kernel_rfl
theorem at80 (x0 : Int) (x1 : Int) (x2 : Int) (h : P80 x0 x1 x2) (K : Ctx) (q : Nat → Value) : AtV Tryz.prog 80 (PostR kds80 oks80 [⟨Ty.bool, g80_0 x0 x1 x2⟩] [] [] q K) 15 K q [] [.code b80] (entE 0 0 sig80 (x0, x1, x2, ())) (entL sig80 (x0, x1, x2, ())) := by
  unfold P80 at h
  unfold g80_0
  by_cases b0 : (decide (x0 ≥ x1)) = true
  · try simp only [if_pos b0] at h ⊢
    exact AtV.fin Tryz.func80 tabOk ext80Ok mixed (p80_0 x0 x1 x2) ⟨b0, trivial⟩
  · try simp only [if_neg b0] at h ⊢
    replace b0 := Bool.eq_false_iff.2 b0
    exact AtV.fin Tryz.func80 tabOk ext80Ok mixed (p80_1 x0 x1 x2) ⟨b0, trivial⟩

def S80 : Am.Spec := { sig := sig80, pre := fun ⟨x0, x1, x2, _⟩ => P80 x0 x1 x2, res := fun ⟨x0, x1, x2, _⟩ => [⟨Ty.bool, g80_0 x0 x1 x2⟩], kds := kds80 }
theorem con80 : Contract Tryz.prog 80 S80 := contract_of Tryz.func80 hb80 (Nat.le_of_ble_eq_true (by kernel_rfl)) (fun ⟨x0, x1, x2, _⟩ h _ K q => at80 x0 x1 x2 h K q)


end
end Go.Proofs.YtcakiedjgnhjcaaGreat

/- Function 112 (impl.isCant): its runs between cut points. Written by a program of this repo (gen). -/
set_option linter.unusedVariables false
set_option linter.unusedSimpArgs false
set_option maxRecDepth 100000
namespace Go.Proofs.YtcakiedjgnhjcaaGreat
open Go Go.Am Go.Proofs
noncomputable section
def ext112 : Ext := [(80, S80)]
theorem call112_80 : Callable Tryz.prog 80 := ⟨Tryz.f80, Tryz.func80, by kernel_rfl, by kernel_rfl⟩
theorem ext112Ok : ExtOk Tryz.prog ext112 := ⟨⟨call112_80, con80⟩, trivial⟩

noncomputable def b112 : Code := bodyOf Tryz.f112
theorem hb112 : Tryz.f112.body = some b112 := by kernel_rfl
def sig112 : List AT := [AT.v (Ty.int .i64)]
def tys112 : List Ty := [Ty.bool]
def kds112 : List RK := []
def oks112 : List AT := owns sig112
def P112 (x0 : Int) : Prop := True
def g112_0 (x0 : Int) : Bool := g80_0 x0 0 200
theorem p112_0 (x0 : Int) : runF tab ext112 false 5 [] 2000 [] oks112 kds112 tys112 Tryz.f112.results [] [.code b112] (entE 0 0 sig112 (x0, ())) (entL sig112 (x0, ())) = some ([Dyn.mk Ty.bool (g80_0 x0 0 200)], [], [True]) := by kernel_rfl
theorem at112 (x0 : Int) (h : P112 x0) (K : Ctx) (q : Nat → Value) : AtV Tryz.prog 112 (PostR kds112 oks112 [⟨Ty.bool, g112_0 x0⟩] [] [] q K) 5 K q [] [.code b112] (entE 0 0 sig112 (x0, ())) (entL sig112 (x0, ())) := by
  unfold P112 at h
  unfold g112_0
  exact AtV.fin Tryz.func112 tabOk ext112Ok mixed (p112_0 x0) ⟨trivial, trivial⟩

def S112 : Am.Spec := { sig := sig112, pre := fun ⟨x0, _⟩ => P112 x0, res := fun ⟨x0, _⟩ => [⟨Ty.bool, g112_0 x0⟩], kds := kds112 }
theorem con112 : Contract Tryz.prog 112 S112 := contract_of Tryz.func112 hb112 (Nat.le_of_ble_eq_true (by kernel_rfl)) (fun ⟨x0, _⟩ h _ K q => at112 x0 h K q)


end
end Go.Proofs.YtcakiedjgnhjcaaGreat

/- Function 79 (impl.validBend): its runs between cut points. Written by a program of this repo (gen). -/
set_option linter.unusedVariables false
set_option linter.unusedSimpArgs false
set_option maxRecDepth 100000
namespace Go.Proofs.YtcakiedjgnhjcaaGreat
open Go Go.Am Go.Proofs
noncomputable section
def ext79 : Ext := [(111, S111), (80, S80), (112, S112)]
theorem call79_111 : Callable Tryz.prog 111 := ⟨Tryz.f111, Tryz.func111, by kernel_rfl, by kernel_rfl⟩
theorem call79_80 : Callable Tryz.prog 80 := ⟨Tryz.f80, Tryz.func80, by kernel_rfl, by kernel_rfl⟩
theorem call79_112 : Callable Tryz.prog 112 := ⟨Tryz.f112, Tryz.func112, by kernel_rfl, by kernel_rfl⟩
theorem ext79Ok : ExtOk Tryz.prog ext79 := ⟨⟨call79_111, con111⟩, ⟨call79_80, con80⟩, ⟨call79_112, con112⟩, trivial⟩

noncomputable def b79 : Code := bodyOf Tryz.f79
theorem hb79 : Tryz.f79.body = some b79 := by kernel_rfl
def sig79 : List AT := [AT.v (Ty.cons Ty.str (Ty.cons (Ty.int .i64) (Ty.cons (Ty.int .i64) (Ty.cons (Ty.int .i64) Ty.unit))))]
def tys79 : List Ty := [Ty.bool]
def kds79 : List RK := []
def oks79 : List AT := owns sig79
def P79 (x0 : ByteArray × Int × Int × Int × Unit) : Prop := True
def g79_0 (x0 : ByteArray × Int × Int × Int × Unit) : Bool := (if (g111_0 x0.1) = true then (if (g80_0 x0.2.1 10000 10000000) = true then (if (g80_0 x0.2.2.1 1000 1000000) = true then g112_0 x0.2.2.2.1 else false) else false) else false)
theorem p79_0 (x0 : ByteArray × Int × Int × Int × Unit) : runF tab ext79 false 21 [] 2000 [] oks79 kds79 tys79 Tryz.f79.results [true, true, true] [.code b79] (entE 0 0 sig79 (x0, ())) (entL sig79 (x0, ())) = some ([Dyn.mk Ty.bool (g112_0 x0.2.2.2.1)], [], [True, g111_0 x0.1 = true, True, g80_0 x0.2.1 10000 10000000 = true, True, g80_0 x0.2.2.1 1000 1000000 = true, True]) := by kernel_rfl
theorem p79_1 (x0 : ByteArray × Int × Int × Int × Unit) : runF tab ext79 false 21 [] 2000 [] oks79 kds79 tys79 Tryz.f79.results [true, true, false] [.code b79] (entE 0 0 sig79 (x0, ())) (entL sig79 (x0, ())) = some ([Dyn.mk Ty.bool false], [], [True, g111_0 x0.1 = true, True, g80_0 x0.2.1 10000 10000000 = true, True, g80_0 x0.2.2.1 1000 1000000 = false]) := by kernel_rfl
theorem p79_2 (x0 : ByteArray × Int × Int × Int × Unit) : runF tab ext79 false 21 [] 2000 [] oks79 kds79 tys79 Tryz.f79.results [true, false, false] [.code b79] (entE 0 0 sig79 (x0, ())) (entL sig79 (x0, ())) = some ([Dyn.mk Ty.bool false], [], [True, g111_0 x0.1 = true, True, g80_0 x0.2.1 10000 10000000 = false, false = false]) := by kernel_rfl
theorem p79_3 (x0 : ByteArray × Int × Int × Int × Unit) : runF tab ext79 false 21 [] 2000 [] oks79 kds79 tys79 Tryz.f79.results [false, false, false] [.code b79] (entE 0 0 sig79 (x0, ())) (entL sig79 (x0, ())) = some ([Dyn.mk Ty.bool false], [], [True, g111_0 x0.1 = false, false = false, false = false]) := by kernel_rfl
theorem at79 (x0 : ByteArray × Int × Int × Int × Unit) (h : P79 x0) (K : Ctx) (q : Nat → Value) : AtV Tryz.prog 79 (PostR kds79 oks79 [⟨Ty.bool, g79_0 x0⟩] [] [] q K) 21 K q [] [.code b79] (entE 0 0 sig79 (x0, ())) (entL sig79 (x0, ())) := by
  unfold P79 at h
  unfold g79_0
  by_cases b0 : (g111_0 x0.1) = true
  · try simp only [if_pos b0] at h ⊢
    by_cases b1 : (g80_0 x0.2.1 10000 10000000) = true
    · try simp only [if_pos b1] at h ⊢
      by_cases b2 : (g80_0 x0.2.2.1 1000 1000000) = true
      · try simp only [if_pos b2] at h ⊢
        exact AtV.fin Tryz.func79 tabOk ext79Ok mixed (p79_0 x0) ⟨trivial, b0, trivial, b1, trivial, b2, trivial, trivial⟩
      · try simp only [if_neg b2] at h ⊢
        replace b2 := Bool.eq_false_iff.2 b2
        exact AtV.fin Tryz.func79 tabOk ext79Ok mixed (p79_1 x0) ⟨trivial, b0, trivial, b1, trivial, b2, trivial⟩
    · try simp only [if_neg b1] at h ⊢
      replace b1 := Bool.eq_false_iff.2 b1
      exact AtV.fin Tryz.func79 tabOk ext79Ok mixed (p79_2 x0) ⟨trivial, b0, trivial, b1, rfl, trivial⟩
  · try simp only [if_neg b0] at h ⊢
    replace b0 := Bool.eq_false_iff.2 b0
    exact AtV.fin Tryz.func79 tabOk ext79Ok mixed (p79_3 x0) ⟨trivial, b0, rfl, rfl, trivial⟩

def S79 : Am.Spec := { sig := sig79, pre := fun ⟨x0, _⟩ => P79 x0, res := fun ⟨x0, _⟩ => [⟨Ty.bool, g79_0 x0⟩], kds := kds79 }
theorem con79 : Contract Tryz.prog 79 S79 := contract_of Tryz.func79 hb79 (Nat.le_of_ble_eq_true (by kernel_rfl)) (fun ⟨x0, _⟩ h _ K q => at79 x0 h K q)


end
end Go.Proofs.YtcakiedjgnhjcaaGreat

/- Function 30 (impl.ValidBends): its runs between cut points. Written by a program of this repo (gen). -/
set_option linter.unusedVariables false
set_option linter.unusedSimpArgs false
set_option maxRecDepth 100000
namespace Go.Proofs.YtcakiedjgnhjcaaGreat
open Go Go.Am Go.Proofs
noncomputable section
def ext30 : Ext := [(79, S79)]
theorem call30_79 : Callable Tryz.prog 79 := ⟨Tryz.f79, Tryz.func79, by kernel_rfl, by kernel_rfl⟩
theorem ext30Ok : ExtOk Tryz.prog ext30 := ⟨⟨call30_79, con79⟩, trivial⟩

noncomputable def b30 : Code := bodyOf Tryz.f30
theorem hb30 : Tryz.f30.body = some b30 := by kernel_rfl
def sig30 : List AT := [AT.v (Ty.sl (Ty.cons Ty.str (Ty.cons (Ty.int .i64) (Ty.cons (Ty.int .i64) (Ty.cons (Ty.int .i64) Ty.unit)))))]
def tys30 : List Ty := [Ty.bool]
def kds30 : List RK := []
def oks30 : List AT := owns sig30
def E30_2 (v7 : Int) (x0 : List TyB0) : Env := [(0, PV.a (Atom.sl (Ty.cons Ty.str (Ty.cons (Ty.int .i64) (Ty.cons (Ty.int .i64) (Ty.cons (Ty.int .i64) Ty.unit)))) x0)), (5, PV.a (Atom.sl (Ty.cons Ty.str (Ty.cons (Ty.int .i64) (Ty.cons (Ty.int .i64) (Ty.cons (Ty.int .i64) Ty.unit)))) x0)), (6, PV.a (Atom.val (Value.int .i64 (↑(List.length x0) : Int)))), (7, PV.a (Atom.val (Value.int .i64 v7)))]
def L30_2 (v7 : Int) (x0 : List TyB0) : Heap := []
mutual
def R30 : Nat → List TyB0 → List Dyn → Prop
  | 0, _, _ => False
  | n + 1, x0, ds => (R30_2 n (0) (x0) ds)
def R30_2 : Nat → Int → List TyB0 → List Dyn → Prop
  | 0, _, _, _ => False
  | n + 1, v7, x0, ds => (if (decide (v7 < (↑(List.length x0) : Int))) = true then ((0 ≤ v7) ∧ (v7 < (↑(List.length x0) : Int)) ∧ (if (!g79_0 (List.getD x0 (Int.toNat v7) (ByteArray.empty, 0, 0, 0, ()))) = true then (ds = [Dyn.mk Ty.bool false]) else (if (decide (v7 > 0)) = true then ((InR .i64 (v7 - 1)) ∧ ((0 ≤ v7 - 1) ∧ (v7 - 1 < (↑(List.length x0) : Int)) ∧ (if (Op.bytesLess (ByteArray.toList (List.getD x0 (Int.toNat v7) (ByteArray.empty, 0, 0, 0, ())).1) (ByteArray.toList (List.getD x0 (Int.toNat (v7 - 1)) (ByteArray.empty, 0, 0, 0, ())).1) || ByteArray.toList (List.getD x0 (Int.toNat v7) (ByteArray.empty, 0, 0, 0, ())).1 == ByteArray.toList (List.getD x0 (Int.toNat (v7 - 1)) (ByteArray.empty, 0, 0, 0, ())).1) = true then (ds = [Dyn.mk Ty.bool false]) else ((InR .i64 (v7 + 1)) ∧ (R30_2 n (v7 + 1) (x0) ds))))) else ((InR .i64 (v7 + 1)) ∧ (R30_2 n (v7 + 1) (x0) ds))))) else (ds = [Dyn.mk Ty.bool (decide ((↑(List.length x0) : Int) ≤ 12))]))
end
theorem p30_0 (x0 : List TyB0) : Am.runN tab ext30 false 34 [] 2000 [] [] [0, 5, 6, 7] [] [] [.code b30] (entE 0 0 sig30 (x0, ())) (entL sig30 (x0, ())) = some (cutAt b30 2, E30_2 (0) (x0), L30_2 (0) (x0), []) := by kernel_rfl
theorem p30_1 (v7 : Int) (x0 : List TyB0) : runF tab ext30 false 34 [] 2000 [] oks30 kds30 tys30 Tryz.f30.results [true, true, true] (cutAt b30 2) (E30_2 v7 x0) (L30_2 v7 x0) = some ([Dyn.mk Ty.bool false], [], [decide (v7 < (↑(List.length x0) : Int)) = true, 0 ≤ v7, v7 < (↑(List.length x0) : Int), True, (!g79_0 (List.getD x0 (Int.toNat v7) (ByteArray.empty, 0, 0, 0, ()))) = true, true = true]) := by kernel_rfl
theorem p30_2 (v7 : Int) (x0 : List TyB0) : runF tab ext30 false 34 [] 2000 [] oks30 kds30 tys30 Tryz.f30.results [true, false, true, true] (cutAt b30 2) (E30_2 v7 x0) (L30_2 v7 x0) = some ([Dyn.mk Ty.bool false], [], [decide (v7 < (↑(List.length x0) : Int)) = true, 0 ≤ v7, v7 < (↑(List.length x0) : Int), True, (!g79_0 (List.getD x0 (Int.toNat v7) (ByteArray.empty, 0, 0, 0, ()))) = false, decide (v7 > 0) = true, InR .i64 (v7 - 1), 0 ≤ v7 - 1, v7 - 1 < (↑(List.length x0) : Int), (Op.bytesLess (ByteArray.toList (List.getD x0 (Int.toNat v7) (ByteArray.empty, 0, 0, 0, ())).1) (ByteArray.toList (List.getD x0 (Int.toNat (v7 - 1)) (ByteArray.empty, 0, 0, 0, ())).1) || ByteArray.toList (List.getD x0 (Int.toNat v7) (ByteArray.empty, 0, 0, 0, ())).1 == ByteArray.toList (List.getD x0 (Int.toNat (v7 - 1)) (ByteArray.empty, 0, 0, 0, ())).1) = true]) := by kernel_rfl
theorem p30_3 (v7 : Int) (x0 : List TyB0) : Am.runN tab ext30 false 34 [] 2000 [] [] [0, 5, 6, 7] [] [true, false, true, false] (cutAt b30 2) (E30_2 v7 x0) (L30_2 v7 x0) = some (cutAt b30 2, E30_2 (v7 + 1) (x0), L30_2 (v7 + 1) (x0), [decide (v7 < (↑(List.length x0) : Int)) = true, 0 ≤ v7, v7 < (↑(List.length x0) : Int), True, (!g79_0 (List.getD x0 (Int.toNat v7) (ByteArray.empty, 0, 0, 0, ()))) = false, decide (v7 > 0) = true, InR .i64 (v7 - 1), 0 ≤ v7 - 1, v7 - 1 < (↑(List.length x0) : Int), (Op.bytesLess (ByteArray.toList (List.getD x0 (Int.toNat v7) (ByteArray.empty, 0, 0, 0, ())).1) (ByteArray.toList (List.getD x0 (Int.toNat (v7 - 1)) (ByteArray.empty, 0, 0, 0, ())).1) || ByteArray.toList (List.getD x0 (Int.toNat v7) (ByteArray.empty, 0, 0, 0, ())).1 == ByteArray.toList (List.getD x0 (Int.toNat (v7 - 1)) (ByteArray.empty, 0, 0, 0, ())).1) = false, InR .i64 (v7 + 1)]) := by kernel_rfl
theorem p30_4 (v7 : Int) (x0 : List TyB0) : Am.runN tab ext30 false 34 [] 2000 [] [] [0, 5, 6, 7] [] [true, false, false, false] (cutAt b30 2) (E30_2 v7 x0) (L30_2 v7 x0) = some (cutAt b30 2, E30_2 (v7 + 1) (x0), L30_2 (v7 + 1) (x0), [decide (v7 < (↑(List.length x0) : Int)) = true, 0 ≤ v7, v7 < (↑(List.length x0) : Int), True, (!g79_0 (List.getD x0 (Int.toNat v7) (ByteArray.empty, 0, 0, 0, ()))) = false, decide (v7 > 0) = false, false = false, InR .i64 (v7 + 1)]) := by kernel_rfl
theorem p30_5 (v7 : Int) (x0 : List TyB0) : runF tab ext30 false 34 [] 2000 [] oks30 kds30 tys30 Tryz.f30.results [false] (cutAt b30 2) (E30_2 v7 x0) (L30_2 v7 x0) = some ([Dyn.mk Ty.bool (decide ((↑(List.length x0) : Int) ≤ 12))], [], [decide (v7 < (↑(List.length x0) : Int)) = false]) := by kernel_rfl
theorem snd30 : ∀ n, (∀ (x0 : List TyB0) ds, R30 n x0 ds → ∀ K q, AtV Tryz.prog 30 (PostR kds30 oks30 ds [] [] q K) 34 K q [] [.code b30] (entE 0 0 sig30 (x0, ())) (entL sig30 (x0, ()))) ∧ (∀ (v7 : Int) (x0 : List TyB0) ds, R30_2 n v7 x0 ds → ∀ K q, AtV Tryz.prog 30 (PostR kds30 oks30 ds [] [] q K) 34 K q [] (cutAt b30 2) (E30_2 v7 x0) (L30_2 v7 x0)) := by
  intro n
  induction n with
  | zero => exact ⟨fun _ _ h => by simp only [R30] at h, fun _ _ _ h => by simp only [R30_2] at h⟩
  | succ n ih =>
  obtain ⟨ih, ih2⟩ := ih
  refine ⟨?_, ?_⟩
  · intro x0 ds h K q
    rw [R30] at h
    exact AtV.runN tabOk ext30Ok mixed (p30_0 x0) trivial (ih2 _ _ _ h K q)

  · intro v7 x0 ds h K q
    rw [R30_2] at h
    by_cases b0 : (decide (v7 < (↑(List.length x0) : Int))) = true
    · rw [if_pos b0] at h
      obtain ⟨s0, s1, h⟩ := h
      by_cases b1 : (!g79_0 (List.getD x0 (Int.toNat v7) (ByteArray.empty, 0, 0, 0, ()))) = true
      · rw [if_pos b1] at h
        subst h
        exact AtV.fin Tryz.func30 tabOk ext30Ok mixed (p30_1 v7 x0) ⟨b0, s0, s1, trivial, b1, rfl, trivial⟩
      · rw [if_neg b1] at h
        replace b1 := Bool.eq_false_iff.2 b1
        by_cases b2 : (decide (v7 > 0)) = true
        · rw [if_pos b2] at h
          obtain ⟨s2, h⟩ := h
          obtain ⟨s3, s4, h⟩ := h
          by_cases b3 : (Op.bytesLess (ByteArray.toList (List.getD x0 (Int.toNat v7) (ByteArray.empty, 0, 0, 0, ())).1) (ByteArray.toList (List.getD x0 (Int.toNat (v7 - 1)) (ByteArray.empty, 0, 0, 0, ())).1) || ByteArray.toList (List.getD x0 (Int.toNat v7) (ByteArray.empty, 0, 0, 0, ())).1 == ByteArray.toList (List.getD x0 (Int.toNat (v7 - 1)) (ByteArray.empty, 0, 0, 0, ())).1) = true
          · rw [if_pos b3] at h
            subst h
            exact AtV.fin Tryz.func30 tabOk ext30Ok mixed (p30_2 v7 x0) ⟨b0, s0, s1, trivial, b1, b2, s2, s3, s4, b3, trivial⟩
          · rw [if_neg b3] at h
            replace b3 := Bool.eq_false_iff.2 b3
            obtain ⟨s5, h⟩ := h
            exact AtV.runN tabOk ext30Ok mixed (p30_3 v7 x0) ⟨b0, s0, s1, trivial, b1, b2, s2, s3, s4, b3, s5, trivial⟩ (ih2 _ _ _ h K q)
        · rw [if_neg b2] at h
          replace b2 := Bool.eq_false_iff.2 b2
          obtain ⟨s2, h⟩ := h
          exact AtV.runN tabOk ext30Ok mixed (p30_4 v7 x0) ⟨b0, s0, s1, trivial, b1, b2, rfl, s2, trivial⟩ (ih2 _ _ _ h K q)
    · rw [if_neg b0] at h
      replace b0 := Bool.eq_false_iff.2 b0
      subst h
      exact AtV.fin Tryz.func30 tabOk ext30Ok mixed (p30_5 v7 x0) ⟨b0, trivial⟩



def ok30 (x0 : List TyB0) (i : Nat) (x : TyB0) : Bool :=
  g79_0 x && (i == 0 || !(Op.bytesLess (ByteArray.toList x.1) (ByteArray.toList (x0.getD (i - 1) (ByteArray.empty, (0 : Int), (0 : Int), (0 : Int), ())).1) || ByteArray.toList x.1 == ByteArray.toList (x0.getD (i - 1) (ByteArray.empty, (0 : Int), (0 : Int), (0 : Int), ())).1))
def g30_0 (x0 : List TyB0) : Bool := allI (ok30 x0) 0 x0 && decide (x0.length ≤ 12)
def P30 (x0 : List TyB0) : Prop := True

theorem step30 (n i : Nat) (x0 : List TyB0) (hm : x0.length ≤ maxLen) (hi : i < x0.length) (ds : List Dyn) :
    (if ok30 x0 i (x0.getD i (ByteArray.empty, (0 : Int), (0 : Int), (0 : Int), ())) = true then R30_2 n ((i : Int) + 1) x0 ds else ds = [⟨.bool, false⟩]) → R30_2 (n + 1) (i : Int) x0 ds := by
  intro h
  have hu := inR_up hm hi
  rw [R30_2, if_pos (by simp; omega)]
  refine ⟨by omega, by omega, ?_⟩
  simp only [Int.toNat_natCast]
  unfold ok30 at h
  by_cases h1 : g79_0 (x0.getD i (ByteArray.empty, (0 : Int), (0 : Int), (0 : Int), ())) = true
  case neg =>
    have h1 := Bool.eq_false_iff.2 h1
    rw [h1] at h
    rw [if_pos (by rw [h1]; rfl)]
    simpa using h
  case pos =>
    rw [h1] at h
    rw [if_neg (by rw [h1]; simp)]
    by_cases h0 : (i : Int) > 0
    · rw [if_pos (by simpa using h0)]
      have hi0 : (i == 0) = false := by simp; omega
      have e : ((i : Int) - 1).toNat = i - 1 := by omega
      refine ⟨by rw [i64_iff]; have : maxLen ≤ 9223372036854775807 := by decide
                 omega, by omega, by omega, ?_⟩
      rw [e]
      by_cases h2 : (Op.bytesLess (ByteArray.toList (x0.getD i (ByteArray.empty, (0 : Int), (0 : Int), (0 : Int), ())).1) (ByteArray.toList (x0.getD (i - 1) (ByteArray.empty, (0 : Int), (0 : Int), (0 : Int), ())).1) || ByteArray.toList (x0.getD i (ByteArray.empty, (0 : Int), (0 : Int), (0 : Int), ())).1 == ByteArray.toList (x0.getD (i - 1) (ByteArray.empty, (0 : Int), (0 : Int), (0 : Int), ())).1) = true
      · rw [if_pos h2]
        rw [hi0, h2] at h
        simpa using h
      · rw [if_neg h2]
        rw [hi0, Bool.eq_false_iff.2 h2] at h
        exact ⟨hu, by simpa using h⟩
    · rw [if_neg (by simpa using h0)]
      have hi0 : (i == 0) = true := by simp; omega
      rw [hi0] at h
      exact ⟨hu, by simpa using h⟩

theorem top30 (x0 : List TyB0) (hw : x0.length ≤ maxLen) : R30 (x0.length + 1 + 1) x0 [⟨.bool, g30_0 x0⟩] := by
  rw [R30]
  have key := loop_testI x0 (ByteArray.empty, (0 : Int), (0 : Int), (0 : Int), ()) (ok30 x0) [(⟨.bool, false⟩ : Dyn)] [⟨.bool, decide (x0.length ≤ 12)⟩] (fun n i ds => R30_2 n i x0 ds) (fun n => ?_) (fun n i hi hok ds hr => ?_) (fun n i hi hok => ?_)
  · unfold g30_0
    cases h : allI (ok30 x0) 0 x0 with
    | true => rw [if_pos h] at key; simpa using key
    | false => rw [if_neg (by rw [h]; simp)] at key; simpa using key
  · rw [R30_2, if_neg (by simp)]
    have hc : decide ((x0.length : Int) ≤ 12) = decide (x0.length ≤ 12) := by
      congr 1; exact propext ⟨fun h => by omega, fun h => by omega⟩
    rw [hc]
  · exact step30 n i x0 hw hi ds (by rw [if_pos hok]; exact hr)
  · exact step30 n i x0 hw hi _ (by rw [if_neg (by rw [hok]; simp)])

def S30 : Am.Spec := { sig := sig30, pre := fun ⟨x0, _⟩ => P30 x0, res := fun ⟨x0, _⟩ => [⟨Ty.bool, g30_0 x0⟩] }
theorem con30 : Contract Tryz.prog 30 S30 := contract_of Tryz.func30 hb30 (Nat.le_of_ble_eq_true (by kernel_rfl)) (fun ⟨x0, _⟩ h hwf K q =>
  (snd30 _).1 x0 _ (top30 x0 hwf.1.1) K q)

end
end Go.Proofs.YtcakiedjgnhjcaaGreat

/- Function 31 (impl.ValidRope): its runs between cut points. Written by a program of this repo (gen). -/
set_option linter.unusedVariables false
set_option linter.unusedSimpArgs false
set_option maxRecDepth 100000
namespace Go.Proofs.YtcakiedjgnhjcaaGreat
open Go Go.Am Go.Proofs
noncomputable section
def ext31 : Ext := [(80, S80)]
theorem call31_80 : Callable Tryz.prog 80 := ⟨Tryz.f80, Tryz.func80, by kernel_rfl, by kernel_rfl⟩
theorem ext31Ok : ExtOk Tryz.prog ext31 := ⟨⟨call31_80, con80⟩, trivial⟩

noncomputable def b31 : Code := bodyOf Tryz.f31
theorem hb31 : Tryz.f31.body = some b31 := by kernel_rfl
def sig31 : List AT := [AT.v (Ty.cons (Ty.int .i64) (Ty.cons (Ty.int .i64) (Ty.cons (Ty.int .i64) (Ty.cons (Ty.int .i64) Ty.unit))))]
def tys31 : List Ty := [Ty.bool]
def kds31 : List RK := []
def oks31 : List AT := owns sig31
def P31 (x0 : Int × Int × Int × Int × Unit) : Prop := True
def g31_0 (x0 : Int × Int × Int × Int × Unit) : Bool := (if (g80_0 x0.1 1000 4000000) = true then (if (g80_0 x0.2.1 100 20000) = true then (if (g80_0 x0.2.2.1 6 400) = true then g80_0 x0.2.2.2.1 1000 10000000 else false) else false) else false)
theorem p31_0 (x0 : Int × Int × Int × Int × Unit) : runF tab ext31 false 21 [] 2000 [] oks31 kds31 tys31 Tryz.f31.results [true, true, true] [.code b31] (entE 0 0 sig31 (x0, ())) (entL sig31 (x0, ())) = some ([Dyn.mk Ty.bool (g80_0 x0.2.2.2.1 1000 10000000)], [], [True, g80_0 x0.1 1000 4000000 = true, True, g80_0 x0.2.1 100 20000 = true, True, g80_0 x0.2.2.1 6 400 = true, True]) := by kernel_rfl
theorem p31_1 (x0 : Int × Int × Int × Int × Unit) : runF tab ext31 false 21 [] 2000 [] oks31 kds31 tys31 Tryz.f31.results [true, true, false] [.code b31] (entE 0 0 sig31 (x0, ())) (entL sig31 (x0, ())) = some ([Dyn.mk Ty.bool false], [], [True, g80_0 x0.1 1000 4000000 = true, True, g80_0 x0.2.1 100 20000 = true, True, g80_0 x0.2.2.1 6 400 = false]) := by kernel_rfl
theorem p31_2 (x0 : Int × Int × Int × Int × Unit) : runF tab ext31 false 21 [] 2000 [] oks31 kds31 tys31 Tryz.f31.results [true, false, false] [.code b31] (entE 0 0 sig31 (x0, ())) (entL sig31 (x0, ())) = some ([Dyn.mk Ty.bool false], [], [True, g80_0 x0.1 1000 4000000 = true, True, g80_0 x0.2.1 100 20000 = false, false = false]) := by kernel_rfl
theorem p31_3 (x0 : Int × Int × Int × Int × Unit) : runF tab ext31 false 21 [] 2000 [] oks31 kds31 tys31 Tryz.f31.results [false, false, false] [.code b31] (entE 0 0 sig31 (x0, ())) (entL sig31 (x0, ())) = some ([Dyn.mk Ty.bool false], [], [True, g80_0 x0.1 1000 4000000 = false, false = false, false = false]) := by kernel_rfl
theorem at31 (x0 : Int × Int × Int × Int × Unit) (h : P31 x0) (K : Ctx) (q : Nat → Value) : AtV Tryz.prog 31 (PostR kds31 oks31 [⟨Ty.bool, g31_0 x0⟩] [] [] q K) 21 K q [] [.code b31] (entE 0 0 sig31 (x0, ())) (entL sig31 (x0, ())) := by
  unfold P31 at h
  unfold g31_0
  by_cases b0 : (g80_0 x0.1 1000 4000000) = true
  · try simp only [if_pos b0] at h ⊢
    by_cases b1 : (g80_0 x0.2.1 100 20000) = true
    · try simp only [if_pos b1] at h ⊢
      by_cases b2 : (g80_0 x0.2.2.1 6 400) = true
      · try simp only [if_pos b2] at h ⊢
        exact AtV.fin Tryz.func31 tabOk ext31Ok mixed (p31_0 x0) ⟨trivial, b0, trivial, b1, trivial, b2, trivial, trivial⟩
      · try simp only [if_neg b2] at h ⊢
        replace b2 := Bool.eq_false_iff.2 b2
        exact AtV.fin Tryz.func31 tabOk ext31Ok mixed (p31_1 x0) ⟨trivial, b0, trivial, b1, trivial, b2, trivial⟩
    · try simp only [if_neg b1] at h ⊢
      replace b1 := Bool.eq_false_iff.2 b1
      exact AtV.fin Tryz.func31 tabOk ext31Ok mixed (p31_2 x0) ⟨trivial, b0, trivial, b1, rfl, trivial⟩
  · try simp only [if_neg b0] at h ⊢
    replace b0 := Bool.eq_false_iff.2 b0
    exact AtV.fin Tryz.func31 tabOk ext31Ok mixed (p31_3 x0) ⟨trivial, b0, rfl, rfl, trivial⟩

def S31 : Am.Spec := { sig := sig31, pre := fun ⟨x0, _⟩ => P31 x0, res := fun ⟨x0, _⟩ => [⟨Ty.bool, g31_0 x0⟩], kds := kds31 }
theorem con31 : Contract Tryz.prog 31 S31 := contract_of Tryz.func31 hb31 (Nat.le_of_ble_eq_true (by kernel_rfl)) (fun ⟨x0, _⟩ h _ K q => at31 x0 h K q)


end
end Go.Proofs.YtcakiedjgnhjcaaGreat

/- Function 83 (impl.validHour): its runs between cut points. Written by a program of this repo (gen). -/
set_option linter.unusedVariables false
set_option linter.unusedSimpArgs false
set_option maxRecDepth 100000
namespace Go.Proofs.YtcakiedjgnhjcaaGreat
open Go Go.Am Go.Proofs
noncomputable section
def ext83 : Ext := [(80, S80)]
theorem call83_80 : Callable Tryz.prog 80 := ⟨Tryz.f80, Tryz.func80, by kernel_rfl, by kernel_rfl⟩
theorem ext83Ok : ExtOk Tryz.prog ext83 := ⟨⟨call83_80, con80⟩, trivial⟩

noncomputable def b83 : Code := bodyOf Tryz.f83
theorem hb83 : Tryz.f83.body = some b83 := by kernel_rfl
def sig83 : List AT := [AT.v (Ty.cons (Ty.int .i64) (Ty.cons (Ty.int .i64) (Ty.cons (Ty.int .i64) Ty.unit)))]
def tys83 : List Ty := [Ty.bool]
def kds83 : List RK := []
def oks83 : List AT := owns sig83
def P83 (x0 : Int × Int × Int × Unit) : Prop := True
def g83_0 (x0 : Int × Int × Int × Unit) : Bool := (if (g80_0 x0.1 0 1000) = true then (if (g80_0 x0.2.1 (-400) 500) = true then g80_0 x0.2.2.1 0 1000 else false) else false)
theorem p83_0 (x0 : Int × Int × Int × Unit) : runF tab ext83 false 16 [] 2000 [] oks83 kds83 tys83 Tryz.f83.results [true, true] [.code b83] (entE 0 0 sig83 (x0, ())) (entL sig83 (x0, ())) = some ([Dyn.mk Ty.bool (g80_0 x0.2.2.1 0 1000)], [], [True, g80_0 x0.1 0 1000 = true, True, g80_0 x0.2.1 (-400) 500 = true, True]) := by kernel_rfl
theorem p83_1 (x0 : Int × Int × Int × Unit) : runF tab ext83 false 16 [] 2000 [] oks83 kds83 tys83 Tryz.f83.results [true, false] [.code b83] (entE 0 0 sig83 (x0, ())) (entL sig83 (x0, ())) = some ([Dyn.mk Ty.bool false], [], [True, g80_0 x0.1 0 1000 = true, True, g80_0 x0.2.1 (-400) 500 = false]) := by kernel_rfl
theorem p83_2 (x0 : Int × Int × Int × Unit) : runF tab ext83 false 16 [] 2000 [] oks83 kds83 tys83 Tryz.f83.results [false, false] [.code b83] (entE 0 0 sig83 (x0, ())) (entL sig83 (x0, ())) = some ([Dyn.mk Ty.bool false], [], [True, g80_0 x0.1 0 1000 = false, false = false]) := by kernel_rfl
theorem at83 (x0 : Int × Int × Int × Unit) (h : P83 x0) (K : Ctx) (q : Nat → Value) : AtV Tryz.prog 83 (PostR kds83 oks83 [⟨Ty.bool, g83_0 x0⟩] [] [] q K) 16 K q [] [.code b83] (entE 0 0 sig83 (x0, ())) (entL sig83 (x0, ())) := by
  unfold P83 at h
  unfold g83_0
  by_cases b0 : (g80_0 x0.1 0 1000) = true
  · try simp only [if_pos b0] at h ⊢
    by_cases b1 : (g80_0 x0.2.1 (-400) 500) = true
    · try simp only [if_pos b1] at h ⊢
      exact AtV.fin Tryz.func83 tabOk ext83Ok mixed (p83_0 x0) ⟨trivial, b0, trivial, b1, trivial, trivial⟩
    · try simp only [if_neg b1] at h ⊢
      replace b1 := Bool.eq_false_iff.2 b1
      exact AtV.fin Tryz.func83 tabOk ext83Ok mixed (p83_1 x0) ⟨trivial, b0, trivial, b1, trivial⟩
  · try simp only [if_neg b0] at h ⊢
    replace b0 := Bool.eq_false_iff.2 b0
    exact AtV.fin Tryz.func83 tabOk ext83Ok mixed (p83_2 x0) ⟨trivial, b0, rfl, trivial⟩

def S83 : Am.Spec := { sig := sig83, pre := fun ⟨x0, _⟩ => P83 x0, res := fun ⟨x0, _⟩ => [⟨Ty.bool, g83_0 x0⟩], kds := kds83 }
theorem con83 : Contract Tryz.prog 83 S83 := contract_of Tryz.func83 hb83 (Nat.le_of_ble_eq_true (by kernel_rfl)) (fun ⟨x0, _⟩ h _ K q => at83 x0 h K q)


end
end Go.Proofs.YtcakiedjgnhjcaaGreat

/- Function 82 (impl.ValidHours$1): its runs between cut points. Written by a program of this repo (gen). -/
set_option linter.unusedVariables false
set_option linter.unusedSimpArgs false
set_option maxRecDepth 100000
namespace Go.Proofs.YtcakiedjgnhjcaaGreat
open Go Go.Am Go.Proofs
noncomputable section
def ext82 : Ext := [(83, S83)]
theorem call82_83 : Callable Tryz.prog 83 := ⟨Tryz.f83, Tryz.func83, by kernel_rfl, by kernel_rfl⟩
theorem ext82Ok : ExtOk Tryz.prog ext82 := ⟨⟨call82_83, con83⟩, trivial⟩

noncomputable def b82 : Code := bodyOf Tryz.f82
theorem hb82 : Tryz.f82.body = some b82 := by kernel_rfl
def sig82 : List AT := [AT.v (Ty.cons (Ty.int .i64) (Ty.cons (Ty.int .i64) (Ty.cons (Ty.int .i64) Ty.unit)))]
def tys82 : List Ty := [Ty.bool]
def kds82 : List RK := []
def oks82 : List AT := owns sig82
def P82 (x0 : Int × Int × Int × Unit) : Prop := True
def g82_0 (x0 : Int × Int × Int × Unit) : Bool := !g83_0 x0
theorem p82_0 (x0 : Int × Int × Int × Unit) : runF tab ext82 false 6 [] 2000 [] oks82 kds82 tys82 Tryz.f82.results [] [.code b82] (entE 0 0 sig82 (x0, ())) (entL sig82 (x0, ())) = some ([Dyn.mk Ty.bool !g83_0 x0], [], [True]) := by kernel_rfl
theorem at82 (x0 : Int × Int × Int × Unit) (h : P82 x0) (K : Ctx) (q : Nat → Value) : AtV Tryz.prog 82 (PostR kds82 oks82 [⟨Ty.bool, g82_0 x0⟩] [] [] q K) 6 K q [] [.code b82] (entE 0 0 sig82 (x0, ())) (entL sig82 (x0, ())) := by
  unfold P82 at h
  unfold g82_0
  exact AtV.fin Tryz.func82 tabOk ext82Ok mixed (p82_0 x0) ⟨trivial, trivial⟩

def S82 : Am.Spec := { sig := sig82, pre := fun ⟨x0, _⟩ => P82 x0, res := fun ⟨x0, _⟩ => [⟨Ty.bool, g82_0 x0⟩], kds := kds82 }
theorem con82 : Contract Tryz.prog 82 S82 := contract_of Tryz.func82 hb82 (Nat.le_of_ble_eq_true (by kernel_rfl)) (fun ⟨x0, _⟩ h _ K q => at82 x0 h K q)


end
end Go.Proofs.YtcakiedjgnhjcaaGreat

/- Function 113 (slices.IndexFunc[[]impl.Hour,impl.Hour]): its runs between cut points. Written by a program of this repo (gen). -/
set_option linter.unusedVariables false
set_option linter.unusedSimpArgs false
set_option maxRecDepth 100000
namespace Go.Proofs.YtcakiedjgnhjcaaGreat
open Go Go.Am Go.Proofs
noncomputable section
def ext113c82 : Ext := [(82, S82)]
theorem call113c82_82 : Callable Tryz.prog 82 := ⟨Tryz.f82, Tryz.func82, by kernel_rfl, by kernel_rfl⟩
theorem ext113c82Ok : ExtOk Tryz.prog ext113c82 := ⟨⟨call113c82_82, con82⟩, trivial⟩

noncomputable def b113c82 : Code := bodyOf Tryz.f113
theorem hb113c82 : Tryz.f113.body = some b113c82 := by kernel_rfl
def sig113c82 : List AT := [AT.v (Ty.sl (Ty.cons (Ty.int .i64) (Ty.cons (Ty.int .i64) (Ty.cons (Ty.int .i64) Ty.unit)))), AT.fn 82 []]
def tys113c82 : List Ty := [Ty.int .i64]
def kds113c82 : List RK := []
def oks113c82 : List AT := owns sig113c82
def E113c82_2 (v8 : Int) (x0 : List TyB2) : Env := [(0, PV.a (Atom.sl (Ty.cons (Ty.int .i64) (Ty.cons (Ty.int .i64) (Ty.cons (Ty.int .i64) Ty.unit))) x0)), (1, PV.fn 82 []), (7, PV.a (Atom.val (Value.int .i64 (↑(List.length x0) : Int)))), (8, PV.a (Atom.val (Value.int .i64 v8)))]
def L113c82_2 (v8 : Int) (x0 : List TyB2) : Heap := []
mutual
def R113c82 : Nat → List TyB2 → List Dyn → Prop
  | 0, _, _ => False
  | n + 1, x0, ds => (R113c82_2 n (0) (x0) ds)
def R113c82_2 : Nat → Int → List TyB2 → List Dyn → Prop
  | 0, _, _, _ => False
  | n + 1, v8, x0, ds => (if (decide (v8 < (↑(List.length x0) : Int))) = true then ((0 ≤ v8) ∧ (v8 < (↑(List.length x0) : Int)) ∧ (if (g82_0 (List.getD x0 (Int.toNat v8) (0, 0, 0, ()))) = true then (ds = [Dyn.mk (Ty.int .i64) v8]) else ((InR .i64 (v8 + 1)) ∧ (R113c82_2 n (v8 + 1) (x0) ds)))) else (ds = [Dyn.mk (Ty.int .i64) (-1)]))
end
theorem p113c82_0 (x0 : List TyB2) : Am.runN tab ext113c82 false 19 [] 2000 [] [] [0, 1, 7, 8] [] [] [.code b113c82] (entE 0 0 sig113c82 (x0, (), ())) (entL sig113c82 (x0, (), ())) = some (cutAt b113c82 2, E113c82_2 (0) (x0), L113c82_2 (0) (x0), []) := by kernel_rfl
theorem p113c82_1 (v8 : Int) (x0 : List TyB2) : runF tab ext113c82 false 19 [] 2000 [] oks113c82 kds113c82 tys113c82 Tryz.f113.results [true, true] (cutAt b113c82 2) (E113c82_2 v8 x0) (L113c82_2 v8 x0) = some ([Dyn.mk (Ty.int .i64) v8], [], [decide (v8 < (↑(List.length x0) : Int)) = true, 0 ≤ v8, v8 < (↑(List.length x0) : Int), True, g82_0 (List.getD x0 (Int.toNat v8) (0, 0, 0, ())) = true]) := by kernel_rfl
theorem p113c82_2 (v8 : Int) (x0 : List TyB2) : Am.runN tab ext113c82 false 19 [] 2000 [] [] [0, 1, 7, 8] [] [true, false] (cutAt b113c82 2) (E113c82_2 v8 x0) (L113c82_2 v8 x0) = some (cutAt b113c82 2, E113c82_2 (v8 + 1) (x0), L113c82_2 (v8 + 1) (x0), [decide (v8 < (↑(List.length x0) : Int)) = true, 0 ≤ v8, v8 < (↑(List.length x0) : Int), True, g82_0 (List.getD x0 (Int.toNat v8) (0, 0, 0, ())) = false, InR .i64 (v8 + 1)]) := by kernel_rfl
theorem p113c82_3 (v8 : Int) (x0 : List TyB2) : runF tab ext113c82 false 19 [] 2000 [] oks113c82 kds113c82 tys113c82 Tryz.f113.results [false] (cutAt b113c82 2) (E113c82_2 v8 x0) (L113c82_2 v8 x0) = some ([Dyn.mk (Ty.int .i64) (-1)], [], [decide (v8 < (↑(List.length x0) : Int)) = false]) := by kernel_rfl
theorem snd113c82 : ∀ n, (∀ (x0 : List TyB2) ds, R113c82 n x0 ds → ∀ K q, AtV Tryz.prog 113 (PostR kds113c82 oks113c82 ds [] [] q K) 19 K q [] [.code b113c82] (entE 0 0 sig113c82 (x0, (), ())) (entL sig113c82 (x0, (), ()))) ∧ (∀ (v8 : Int) (x0 : List TyB2) ds, R113c82_2 n v8 x0 ds → ∀ K q, AtV Tryz.prog 113 (PostR kds113c82 oks113c82 ds [] [] q K) 19 K q [] (cutAt b113c82 2) (E113c82_2 v8 x0) (L113c82_2 v8 x0)) := by
  intro n
  induction n with
  | zero => exact ⟨fun _ _ h => by simp only [R113c82] at h, fun _ _ _ h => by simp only [R113c82_2] at h⟩
  | succ n ih =>
  obtain ⟨ih, ih2⟩ := ih
  refine ⟨?_, ?_⟩
  · intro x0 ds h K q
    rw [R113c82] at h
    exact AtV.runN tabOk ext113c82Ok mixed (p113c82_0 x0) trivial (ih2 _ _ _ h K q)

  · intro v8 x0 ds h K q
    rw [R113c82_2] at h
    by_cases b0 : (decide (v8 < (↑(List.length x0) : Int))) = true
    · rw [if_pos b0] at h
      obtain ⟨s0, s1, h⟩ := h
      by_cases b1 : (g82_0 (List.getD x0 (Int.toNat v8) (0, 0, 0, ()))) = true
      · rw [if_pos b1] at h
        subst h
        exact AtV.fin Tryz.func113 tabOk ext113c82Ok mixed (p113c82_1 v8 x0) ⟨b0, s0, s1, trivial, b1, trivial⟩
      · rw [if_neg b1] at h
        replace b1 := Bool.eq_false_iff.2 b1
        obtain ⟨s2, h⟩ := h
        exact AtV.runN tabOk ext113c82Ok mixed (p113c82_2 v8 x0) ⟨b0, s0, s1, trivial, b1, s2, trivial⟩ (ih2 _ _ _ h K q)
    · rw [if_neg b0] at h
      replace b0 := Bool.eq_false_iff.2 b0
      subst h
      exact AtV.fin Tryz.func113 tabOk ext113c82Ok mixed (p113c82_3 v8 x0) ⟨b0, trivial⟩



def g113c82_0 (x0 : List TyB2) : Int := idx (x0.findIdx? g82_0)
def P113c82 (x0 : List TyB2) : Prop := True

theorem top113c82 (x0 : List TyB2) (hm : x0.length ≤ maxLen) : R113c82 (x0.length + 1 + 1) x0 [⟨.int .i64, g113c82_0 x0⟩] := by
  rw [R113c82]
  have key := loop_find x0 ((0 : Int), (0 : Int), (0 : Int), ()) g82_0 [(⟨.int .i64, -1⟩ : Dyn)] (fun k => [⟨.int .i64, k⟩]) (fun n i ds => R113c82_2 n i x0 ds) (fun n => ?_) (fun n i hi hok ds hr => ?_) (fun n i hi hok => ?_)
  · unfold g113c82_0
    cases h : x0.findIdx? g82_0 <;> rw [h] at key <;> exact key
  · rw [R113c82_2, if_neg (by simp)]
  · rw [R113c82_2, if_pos (by simp; omega)]
    simp only [Int.toNat_natCast]
    refine ⟨by omega, by omega, ?_⟩
    rw [if_neg (by rw [hok]; simp)]
    exact ⟨inR_up hm hi, hr⟩
  · rw [R113c82_2, if_pos (by simp; omega)]
    simp only [Int.toNat_natCast]
    refine ⟨by omega, by omega, ?_⟩
    rw [if_pos hok] <;> trivial

def S113c82 : Am.Spec := { sig := sig113c82, pre := fun ⟨x0, _⟩ => P113c82 x0, res := fun ⟨x0, _⟩ => [⟨Ty.int .i64, g113c82_0 x0⟩] }
theorem con113c82 : Contract Tryz.prog 113 S113c82 := contract_of Tryz.func113 hb113c82 (Nat.le_of_ble_eq_true (by kernel_rfl)) (fun ⟨x0, _⟩ h hwf K q =>
  (snd113c82 _).1 x0 _ (top113c82 x0 hwf.1.1) K q)

theorem any113c82 (x0 : List TyB2) : decide (g113c82_0 x0 ≥ 0) = x0.any g82_0 := by
  have := findIdx_any g82_0 x0
  unfold g113c82_0
  cases h : x0.any g82_0 with
  | true => rw [h] at this; simpa using this
  | false => rw [h] at this; simpa using this

end
end Go.Proofs.YtcakiedjgnhjcaaGreat

/- Function 81 (slices.ContainsFunc[[]impl.Hour,impl.Hour]): its runs between cut points. Written by a program of this repo (gen). -/
set_option linter.unusedVariables false
set_option linter.unusedSimpArgs false
set_option maxRecDepth 100000
namespace Go.Proofs.YtcakiedjgnhjcaaGreat
open Go Go.Am Go.Proofs
noncomputable section
def ext81c82 : Ext := [(113, S113c82), (82, S82)]
theorem call81c82_113 : Callable Tryz.prog 113 := ⟨Tryz.f113, Tryz.func113, by kernel_rfl, by kernel_rfl⟩
theorem call81c82_82 : Callable Tryz.prog 82 := ⟨Tryz.f82, Tryz.func82, by kernel_rfl, by kernel_rfl⟩
theorem ext81c82Ok : ExtOk Tryz.prog ext81c82 := ⟨⟨call81c82_113, con113c82⟩, ⟨call81c82_82, con82⟩, trivial⟩

noncomputable def b81c82 : Code := bodyOf Tryz.f81
theorem hb81c82 : Tryz.f81.body = some b81c82 := by kernel_rfl
def sig81c82 : List AT := [AT.v (Ty.sl (Ty.cons (Ty.int .i64) (Ty.cons (Ty.int .i64) (Ty.cons (Ty.int .i64) Ty.unit)))), AT.fn 82 []]
def tys81c82 : List Ty := [Ty.bool]
def kds81c82 : List RK := []
def oks81c82 : List AT := owns sig81c82
def P81c82 (x0 : List TyB2) : Prop := True
def g81c82_0 (x0 : List TyB2) : Bool := decide (g113c82_0 x0 ≥ 0)
theorem p81c82_0 (x0 : List TyB2) : runF tab ext81c82 false 9 [] 2000 [] oks81c82 kds81c82 tys81c82 Tryz.f81.results [] [.code b81c82] (entE 0 0 sig81c82 (x0, (), ())) (entL sig81c82 (x0, (), ())) = some ([Dyn.mk Ty.bool (decide (g113c82_0 x0 ≥ 0))], [], [True]) := by kernel_rfl
theorem at81c82 (x0 : List TyB2) (h : P81c82 x0) (K : Ctx) (q : Nat → Value) : AtV Tryz.prog 81 (PostR kds81c82 oks81c82 [⟨Ty.bool, g81c82_0 x0⟩] [] [] q K) 9 K q [] [.code b81c82] (entE 0 0 sig81c82 (x0, (), ())) (entL sig81c82 (x0, (), ())) := by
  unfold P81c82 at h
  unfold g81c82_0
  exact AtV.fin Tryz.func81 tabOk ext81c82Ok mixed (p81c82_0 x0) ⟨trivial, trivial⟩

def S81c82 : Am.Spec := { sig := sig81c82, pre := fun ⟨x0, _⟩ => P81c82 x0, res := fun ⟨x0, _⟩ => [⟨Ty.bool, g81c82_0 x0⟩], kds := kds81c82 }
theorem con81c82 : Contract Tryz.prog 81 S81c82 := contract_of Tryz.func81 hb81c82 (Nat.le_of_ble_eq_true (by kernel_rfl)) (fun ⟨x0, _⟩ h _ K q => at81c82 x0 h K q)


end
end Go.Proofs.YtcakiedjgnhjcaaGreat

/- Function 32 (impl.ValidHours): its runs between cut points. Written by a program of this repo (gen). -/
set_option linter.unusedVariables false
set_option linter.unusedSimpArgs false
set_option maxRecDepth 100000
namespace Go.Proofs.YtcakiedjgnhjcaaGreat
open Go Go.Am Go.Proofs
noncomputable section
def ext32 : Ext := [(81, S81c82)]
theorem call32_81 : Callable Tryz.prog 81 := ⟨Tryz.f81, Tryz.func81, by kernel_rfl, by kernel_rfl⟩
theorem ext32Ok : ExtOk Tryz.prog ext32 := ⟨⟨call32_81, con81c82⟩, trivial⟩

noncomputable def b32 : Code := bodyOf Tryz.f32
theorem hb32 : Tryz.f32.body = some b32 := by kernel_rfl
def sig32 : List AT := [AT.v (Ty.sl (Ty.cons (Ty.int .i64) (Ty.cons (Ty.int .i64) (Ty.cons (Ty.int .i64) Ty.unit))))]
def tys32 : List Ty := [Ty.bool]
def kds32 : List RK := []
def oks32 : List AT := owns sig32
def P32 (x0 : List TyB2) : Prop := True
def g32_0 (x0 : List TyB2) : Bool := (if (decide ((↑(List.length x0) : Int) ≤ 48)) = true then !g81c82_0 x0 else false)
theorem p32_0 (x0 : List TyB2) : runF tab ext32 false 11 [] 2000 [] oks32 kds32 tys32 Tryz.f32.results [true] [.code b32] (entE 0 0 sig32 (x0, ())) (entL sig32 (x0, ())) = some ([Dyn.mk Ty.bool !g81c82_0 x0], [], [decide ((↑(List.length x0) : Int) ≤ 48) = true, True]) := by kernel_rfl
theorem p32_1 (x0 : List TyB2) : runF tab ext32 false 11 [] 2000 [] oks32 kds32 tys32 Tryz.f32.results [false] [.code b32] (entE 0 0 sig32 (x0, ())) (entL sig32 (x0, ())) = some ([Dyn.mk Ty.bool false], [], [decide ((↑(List.length x0) : Int) ≤ 48) = false]) := by kernel_rfl
theorem at32 (x0 : List TyB2) (h : P32 x0) (K : Ctx) (q : Nat → Value) : AtV Tryz.prog 32 (PostR kds32 oks32 [⟨Ty.bool, g32_0 x0⟩] [] [] q K) 11 K q [] [.code b32] (entE 0 0 sig32 (x0, ())) (entL sig32 (x0, ())) := by
  unfold P32 at h
  unfold g32_0
  by_cases b0 : (decide ((↑(List.length x0) : Int) ≤ 48)) = true
  · try simp only [if_pos b0] at h ⊢
    exact AtV.fin Tryz.func32 tabOk ext32Ok mixed (p32_0 x0) ⟨b0, trivial, trivial⟩
  · try simp only [if_neg b0] at h ⊢
    replace b0 := Bool.eq_false_iff.2 b0
    exact AtV.fin Tryz.func32 tabOk ext32Ok mixed (p32_1 x0) ⟨b0, trivial⟩

def S32 : Am.Spec := { sig := sig32, pre := fun ⟨x0, _⟩ => P32 x0, res := fun ⟨x0, _⟩ => [⟨Ty.bool, g32_0 x0⟩], kds := kds32 }
theorem con32 : Contract Tryz.prog 32 S32 := contract_of Tryz.func32 hb32 (Nat.le_of_ble_eq_true (by kernel_rfl)) (fun ⟨x0, _⟩ h _ K q => at32 x0 h K q)


end
end Go.Proofs.YtcakiedjgnhjcaaGreat

/- Function 115 (impl.isWeather): its runs between cut points. Written by a program of this repo (gen). -/
set_option linter.unusedVariables false
set_option linter.unusedSimpArgs false
set_option maxRecDepth 100000
namespace Go.Proofs.YtcakiedjgnhjcaaGreat
open Go Go.Am Go.Proofs
noncomputable section
def ext115 : Ext := [(80, S80)]
theorem call115_80 : Callable Tryz.prog 80 := ⟨Tryz.f80, Tryz.func80, by kernel_rfl, by kernel_rfl⟩
theorem ext115Ok : ExtOk Tryz.prog ext115 := ⟨⟨call115_80, con80⟩, trivial⟩

noncomputable def b115 : Code := bodyOf Tryz.f115
theorem hb115 : Tryz.f115.body = some b115 := by kernel_rfl
def sig115 : List AT := [AT.v (Ty.int .i64)]
def tys115 : List Ty := [Ty.bool]
def kds115 : List RK := []
def oks115 : List AT := owns sig115
def P115 (x0 : Int) : Prop := True
def g115_0 (x0 : Int) : Bool := g80_0 x0 1 4
theorem p115_0 (x0 : Int) : runF tab ext115 false 5 [] 2000 [] oks115 kds115 tys115 Tryz.f115.results [] [.code b115] (entE 0 0 sig115 (x0, ())) (entL sig115 (x0, ())) = some ([Dyn.mk Ty.bool (g80_0 x0 1 4)], [], [True]) := by kernel_rfl
theorem at115 (x0 : Int) (h : P115 x0) (K : Ctx) (q : Nat → Value) : AtV Tryz.prog 115 (PostR kds115 oks115 [⟨Ty.bool, g115_0 x0⟩] [] [] q K) 5 K q [] [.code b115] (entE 0 0 sig115 (x0, ())) (entL sig115 (x0, ())) := by
  unfold P115 at h
  unfold g115_0
  exact AtV.fin Tryz.func115 tabOk ext115Ok mixed (p115_0 x0) ⟨trivial, trivial⟩

def S115 : Am.Spec := { sig := sig115, pre := fun ⟨x0, _⟩ => P115 x0, res := fun ⟨x0, _⟩ => [⟨Ty.bool, g115_0 x0⟩], kds := kds115 }
theorem con115 : Contract Tryz.prog 115 S115 := contract_of Tryz.func115 hb115 (Nat.le_of_ble_eq_true (by kernel_rfl)) (fun ⟨x0, _⟩ h _ K q => at115 x0 h K q)


end
end Go.Proofs.YtcakiedjgnhjcaaGreat

/- Function 116 (impl.isPace): its runs between cut points. Written by a program of this repo (gen). -/
set_option linter.unusedVariables false
set_option linter.unusedSimpArgs false
set_option maxRecDepth 100000
namespace Go.Proofs.YtcakiedjgnhjcaaGreat
open Go Go.Am Go.Proofs
noncomputable section
def ext116 : Ext := [(80, S80)]
theorem call116_80 : Callable Tryz.prog 80 := ⟨Tryz.f80, Tryz.func80, by kernel_rfl, by kernel_rfl⟩
theorem ext116Ok : ExtOk Tryz.prog ext116 := ⟨⟨call116_80, con80⟩, trivial⟩

noncomputable def b116 : Code := bodyOf Tryz.f116
theorem hb116 : Tryz.f116.body = some b116 := by kernel_rfl
def sig116 : List AT := [AT.v (Ty.int .i64)]
def tys116 : List Ty := [Ty.bool]
def kds116 : List RK := []
def oks116 : List AT := owns sig116
def P116 (x0 : Int) : Prop := True
def g116_0 (x0 : Int) : Bool := g80_0 x0 0 20000
theorem p116_0 (x0 : Int) : runF tab ext116 false 5 [] 2000 [] oks116 kds116 tys116 Tryz.f116.results [] [.code b116] (entE 0 0 sig116 (x0, ())) (entL sig116 (x0, ())) = some ([Dyn.mk Ty.bool (g80_0 x0 0 20000)], [], [True]) := by kernel_rfl
theorem at116 (x0 : Int) (h : P116 x0) (K : Ctx) (q : Nat → Value) : AtV Tryz.prog 116 (PostR kds116 oks116 [⟨Ty.bool, g116_0 x0⟩] [] [] q K) 5 K q [] [.code b116] (entE 0 0 sig116 (x0, ())) (entL sig116 (x0, ())) := by
  unfold P116 at h
  unfold g116_0
  exact AtV.fin Tryz.func116 tabOk ext116Ok mixed (p116_0 x0) ⟨trivial, trivial⟩

def S116 : Am.Spec := { sig := sig116, pre := fun ⟨x0, _⟩ => P116 x0, res := fun ⟨x0, _⟩ => [⟨Ty.bool, g116_0 x0⟩], kds := kds116 }
theorem con116 : Contract Tryz.prog 116 S116 := contract_of Tryz.func116 hb116 (Nat.le_of_ble_eq_true (by kernel_rfl)) (fun ⟨x0, _⟩ h _ K q => at116 x0 h K q)


end
end Go.Proofs.YtcakiedjgnhjcaaGreat

/- Function 86 (impl.validLimit): its runs between cut points. Written by a program of this repo (gen). -/
set_option linter.unusedVariables false
set_option linter.unusedSimpArgs false
set_option maxRecDepth 100000
namespace Go.Proofs.YtcakiedjgnhjcaaGreat
open Go Go.Am Go.Proofs
noncomputable section
def ext86 : Ext := [(115, S115), (80, S80), (116, S116)]
theorem call86_115 : Callable Tryz.prog 115 := ⟨Tryz.f115, Tryz.func115, by kernel_rfl, by kernel_rfl⟩
theorem call86_80 : Callable Tryz.prog 80 := ⟨Tryz.f80, Tryz.func80, by kernel_rfl, by kernel_rfl⟩
theorem call86_116 : Callable Tryz.prog 116 := ⟨Tryz.f116, Tryz.func116, by kernel_rfl, by kernel_rfl⟩
theorem ext86Ok : ExtOk Tryz.prog ext86 := ⟨⟨call86_115, con115⟩, ⟨call86_80, con80⟩, ⟨call86_116, con116⟩, trivial⟩

noncomputable def b86 : Code := bodyOf Tryz.f86
theorem hb86 : Tryz.f86.body = some b86 := by kernel_rfl
def sig86 : List AT := [AT.v (Ty.cons (Ty.int .i64) (Ty.cons (Ty.int .i64) (Ty.cons (Ty.int .i64) Ty.unit)))]
def tys86 : List Ty := [Ty.bool]
def kds86 : List RK := []
def oks86 : List AT := owns sig86
def P86 (x0 : Int × Int × Int × Unit) : Prop := True
def g86_0 (x0 : Int × Int × Int × Unit) : Bool := (if (g115_0 x0.1) = true then (if (g80_0 x0.2.1 0 1000) = true then g116_0 x0.2.2.1 else false) else false)
theorem p86_0 (x0 : Int × Int × Int × Unit) : runF tab ext86 false 16 [] 2000 [] oks86 kds86 tys86 Tryz.f86.results [true, true] [.code b86] (entE 0 0 sig86 (x0, ())) (entL sig86 (x0, ())) = some ([Dyn.mk Ty.bool (g116_0 x0.2.2.1)], [], [True, g115_0 x0.1 = true, True, g80_0 x0.2.1 0 1000 = true, True]) := by kernel_rfl
theorem p86_1 (x0 : Int × Int × Int × Unit) : runF tab ext86 false 16 [] 2000 [] oks86 kds86 tys86 Tryz.f86.results [true, false] [.code b86] (entE 0 0 sig86 (x0, ())) (entL sig86 (x0, ())) = some ([Dyn.mk Ty.bool false], [], [True, g115_0 x0.1 = true, True, g80_0 x0.2.1 0 1000 = false]) := by kernel_rfl
theorem p86_2 (x0 : Int × Int × Int × Unit) : runF tab ext86 false 16 [] 2000 [] oks86 kds86 tys86 Tryz.f86.results [false, false] [.code b86] (entE 0 0 sig86 (x0, ())) (entL sig86 (x0, ())) = some ([Dyn.mk Ty.bool false], [], [True, g115_0 x0.1 = false, false = false]) := by kernel_rfl
theorem at86 (x0 : Int × Int × Int × Unit) (h : P86 x0) (K : Ctx) (q : Nat → Value) : AtV Tryz.prog 86 (PostR kds86 oks86 [⟨Ty.bool, g86_0 x0⟩] [] [] q K) 16 K q [] [.code b86] (entE 0 0 sig86 (x0, ())) (entL sig86 (x0, ())) := by
  unfold P86 at h
  unfold g86_0
  by_cases b0 : (g115_0 x0.1) = true
  · try simp only [if_pos b0] at h ⊢
    by_cases b1 : (g80_0 x0.2.1 0 1000) = true
    · try simp only [if_pos b1] at h ⊢
      exact AtV.fin Tryz.func86 tabOk ext86Ok mixed (p86_0 x0) ⟨trivial, b0, trivial, b1, trivial, trivial⟩
    · try simp only [if_neg b1] at h ⊢
      replace b1 := Bool.eq_false_iff.2 b1
      exact AtV.fin Tryz.func86 tabOk ext86Ok mixed (p86_1 x0) ⟨trivial, b0, trivial, b1, trivial⟩
  · try simp only [if_neg b0] at h ⊢
    replace b0 := Bool.eq_false_iff.2 b0
    exact AtV.fin Tryz.func86 tabOk ext86Ok mixed (p86_2 x0) ⟨trivial, b0, rfl, trivial⟩

def S86 : Am.Spec := { sig := sig86, pre := fun ⟨x0, _⟩ => P86 x0, res := fun ⟨x0, _⟩ => [⟨Ty.bool, g86_0 x0⟩], kds := kds86 }
theorem con86 : Contract Tryz.prog 86 S86 := contract_of Tryz.func86 hb86 (Nat.le_of_ble_eq_true (by kernel_rfl)) (fun ⟨x0, _⟩ h _ K q => at86 x0 h K q)


end
end Go.Proofs.YtcakiedjgnhjcaaGreat

/- Function 85 (impl.ValidLimits$1): its runs between cut points. Written by a program of this repo (gen). -/
set_option linter.unusedVariables false
set_option linter.unusedSimpArgs false
set_option maxRecDepth 100000
namespace Go.Proofs.YtcakiedjgnhjcaaGreat
open Go Go.Am Go.Proofs
noncomputable section
def ext85 : Ext := [(86, S86)]
theorem call85_86 : Callable Tryz.prog 86 := ⟨Tryz.f86, Tryz.func86, by kernel_rfl, by kernel_rfl⟩
theorem ext85Ok : ExtOk Tryz.prog ext85 := ⟨⟨call85_86, con86⟩, trivial⟩

noncomputable def b85 : Code := bodyOf Tryz.f85
theorem hb85 : Tryz.f85.body = some b85 := by kernel_rfl
def sig85 : List AT := [AT.v (Ty.cons (Ty.int .i64) (Ty.cons (Ty.int .i64) (Ty.cons (Ty.int .i64) Ty.unit)))]
def tys85 : List Ty := [Ty.bool]
def kds85 : List RK := []
def oks85 : List AT := owns sig85
def P85 (x0 : Int × Int × Int × Unit) : Prop := True
def g85_0 (x0 : Int × Int × Int × Unit) : Bool := !g86_0 x0
theorem p85_0 (x0 : Int × Int × Int × Unit) : runF tab ext85 false 6 [] 2000 [] oks85 kds85 tys85 Tryz.f85.results [] [.code b85] (entE 0 0 sig85 (x0, ())) (entL sig85 (x0, ())) = some ([Dyn.mk Ty.bool !g86_0 x0], [], [True]) := by kernel_rfl
theorem at85 (x0 : Int × Int × Int × Unit) (h : P85 x0) (K : Ctx) (q : Nat → Value) : AtV Tryz.prog 85 (PostR kds85 oks85 [⟨Ty.bool, g85_0 x0⟩] [] [] q K) 6 K q [] [.code b85] (entE 0 0 sig85 (x0, ())) (entL sig85 (x0, ())) := by
  unfold P85 at h
  unfold g85_0
  exact AtV.fin Tryz.func85 tabOk ext85Ok mixed (p85_0 x0) ⟨trivial, trivial⟩

def S85 : Am.Spec := { sig := sig85, pre := fun ⟨x0, _⟩ => P85 x0, res := fun ⟨x0, _⟩ => [⟨Ty.bool, g85_0 x0⟩], kds := kds85 }
theorem con85 : Contract Tryz.prog 85 S85 := contract_of Tryz.func85 hb85 (Nat.le_of_ble_eq_true (by kernel_rfl)) (fun ⟨x0, _⟩ h _ K q => at85 x0 h K q)


end
end Go.Proofs.YtcakiedjgnhjcaaGreat

/- Function 114 (slices.IndexFunc[[]impl.Limit,impl.Limit]): its runs between cut points. Written by a program of this repo (gen). -/
set_option linter.unusedVariables false
set_option linter.unusedSimpArgs false
set_option maxRecDepth 100000
namespace Go.Proofs.YtcakiedjgnhjcaaGreat
open Go Go.Am Go.Proofs
noncomputable section
def ext114c85 : Ext := [(85, S85)]
theorem call114c85_85 : Callable Tryz.prog 85 := ⟨Tryz.f85, Tryz.func85, by kernel_rfl, by kernel_rfl⟩
theorem ext114c85Ok : ExtOk Tryz.prog ext114c85 := ⟨⟨call114c85_85, con85⟩, trivial⟩

noncomputable def b114c85 : Code := bodyOf Tryz.f114
theorem hb114c85 : Tryz.f114.body = some b114c85 := by kernel_rfl
def sig114c85 : List AT := [AT.v (Ty.sl (Ty.cons (Ty.int .i64) (Ty.cons (Ty.int .i64) (Ty.cons (Ty.int .i64) Ty.unit)))), AT.fn 85 []]
def tys114c85 : List Ty := [Ty.int .i64]
def kds114c85 : List RK := []
def oks114c85 : List AT := owns sig114c85
def E114c85_2 (v8 : Int) (x0 : List TyB2) : Env := [(0, PV.a (Atom.sl (Ty.cons (Ty.int .i64) (Ty.cons (Ty.int .i64) (Ty.cons (Ty.int .i64) Ty.unit))) x0)), (1, PV.fn 85 []), (7, PV.a (Atom.val (Value.int .i64 (↑(List.length x0) : Int)))), (8, PV.a (Atom.val (Value.int .i64 v8)))]
def L114c85_2 (v8 : Int) (x0 : List TyB2) : Heap := []
mutual
def R114c85 : Nat → List TyB2 → List Dyn → Prop
  | 0, _, _ => False
  | n + 1, x0, ds => (R114c85_2 n (0) (x0) ds)
def R114c85_2 : Nat → Int → List TyB2 → List Dyn → Prop
  | 0, _, _, _ => False
  | n + 1, v8, x0, ds => (if (decide (v8 < (↑(List.length x0) : Int))) = true then ((0 ≤ v8) ∧ (v8 < (↑(List.length x0) : Int)) ∧ (if (g85_0 (List.getD x0 (Int.toNat v8) (0, 0, 0, ()))) = true then (ds = [Dyn.mk (Ty.int .i64) v8]) else ((InR .i64 (v8 + 1)) ∧ (R114c85_2 n (v8 + 1) (x0) ds)))) else (ds = [Dyn.mk (Ty.int .i64) (-1)]))
end
theorem p114c85_0 (x0 : List TyB2) : Am.runN tab ext114c85 false 19 [] 2000 [] [] [0, 1, 7, 8] [] [] [.code b114c85] (entE 0 0 sig114c85 (x0, (), ())) (entL sig114c85 (x0, (), ())) = some (cutAt b114c85 2, E114c85_2 (0) (x0), L114c85_2 (0) (x0), []) := by kernel_rfl
theorem p114c85_1 (v8 : Int) (x0 : List TyB2) : runF tab ext114c85 false 19 [] 2000 [] oks114c85 kds114c85 tys114c85 Tryz.f114.results [true, true] (cutAt b114c85 2) (E114c85_2 v8 x0) (L114c85_2 v8 x0) = some ([Dyn.mk (Ty.int .i64) v8], [], [decide (v8 < (↑(List.length x0) : Int)) = true, 0 ≤ v8, v8 < (↑(List.length x0) : Int), True, g85_0 (List.getD x0 (Int.toNat v8) (0, 0, 0, ())) = true]) := by kernel_rfl
theorem p114c85_2 (v8 : Int) (x0 : List TyB2) : Am.runN tab ext114c85 false 19 [] 2000 [] [] [0, 1, 7, 8] [] [true, false] (cutAt b114c85 2) (E114c85_2 v8 x0) (L114c85_2 v8 x0) = some (cutAt b114c85 2, E114c85_2 (v8 + 1) (x0), L114c85_2 (v8 + 1) (x0), [decide (v8 < (↑(List.length x0) : Int)) = true, 0 ≤ v8, v8 < (↑(List.length x0) : Int), True, g85_0 (List.getD x0 (Int.toNat v8) (0, 0, 0, ())) = false, InR .i64 (v8 + 1)]) := by kernel_rfl
theorem p114c85_3 (v8 : Int) (x0 : List TyB2) : runF tab ext114c85 false 19 [] 2000 [] oks114c85 kds114c85 tys114c85 Tryz.f114.results [false] (cutAt b114c85 2) (E114c85_2 v8 x0) (L114c85_2 v8 x0) = some ([Dyn.mk (Ty.int .i64) (-1)], [], [decide (v8 < (↑(List.length x0) : Int)) = false]) := by kernel_rfl
theorem snd114c85 : ∀ n, (∀ (x0 : List TyB2) ds, R114c85 n x0 ds → ∀ K q, AtV Tryz.prog 114 (PostR kds114c85 oks114c85 ds [] [] q K) 19 K q [] [.code b114c85] (entE 0 0 sig114c85 (x0, (), ())) (entL sig114c85 (x0, (), ()))) ∧ (∀ (v8 : Int) (x0 : List TyB2) ds, R114c85_2 n v8 x0 ds → ∀ K q, AtV Tryz.prog 114 (PostR kds114c85 oks114c85 ds [] [] q K) 19 K q [] (cutAt b114c85 2) (E114c85_2 v8 x0) (L114c85_2 v8 x0)) := by
  intro n
  induction n with
  | zero => exact ⟨fun _ _ h => by simp only [R114c85] at h, fun _ _ _ h => by simp only [R114c85_2] at h⟩
  | succ n ih =>
  obtain ⟨ih, ih2⟩ := ih
  refine ⟨?_, ?_⟩
  · intro x0 ds h K q
    rw [R114c85] at h
    exact AtV.runN tabOk ext114c85Ok mixed (p114c85_0 x0) trivial (ih2 _ _ _ h K q)

  · intro v8 x0 ds h K q
    rw [R114c85_2] at h
    by_cases b0 : (decide (v8 < (↑(List.length x0) : Int))) = true
    · rw [if_pos b0] at h
      obtain ⟨s0, s1, h⟩ := h
      by_cases b1 : (g85_0 (List.getD x0 (Int.toNat v8) (0, 0, 0, ()))) = true
      · rw [if_pos b1] at h
        subst h
        exact AtV.fin Tryz.func114 tabOk ext114c85Ok mixed (p114c85_1 v8 x0) ⟨b0, s0, s1, trivial, b1, trivial⟩
      · rw [if_neg b1] at h
        replace b1 := Bool.eq_false_iff.2 b1
        obtain ⟨s2, h⟩ := h
        exact AtV.runN tabOk ext114c85Ok mixed (p114c85_2 v8 x0) ⟨b0, s0, s1, trivial, b1, s2, trivial⟩ (ih2 _ _ _ h K q)
    · rw [if_neg b0] at h
      replace b0 := Bool.eq_false_iff.2 b0
      subst h
      exact AtV.fin Tryz.func114 tabOk ext114c85Ok mixed (p114c85_3 v8 x0) ⟨b0, trivial⟩



def g114c85_0 (x0 : List TyB2) : Int := idx (x0.findIdx? g85_0)
def P114c85 (x0 : List TyB2) : Prop := True

theorem top114c85 (x0 : List TyB2) (hm : x0.length ≤ maxLen) : R114c85 (x0.length + 1 + 1) x0 [⟨.int .i64, g114c85_0 x0⟩] := by
  rw [R114c85]
  have key := loop_find x0 ((0 : Int), (0 : Int), (0 : Int), ()) g85_0 [(⟨.int .i64, -1⟩ : Dyn)] (fun k => [⟨.int .i64, k⟩]) (fun n i ds => R114c85_2 n i x0 ds) (fun n => ?_) (fun n i hi hok ds hr => ?_) (fun n i hi hok => ?_)
  · unfold g114c85_0
    cases h : x0.findIdx? g85_0 <;> rw [h] at key <;> exact key
  · rw [R114c85_2, if_neg (by simp)]
  · rw [R114c85_2, if_pos (by simp; omega)]
    simp only [Int.toNat_natCast]
    refine ⟨by omega, by omega, ?_⟩
    rw [if_neg (by rw [hok]; simp)]
    exact ⟨inR_up hm hi, hr⟩
  · rw [R114c85_2, if_pos (by simp; omega)]
    simp only [Int.toNat_natCast]
    refine ⟨by omega, by omega, ?_⟩
    rw [if_pos hok] <;> trivial

def S114c85 : Am.Spec := { sig := sig114c85, pre := fun ⟨x0, _⟩ => P114c85 x0, res := fun ⟨x0, _⟩ => [⟨Ty.int .i64, g114c85_0 x0⟩] }
theorem con114c85 : Contract Tryz.prog 114 S114c85 := contract_of Tryz.func114 hb114c85 (Nat.le_of_ble_eq_true (by kernel_rfl)) (fun ⟨x0, _⟩ h hwf K q =>
  (snd114c85 _).1 x0 _ (top114c85 x0 hwf.1.1) K q)

theorem any114c85 (x0 : List TyB2) : decide (g114c85_0 x0 ≥ 0) = x0.any g85_0 := by
  have := findIdx_any g85_0 x0
  unfold g114c85_0
  cases h : x0.any g85_0 with
  | true => rw [h] at this; simpa using this
  | false => rw [h] at this; simpa using this

end
end Go.Proofs.YtcakiedjgnhjcaaGreat

/- Function 84 (slices.ContainsFunc[[]impl.Limit,impl.Limit]): its runs between cut points. Written by a program of this repo (gen). -/
set_option linter.unusedVariables false
set_option linter.unusedSimpArgs false
set_option maxRecDepth 100000
namespace Go.Proofs.YtcakiedjgnhjcaaGreat
open Go Go.Am Go.Proofs
noncomputable section
def ext84c85 : Ext := [(114, S114c85), (85, S85)]
theorem call84c85_114 : Callable Tryz.prog 114 := ⟨Tryz.f114, Tryz.func114, by kernel_rfl, by kernel_rfl⟩
theorem call84c85_85 : Callable Tryz.prog 85 := ⟨Tryz.f85, Tryz.func85, by kernel_rfl, by kernel_rfl⟩
theorem ext84c85Ok : ExtOk Tryz.prog ext84c85 := ⟨⟨call84c85_114, con114c85⟩, ⟨call84c85_85, con85⟩, trivial⟩

noncomputable def b84c85 : Code := bodyOf Tryz.f84
theorem hb84c85 : Tryz.f84.body = some b84c85 := by kernel_rfl
def sig84c85 : List AT := [AT.v (Ty.sl (Ty.cons (Ty.int .i64) (Ty.cons (Ty.int .i64) (Ty.cons (Ty.int .i64) Ty.unit)))), AT.fn 85 []]
def tys84c85 : List Ty := [Ty.bool]
def kds84c85 : List RK := []
def oks84c85 : List AT := owns sig84c85
def P84c85 (x0 : List TyB2) : Prop := True
def g84c85_0 (x0 : List TyB2) : Bool := decide (g114c85_0 x0 ≥ 0)
theorem p84c85_0 (x0 : List TyB2) : runF tab ext84c85 false 9 [] 2000 [] oks84c85 kds84c85 tys84c85 Tryz.f84.results [] [.code b84c85] (entE 0 0 sig84c85 (x0, (), ())) (entL sig84c85 (x0, (), ())) = some ([Dyn.mk Ty.bool (decide (g114c85_0 x0 ≥ 0))], [], [True]) := by kernel_rfl
theorem at84c85 (x0 : List TyB2) (h : P84c85 x0) (K : Ctx) (q : Nat → Value) : AtV Tryz.prog 84 (PostR kds84c85 oks84c85 [⟨Ty.bool, g84c85_0 x0⟩] [] [] q K) 9 K q [] [.code b84c85] (entE 0 0 sig84c85 (x0, (), ())) (entL sig84c85 (x0, (), ())) := by
  unfold P84c85 at h
  unfold g84c85_0
  exact AtV.fin Tryz.func84 tabOk ext84c85Ok mixed (p84c85_0 x0) ⟨trivial, trivial⟩

def S84c85 : Am.Spec := { sig := sig84c85, pre := fun ⟨x0, _⟩ => P84c85 x0, res := fun ⟨x0, _⟩ => [⟨Ty.bool, g84c85_0 x0⟩], kds := kds84c85 }
theorem con84c85 : Contract Tryz.prog 84 S84c85 := contract_of Tryz.func84 hb84c85 (Nat.le_of_ble_eq_true (by kernel_rfl)) (fun ⟨x0, _⟩ h _ K q => at84c85 x0 h K q)


end
end Go.Proofs.YtcakiedjgnhjcaaGreat

/- Function 33 (impl.ValidLimits): its runs between cut points. Written by a program of this repo (gen). -/
set_option linter.unusedVariables false
set_option linter.unusedSimpArgs false
set_option maxRecDepth 100000
namespace Go.Proofs.YtcakiedjgnhjcaaGreat
open Go Go.Am Go.Proofs
noncomputable section
def ext33 : Ext := [(84, S84c85)]
theorem call33_84 : Callable Tryz.prog 84 := ⟨Tryz.f84, Tryz.func84, by kernel_rfl, by kernel_rfl⟩
theorem ext33Ok : ExtOk Tryz.prog ext33 := ⟨⟨call33_84, con84c85⟩, trivial⟩

noncomputable def b33 : Code := bodyOf Tryz.f33
theorem hb33 : Tryz.f33.body = some b33 := by kernel_rfl
def sig33 : List AT := [AT.v (Ty.sl (Ty.cons (Ty.int .i64) (Ty.cons (Ty.int .i64) (Ty.cons (Ty.int .i64) Ty.unit))))]
def tys33 : List Ty := [Ty.bool]
def kds33 : List RK := []
def oks33 : List AT := owns sig33
def P33 (x0 : List TyB2) : Prop := True
def g33_0 (x0 : List TyB2) : Bool := (if (decide ((↑(List.length x0) : Int) ≤ 8)) = true then !g84c85_0 x0 else false)
theorem p33_0 (x0 : List TyB2) : runF tab ext33 false 11 [] 2000 [] oks33 kds33 tys33 Tryz.f33.results [true] [.code b33] (entE 0 0 sig33 (x0, ())) (entL sig33 (x0, ())) = some ([Dyn.mk Ty.bool !g84c85_0 x0], [], [decide ((↑(List.length x0) : Int) ≤ 8) = true, True]) := by kernel_rfl
theorem p33_1 (x0 : List TyB2) : runF tab ext33 false 11 [] 2000 [] oks33 kds33 tys33 Tryz.f33.results [false] [.code b33] (entE 0 0 sig33 (x0, ())) (entL sig33 (x0, ())) = some ([Dyn.mk Ty.bool false], [], [decide ((↑(List.length x0) : Int) ≤ 8) = false]) := by kernel_rfl
theorem at33 (x0 : List TyB2) (h : P33 x0) (K : Ctx) (q : Nat → Value) : AtV Tryz.prog 33 (PostR kds33 oks33 [⟨Ty.bool, g33_0 x0⟩] [] [] q K) 11 K q [] [.code b33] (entE 0 0 sig33 (x0, ())) (entL sig33 (x0, ())) := by
  unfold P33 at h
  unfold g33_0
  by_cases b0 : (decide ((↑(List.length x0) : Int) ≤ 8)) = true
  · try simp only [if_pos b0] at h ⊢
    exact AtV.fin Tryz.func33 tabOk ext33Ok mixed (p33_0 x0) ⟨b0, trivial, trivial⟩
  · try simp only [if_neg b0] at h ⊢
    replace b0 := Bool.eq_false_iff.2 b0
    exact AtV.fin Tryz.func33 tabOk ext33Ok mixed (p33_1 x0) ⟨b0, trivial⟩

def S33 : Am.Spec := { sig := sig33, pre := fun ⟨x0, _⟩ => P33 x0, res := fun ⟨x0, _⟩ => [⟨Ty.bool, g33_0 x0⟩], kds := kds33 }
theorem con33 : Contract Tryz.prog 33 S33 := contract_of Tryz.func33 hb33 (Nat.le_of_ble_eq_true (by kernel_rfl)) (fun ⟨x0, _⟩ h _ K q => at33 x0 h K q)


end
end Go.Proofs.YtcakiedjgnhjcaaGreat

/- Function 34 (impl.ValidMotor): its runs between cut points. Written by a program of this repo (gen). -/
set_option linter.unusedVariables false
set_option linter.unusedSimpArgs false
set_option maxRecDepth 100000
namespace Go.Proofs.YtcakiedjgnhjcaaGreat
open Go Go.Am Go.Proofs
noncomputable section
def ext34 : Ext := [(80, S80)]
theorem call34_80 : Callable Tryz.prog 80 := ⟨Tryz.f80, Tryz.func80, by kernel_rfl, by kernel_rfl⟩
theorem ext34Ok : ExtOk Tryz.prog ext34 := ⟨⟨call34_80, con80⟩, trivial⟩

noncomputable def b34 : Code := bodyOf Tryz.f34
theorem hb34 : Tryz.f34.body = some b34 := by kernel_rfl
def sig34 : List AT := [AT.v (Ty.cons (Ty.int .i64) (Ty.cons (Ty.int .i64) (Ty.cons (Ty.int .i64) Ty.unit)))]
def tys34 : List Ty := [Ty.bool]
def kds34 : List RK := []
def oks34 : List AT := owns sig34
def P34 (x0 : Int × Int × Int × Unit) : Prop := True
def g34_0 (x0 : Int × Int × Int × Unit) : Bool := (if (g80_0 x0.1 1000 10000000) = true then (if (g80_0 x0.2.1 100 1000000) = true then g80_0 x0.2.2.1 0 500 else false) else false)
theorem p34_0 (x0 : Int × Int × Int × Unit) : runF tab ext34 false 16 [] 2000 [] oks34 kds34 tys34 Tryz.f34.results [true, true] [.code b34] (entE 0 0 sig34 (x0, ())) (entL sig34 (x0, ())) = some ([Dyn.mk Ty.bool (g80_0 x0.2.2.1 0 500)], [], [True, g80_0 x0.1 1000 10000000 = true, True, g80_0 x0.2.1 100 1000000 = true, True]) := by kernel_rfl
theorem p34_1 (x0 : Int × Int × Int × Unit) : runF tab ext34 false 16 [] 2000 [] oks34 kds34 tys34 Tryz.f34.results [true, false] [.code b34] (entE 0 0 sig34 (x0, ())) (entL sig34 (x0, ())) = some ([Dyn.mk Ty.bool false], [], [True, g80_0 x0.1 1000 10000000 = true, True, g80_0 x0.2.1 100 1000000 = false]) := by kernel_rfl
theorem p34_2 (x0 : Int × Int × Int × Unit) : runF tab ext34 false 16 [] 2000 [] oks34 kds34 tys34 Tryz.f34.results [false, false] [.code b34] (entE 0 0 sig34 (x0, ())) (entL sig34 (x0, ())) = some ([Dyn.mk Ty.bool false], [], [True, g80_0 x0.1 1000 10000000 = false, false = false]) := by kernel_rfl
theorem at34 (x0 : Int × Int × Int × Unit) (h : P34 x0) (K : Ctx) (q : Nat → Value) : AtV Tryz.prog 34 (PostR kds34 oks34 [⟨Ty.bool, g34_0 x0⟩] [] [] q K) 16 K q [] [.code b34] (entE 0 0 sig34 (x0, ())) (entL sig34 (x0, ())) := by
  unfold P34 at h
  unfold g34_0
  by_cases b0 : (g80_0 x0.1 1000 10000000) = true
  · try simp only [if_pos b0] at h ⊢
    by_cases b1 : (g80_0 x0.2.1 100 1000000) = true
    · try simp only [if_pos b1] at h ⊢
      exact AtV.fin Tryz.func34 tabOk ext34Ok mixed (p34_0 x0) ⟨trivial, b0, trivial, b1, trivial, trivial⟩
    · try simp only [if_neg b1] at h ⊢
      replace b1 := Bool.eq_false_iff.2 b1
      exact AtV.fin Tryz.func34 tabOk ext34Ok mixed (p34_1 x0) ⟨trivial, b0, trivial, b1, trivial⟩
  · try simp only [if_neg b0] at h ⊢
    replace b0 := Bool.eq_false_iff.2 b0
    exact AtV.fin Tryz.func34 tabOk ext34Ok mixed (p34_2 x0) ⟨trivial, b0, rfl, trivial⟩

def S34 : Am.Spec := { sig := sig34, pre := fun ⟨x0, _⟩ => P34 x0, res := fun ⟨x0, _⟩ => [⟨Ty.bool, g34_0 x0⟩], kds := kds34 }
theorem con34 : Contract Tryz.prog 34 S34 := contract_of Tryz.func34 hb34 (Nat.le_of_ble_eq_true (by kernel_rfl)) (fun ⟨x0, _⟩ h _ K q => at34 x0 h K q)


end
end Go.Proofs.YtcakiedjgnhjcaaGreat

/- Function 87 ((impl.Door).moves): its runs between cut points. Written by a program of this repo (gen). -/
set_option linter.unusedVariables false
set_option linter.unusedSimpArgs false
set_option maxRecDepth 100000
namespace Go.Proofs.YtcakiedjgnhjcaaGreat
open Go Go.Am Go.Proofs
noncomputable section
def ext87 : Ext := []
theorem ext87Ok : ExtOk Tryz.prog ext87 := trivial

noncomputable def b87 : Code := bodyOf Tryz.f87
theorem hb87 : Tryz.f87.body = some b87 := by kernel_rfl
def sig87 : List AT := [AT.v (Ty.cons (Ty.int .i64) (Ty.cons (Ty.int .i64) (Ty.cons (Ty.int .i64) Ty.unit)))]
def tys87 : List Ty := [Ty.bool]
def kds87 : List RK := []
def oks87 : List AT := owns sig87
def P87 (x0 : Int × Int × Int × Unit) : Prop := True
def g87_0 (x0 : Int × Int × Int × Unit) : Bool := (if (x0.1 == 1) = true then true else x0.1 == 3)
theorem p87_0 (x0 : Int × Int × Int × Unit) : runF tab ext87 false 11 [] 2000 [] oks87 kds87 tys87 Tryz.f87.results [true] [.code b87] (entE 0 0 sig87 (x0, ())) (entL sig87 (x0, ())) = some ([Dyn.mk Ty.bool true], [], [(x0.1 == 1) = true]) := by kernel_rfl
theorem p87_1 (x0 : Int × Int × Int × Unit) : runF tab ext87 false 11 [] 2000 [] oks87 kds87 tys87 Tryz.f87.results [false] [.code b87] (entE 0 0 sig87 (x0, ())) (entL sig87 (x0, ())) = some ([Dyn.mk Ty.bool (x0.1 == 3)], [], [(x0.1 == 1) = false]) := by kernel_rfl
theorem at87 (x0 : Int × Int × Int × Unit) (h : P87 x0) (K : Ctx) (q : Nat → Value) : AtV Tryz.prog 87 (PostR kds87 oks87 [⟨Ty.bool, g87_0 x0⟩] [] [] q K) 11 K q [] [.code b87] (entE 0 0 sig87 (x0, ())) (entL sig87 (x0, ())) := by
  unfold P87 at h
  unfold g87_0
  by_cases b0 : (x0.1 == 1) = true
  · try simp only [if_pos b0] at h ⊢
    exact AtV.fin Tryz.func87 tabOk ext87Ok mixed (p87_0 x0) ⟨b0, trivial⟩
  · try simp only [if_neg b0] at h ⊢
    replace b0 := Bool.eq_false_iff.2 b0
    exact AtV.fin Tryz.func87 tabOk ext87Ok mixed (p87_1 x0) ⟨b0, trivial⟩

def S87 : Am.Spec := { sig := sig87, pre := fun ⟨x0, _⟩ => P87 x0, res := fun ⟨x0, _⟩ => [⟨Ty.bool, g87_0 x0⟩], kds := kds87 }
theorem con87 : Contract Tryz.prog 87 S87 := contract_of Tryz.func87 hb87 (Nat.le_of_ble_eq_true (by kernel_rfl)) (fun ⟨x0, _⟩ h _ K q => at87 x0 h K q)


end
end Go.Proofs.YtcakiedjgnhjcaaGreat

/- Function 35 (impl.ValidDoor): its runs between cut points. Written by a program of this repo (gen). -/
set_option linter.unusedVariables false
set_option linter.unusedSimpArgs false
set_option maxRecDepth 100000
namespace Go.Proofs.YtcakiedjgnhjcaaGreat
open Go Go.Am Go.Proofs
noncomputable section
def ext35 : Ext := [(80, S80), (87, S87)]
theorem call35_80 : Callable Tryz.prog 80 := ⟨Tryz.f80, Tryz.func80, by kernel_rfl, by kernel_rfl⟩
theorem call35_87 : Callable Tryz.prog 87 := ⟨Tryz.f87, Tryz.func87, by kernel_rfl, by kernel_rfl⟩
theorem ext35Ok : ExtOk Tryz.prog ext35 := ⟨⟨call35_80, con80⟩, ⟨call35_87, con87⟩, trivial⟩

noncomputable def b35 : Code := bodyOf Tryz.f35
theorem hb35 : Tryz.f35.body = some b35 := by kernel_rfl
def sig35 : List AT := [AT.v (Ty.cons (Ty.int .i64) (Ty.cons (Ty.int .i64) (Ty.cons (Ty.int .i64) Ty.unit)))]
def tys35 : List Ty := [Ty.bool]
def kds35 : List RK := []
def oks35 : List AT := owns sig35
def P35 (x0 : Int × Int × Int × Unit) : Prop := True
def g35_0 (x0 : Int × Int × Int × Unit) : Bool := (if (!g80_0 x0.1 0 3) = true then false else (if (!g87_0 x0) = true then (if (x0.2.1 == 0) = true then x0.2.2.1 == 0 else false) else (if (g80_0 x0.2.1 0 2) = true then g80_0 x0.2.2.1 0 3 else false)))
theorem p35_0 (x0 : Int × Int × Int × Unit) : runF tab ext35 false 26 [] 2000 [] oks35 kds35 tys35 Tryz.f35.results [true] [.code b35] (entE 0 0 sig35 (x0, ())) (entL sig35 (x0, ())) = some ([Dyn.mk Ty.bool false], [], [True, (!g80_0 x0.1 0 3) = true]) := by kernel_rfl
theorem p35_1 (x0 : Int × Int × Int × Unit) : runF tab ext35 false 26 [] 2000 [] oks35 kds35 tys35 Tryz.f35.results [false, true, true] [.code b35] (entE 0 0 sig35 (x0, ())) (entL sig35 (x0, ())) = some ([Dyn.mk Ty.bool (x0.2.2.1 == 0)], [], [True, (!g80_0 x0.1 0 3) = false, True, (!g87_0 x0) = true, (x0.2.1 == 0) = true]) := by kernel_rfl
theorem p35_2 (x0 : Int × Int × Int × Unit) : runF tab ext35 false 26 [] 2000 [] oks35 kds35 tys35 Tryz.f35.results [false, true, false] [.code b35] (entE 0 0 sig35 (x0, ())) (entL sig35 (x0, ())) = some ([Dyn.mk Ty.bool false], [], [True, (!g80_0 x0.1 0 3) = false, True, (!g87_0 x0) = true, (x0.2.1 == 0) = false]) := by kernel_rfl
theorem p35_3 (x0 : Int × Int × Int × Unit) : runF tab ext35 false 26 [] 2000 [] oks35 kds35 tys35 Tryz.f35.results [false, false, true] [.code b35] (entE 0 0 sig35 (x0, ())) (entL sig35 (x0, ())) = some ([Dyn.mk Ty.bool (g80_0 x0.2.2.1 0 3)], [], [True, (!g80_0 x0.1 0 3) = false, True, (!g87_0 x0) = false, True, g80_0 x0.2.1 0 2 = true, True]) := by kernel_rfl
theorem p35_4 (x0 : Int × Int × Int × Unit) : runF tab ext35 false 26 [] 2000 [] oks35 kds35 tys35 Tryz.f35.results [false, false, false] [.code b35] (entE 0 0 sig35 (x0, ())) (entL sig35 (x0, ())) = some ([Dyn.mk Ty.bool false], [], [True, (!g80_0 x0.1 0 3) = false, True, (!g87_0 x0) = false, True, g80_0 x0.2.1 0 2 = false]) := by kernel_rfl
theorem at35 (x0 : Int × Int × Int × Unit) (h : P35 x0) (K : Ctx) (q : Nat → Value) : AtV Tryz.prog 35 (PostR kds35 oks35 [⟨Ty.bool, g35_0 x0⟩] [] [] q K) 26 K q [] [.code b35] (entE 0 0 sig35 (x0, ())) (entL sig35 (x0, ())) := by
  unfold P35 at h
  unfold g35_0
  by_cases b0 : (!g80_0 x0.1 0 3) = true
  · try simp only [if_pos b0] at h ⊢
    exact AtV.fin Tryz.func35 tabOk ext35Ok mixed (p35_0 x0) ⟨trivial, b0, trivial⟩
  · try simp only [if_neg b0] at h ⊢
    replace b0 := Bool.eq_false_iff.2 b0
    by_cases b1 : (!g87_0 x0) = true
    · try simp only [if_pos b1] at h ⊢
      by_cases b2 : (x0.2.1 == 0) = true
      · try simp only [if_pos b2] at h ⊢
        exact AtV.fin Tryz.func35 tabOk ext35Ok mixed (p35_1 x0) ⟨trivial, b0, trivial, b1, b2, trivial⟩
      · try simp only [if_neg b2] at h ⊢
        replace b2 := Bool.eq_false_iff.2 b2
        exact AtV.fin Tryz.func35 tabOk ext35Ok mixed (p35_2 x0) ⟨trivial, b0, trivial, b1, b2, trivial⟩
    · try simp only [if_neg b1] at h ⊢
      replace b1 := Bool.eq_false_iff.2 b1
      by_cases b2 : (g80_0 x0.2.1 0 2) = true
      · try simp only [if_pos b2] at h ⊢
        exact AtV.fin Tryz.func35 tabOk ext35Ok mixed (p35_3 x0) ⟨trivial, b0, trivial, b1, trivial, b2, trivial, trivial⟩
      · try simp only [if_neg b2] at h ⊢
        replace b2 := Bool.eq_false_iff.2 b2
        exact AtV.fin Tryz.func35 tabOk ext35Ok mixed (p35_4 x0) ⟨trivial, b0, trivial, b1, trivial, b2, trivial⟩

def S35 : Am.Spec := { sig := sig35, pre := fun ⟨x0, _⟩ => P35 x0, res := fun ⟨x0, _⟩ => [⟨Ty.bool, g35_0 x0⟩], kds := kds35 }
theorem con35 : Contract Tryz.prog 35 S35 := contract_of Tryz.func35 hb35 (Nat.le_of_ble_eq_true (by kernel_rfl)) (fun ⟨x0, _⟩ h _ K q => at35 x0 h K q)


end
end Go.Proofs.YtcakiedjgnhjcaaGreat

/- Function 117 (impl.isDayMinute): its runs between cut points. Written by a program of this repo (gen). -/
set_option linter.unusedVariables false
set_option linter.unusedSimpArgs false
set_option maxRecDepth 100000
namespace Go.Proofs.YtcakiedjgnhjcaaGreat
open Go Go.Am Go.Proofs
noncomputable section
def ext117 : Ext := [(80, S80)]
theorem call117_80 : Callable Tryz.prog 80 := ⟨Tryz.f80, Tryz.func80, by kernel_rfl, by kernel_rfl⟩
theorem ext117Ok : ExtOk Tryz.prog ext117 := ⟨⟨call117_80, con80⟩, trivial⟩

noncomputable def b117 : Code := bodyOf Tryz.f117
theorem hb117 : Tryz.f117.body = some b117 := by kernel_rfl
def sig117 : List AT := [AT.v (Ty.int .i64)]
def tys117 : List Ty := [Ty.bool]
def kds117 : List RK := []
def oks117 : List AT := owns sig117
def P117 (x0 : Int) : Prop := True
def g117_0 (x0 : Int) : Bool := g80_0 x0 0 1440
theorem p117_0 (x0 : Int) : runF tab ext117 false 5 [] 2000 [] oks117 kds117 tys117 Tryz.f117.results [] [.code b117] (entE 0 0 sig117 (x0, ())) (entL sig117 (x0, ())) = some ([Dyn.mk Ty.bool (g80_0 x0 0 1440)], [], [True]) := by kernel_rfl
theorem at117 (x0 : Int) (h : P117 x0) (K : Ctx) (q : Nat → Value) : AtV Tryz.prog 117 (PostR kds117 oks117 [⟨Ty.bool, g117_0 x0⟩] [] [] q K) 5 K q [] [.code b117] (entE 0 0 sig117 (x0, ())) (entL sig117 (x0, ())) := by
  unfold P117 at h
  unfold g117_0
  exact AtV.fin Tryz.func117 tabOk ext117Ok mixed (p117_0 x0) ⟨trivial, trivial⟩

def S117 : Am.Spec := { sig := sig117, pre := fun ⟨x0, _⟩ => P117 x0, res := fun ⟨x0, _⟩ => [⟨Ty.bool, g117_0 x0⟩], kds := kds117 }
theorem con117 : Contract Tryz.prog 117 S117 := contract_of Tryz.func117 hb117 (Nat.le_of_ble_eq_true (by kernel_rfl)) (fun ⟨x0, _⟩ h _ K q => at117 x0 h K q)


end
end Go.Proofs.YtcakiedjgnhjcaaGreat

/- Function 88 (impl.validWorker): its runs between cut points. Written by a program of this repo (gen). -/
set_option linter.unusedVariables false
set_option linter.unusedSimpArgs false
set_option maxRecDepth 100000
namespace Go.Proofs.YtcakiedjgnhjcaaGreat
open Go Go.Am Go.Proofs
noncomputable section
def ext88 : Ext := [(111, S111), (117, S117)]
theorem call88_111 : Callable Tryz.prog 111 := ⟨Tryz.f111, Tryz.func111, by kernel_rfl, by kernel_rfl⟩
theorem call88_117 : Callable Tryz.prog 117 := ⟨Tryz.f117, Tryz.func117, by kernel_rfl, by kernel_rfl⟩
theorem ext88Ok : ExtOk Tryz.prog ext88 := ⟨⟨call88_111, con111⟩, ⟨call88_117, con117⟩, trivial⟩

noncomputable def b88 : Code := bodyOf Tryz.f88
theorem hb88 : Tryz.f88.body = some b88 := by kernel_rfl
def sig88 : List AT := [AT.v (Ty.cons Ty.str (Ty.cons (Ty.int .i64) (Ty.cons (Ty.int .i64) Ty.unit)))]
def tys88 : List Ty := [Ty.bool]
def kds88 : List RK := []
def oks88 : List AT := owns sig88
def P88 (x0 : ByteArray × Int × Int × Unit) : Prop := True
def g88_0 (x0 : ByteArray × Int × Int × Unit) : Bool := (if (g111_0 x0.1) = true then (if (g117_0 x0.2.1) = true then (if (g117_0 x0.2.2.1) = true then decide (x0.2.1 < x0.2.2.1) else false) else false) else false)
theorem p88_0 (x0 : ByteArray × Int × Int × Unit) : runF tab ext88 false 23 [] 2000 [] oks88 kds88 tys88 Tryz.f88.results [true, true, true] [.code b88] (entE 0 0 sig88 (x0, ())) (entL sig88 (x0, ())) = some ([Dyn.mk Ty.bool (decide (x0.2.1 < x0.2.2.1))], [], [True, g111_0 x0.1 = true, True, g117_0 x0.2.1 = true, True, g117_0 x0.2.2.1 = true]) := by kernel_rfl
theorem p88_1 (x0 : ByteArray × Int × Int × Unit) : runF tab ext88 false 23 [] 2000 [] oks88 kds88 tys88 Tryz.f88.results [true, true, false] [.code b88] (entE 0 0 sig88 (x0, ())) (entL sig88 (x0, ())) = some ([Dyn.mk Ty.bool false], [], [True, g111_0 x0.1 = true, True, g117_0 x0.2.1 = true, True, g117_0 x0.2.2.1 = false]) := by kernel_rfl
theorem p88_2 (x0 : ByteArray × Int × Int × Unit) : runF tab ext88 false 23 [] 2000 [] oks88 kds88 tys88 Tryz.f88.results [true, false, false] [.code b88] (entE 0 0 sig88 (x0, ())) (entL sig88 (x0, ())) = some ([Dyn.mk Ty.bool false], [], [True, g111_0 x0.1 = true, True, g117_0 x0.2.1 = false, false = false]) := by kernel_rfl
theorem p88_3 (x0 : ByteArray × Int × Int × Unit) : runF tab ext88 false 23 [] 2000 [] oks88 kds88 tys88 Tryz.f88.results [false, false, false] [.code b88] (entE 0 0 sig88 (x0, ())) (entL sig88 (x0, ())) = some ([Dyn.mk Ty.bool false], [], [True, g111_0 x0.1 = false, false = false, false = false]) := by kernel_rfl
theorem at88 (x0 : ByteArray × Int × Int × Unit) (h : P88 x0) (K : Ctx) (q : Nat → Value) : AtV Tryz.prog 88 (PostR kds88 oks88 [⟨Ty.bool, g88_0 x0⟩] [] [] q K) 23 K q [] [.code b88] (entE 0 0 sig88 (x0, ())) (entL sig88 (x0, ())) := by
  unfold P88 at h
  unfold g88_0
  by_cases b0 : (g111_0 x0.1) = true
  · try simp only [if_pos b0] at h ⊢
    by_cases b1 : (g117_0 x0.2.1) = true
    · try simp only [if_pos b1] at h ⊢
      by_cases b2 : (g117_0 x0.2.2.1) = true
      · try simp only [if_pos b2] at h ⊢
        exact AtV.fin Tryz.func88 tabOk ext88Ok mixed (p88_0 x0) ⟨trivial, b0, trivial, b1, trivial, b2, trivial⟩
      · try simp only [if_neg b2] at h ⊢
        replace b2 := Bool.eq_false_iff.2 b2
        exact AtV.fin Tryz.func88 tabOk ext88Ok mixed (p88_1 x0) ⟨trivial, b0, trivial, b1, trivial, b2, trivial⟩
    · try simp only [if_neg b1] at h ⊢
      replace b1 := Bool.eq_false_iff.2 b1
      exact AtV.fin Tryz.func88 tabOk ext88Ok mixed (p88_2 x0) ⟨trivial, b0, trivial, b1, rfl, trivial⟩
  · try simp only [if_neg b0] at h ⊢
    replace b0 := Bool.eq_false_iff.2 b0
    exact AtV.fin Tryz.func88 tabOk ext88Ok mixed (p88_3 x0) ⟨trivial, b0, rfl, rfl, trivial⟩

def S88 : Am.Spec := { sig := sig88, pre := fun ⟨x0, _⟩ => P88 x0, res := fun ⟨x0, _⟩ => [⟨Ty.bool, g88_0 x0⟩], kds := kds88 }
theorem con88 : Contract Tryz.prog 88 S88 := contract_of Tryz.func88 hb88 (Nat.le_of_ble_eq_true (by kernel_rfl)) (fun ⟨x0, _⟩ h _ K q => at88 x0 h K q)


end
end Go.Proofs.YtcakiedjgnhjcaaGreat

/- Function 36 (impl.ValidWorkers): its runs between cut points. Written by a program of this repo (gen). -/
set_option linter.unusedVariables false
set_option linter.unusedSimpArgs false
set_option maxRecDepth 100000
namespace Go.Proofs.YtcakiedjgnhjcaaGreat
open Go Go.Am Go.Proofs
noncomputable section
def ext36 : Ext := [(88, S88)]
theorem call36_88 : Callable Tryz.prog 88 := ⟨Tryz.f88, Tryz.func88, by kernel_rfl, by kernel_rfl⟩
theorem ext36Ok : ExtOk Tryz.prog ext36 := ⟨⟨call36_88, con88⟩, trivial⟩

noncomputable def b36 : Code := bodyOf Tryz.f36
theorem hb36 : Tryz.f36.body = some b36 := by kernel_rfl
def sig36 : List AT := [AT.v (Ty.sl (Ty.cons Ty.str (Ty.cons (Ty.int .i64) (Ty.cons (Ty.int .i64) Ty.unit))))]
def tys36 : List Ty := [Ty.bool]
def kds36 : List RK := []
def oks36 : List AT := owns sig36
def E36_2 (v7 : Int) (x0 : List TyB1) : Env := [(0, PV.a (Atom.sl (Ty.cons Ty.str (Ty.cons (Ty.int .i64) (Ty.cons (Ty.int .i64) Ty.unit))) x0)), (5, PV.a (Atom.sl (Ty.cons Ty.str (Ty.cons (Ty.int .i64) (Ty.cons (Ty.int .i64) Ty.unit))) x0)), (6, PV.a (Atom.val (Value.int .i64 (↑(List.length x0) : Int)))), (7, PV.a (Atom.val (Value.int .i64 v7)))]
def L36_2 (v7 : Int) (x0 : List TyB1) : Heap := []
mutual
def R36 : Nat → List TyB1 → List Dyn → Prop
  | 0, _, _ => False
  | n + 1, x0, ds => (R36_2 n (0) (x0) ds)
def R36_2 : Nat → Int → List TyB1 → List Dyn → Prop
  | 0, _, _, _ => False
  | n + 1, v7, x0, ds => (if (decide (v7 < (↑(List.length x0) : Int))) = true then ((0 ≤ v7) ∧ (v7 < (↑(List.length x0) : Int)) ∧ (if (!g88_0 (List.getD x0 (Int.toNat v7) (ByteArray.empty, 0, 0, ()))) = true then (ds = [Dyn.mk Ty.bool false]) else (if (decide (v7 > 0)) = true then ((InR .i64 (v7 - 1)) ∧ ((0 ≤ v7 - 1) ∧ (v7 - 1 < (↑(List.length x0) : Int)) ∧ (if (Op.bytesLess (ByteArray.toList (List.getD x0 (Int.toNat v7) (ByteArray.empty, 0, 0, ())).1) (ByteArray.toList (List.getD x0 (Int.toNat (v7 - 1)) (ByteArray.empty, 0, 0, ())).1) || ByteArray.toList (List.getD x0 (Int.toNat v7) (ByteArray.empty, 0, 0, ())).1 == ByteArray.toList (List.getD x0 (Int.toNat (v7 - 1)) (ByteArray.empty, 0, 0, ())).1) = true then (ds = [Dyn.mk Ty.bool false]) else ((InR .i64 (v7 + 1)) ∧ (R36_2 n (v7 + 1) (x0) ds))))) else ((InR .i64 (v7 + 1)) ∧ (R36_2 n (v7 + 1) (x0) ds))))) else (ds = [Dyn.mk Ty.bool (decide ((↑(List.length x0) : Int) ≤ 12))]))
end
theorem p36_0 (x0 : List TyB1) : Am.runN tab ext36 false 34 [] 2000 [] [] [0, 5, 6, 7] [] [] [.code b36] (entE 0 0 sig36 (x0, ())) (entL sig36 (x0, ())) = some (cutAt b36 2, E36_2 (0) (x0), L36_2 (0) (x0), []) := by kernel_rfl
theorem p36_1 (v7 : Int) (x0 : List TyB1) : runF tab ext36 false 34 [] 2000 [] oks36 kds36 tys36 Tryz.f36.results [true, true, true] (cutAt b36 2) (E36_2 v7 x0) (L36_2 v7 x0) = some ([Dyn.mk Ty.bool false], [], [decide (v7 < (↑(List.length x0) : Int)) = true, 0 ≤ v7, v7 < (↑(List.length x0) : Int), True, (!g88_0 (List.getD x0 (Int.toNat v7) (ByteArray.empty, 0, 0, ()))) = true, true = true]) := by kernel_rfl
theorem p36_2 (v7 : Int) (x0 : List TyB1) : runF tab ext36 false 34 [] 2000 [] oks36 kds36 tys36 Tryz.f36.results [true, false, true, true] (cutAt b36 2) (E36_2 v7 x0) (L36_2 v7 x0) = some ([Dyn.mk Ty.bool false], [], [decide (v7 < (↑(List.length x0) : Int)) = true, 0 ≤ v7, v7 < (↑(List.length x0) : Int), True, (!g88_0 (List.getD x0 (Int.toNat v7) (ByteArray.empty, 0, 0, ()))) = false, decide (v7 > 0) = true, InR .i64 (v7 - 1), 0 ≤ v7 - 1, v7 - 1 < (↑(List.length x0) : Int), (Op.bytesLess (ByteArray.toList (List.getD x0 (Int.toNat v7) (ByteArray.empty, 0, 0, ())).1) (ByteArray.toList (List.getD x0 (Int.toNat (v7 - 1)) (ByteArray.empty, 0, 0, ())).1) || ByteArray.toList (List.getD x0 (Int.toNat v7) (ByteArray.empty, 0, 0, ())).1 == ByteArray.toList (List.getD x0 (Int.toNat (v7 - 1)) (ByteArray.empty, 0, 0, ())).1) = true]) := by kernel_rfl
theorem p36_3 (v7 : Int) (x0 : List TyB1) : Am.runN tab ext36 false 34 [] 2000 [] [] [0, 5, 6, 7] [] [true, false, true, false] (cutAt b36 2) (E36_2 v7 x0) (L36_2 v7 x0) = some (cutAt b36 2, E36_2 (v7 + 1) (x0), L36_2 (v7 + 1) (x0), [decide (v7 < (↑(List.length x0) : Int)) = true, 0 ≤ v7, v7 < (↑(List.length x0) : Int), True, (!g88_0 (List.getD x0 (Int.toNat v7) (ByteArray.empty, 0, 0, ()))) = false, decide (v7 > 0) = true, InR .i64 (v7 - 1), 0 ≤ v7 - 1, v7 - 1 < (↑(List.length x0) : Int), (Op.bytesLess (ByteArray.toList (List.getD x0 (Int.toNat v7) (ByteArray.empty, 0, 0, ())).1) (ByteArray.toList (List.getD x0 (Int.toNat (v7 - 1)) (ByteArray.empty, 0, 0, ())).1) || ByteArray.toList (List.getD x0 (Int.toNat v7) (ByteArray.empty, 0, 0, ())).1 == ByteArray.toList (List.getD x0 (Int.toNat (v7 - 1)) (ByteArray.empty, 0, 0, ())).1) = false, InR .i64 (v7 + 1)]) := by kernel_rfl
theorem p36_4 (v7 : Int) (x0 : List TyB1) : Am.runN tab ext36 false 34 [] 2000 [] [] [0, 5, 6, 7] [] [true, false, false, false] (cutAt b36 2) (E36_2 v7 x0) (L36_2 v7 x0) = some (cutAt b36 2, E36_2 (v7 + 1) (x0), L36_2 (v7 + 1) (x0), [decide (v7 < (↑(List.length x0) : Int)) = true, 0 ≤ v7, v7 < (↑(List.length x0) : Int), True, (!g88_0 (List.getD x0 (Int.toNat v7) (ByteArray.empty, 0, 0, ()))) = false, decide (v7 > 0) = false, false = false, InR .i64 (v7 + 1)]) := by kernel_rfl
theorem p36_5 (v7 : Int) (x0 : List TyB1) : runF tab ext36 false 34 [] 2000 [] oks36 kds36 tys36 Tryz.f36.results [false] (cutAt b36 2) (E36_2 v7 x0) (L36_2 v7 x0) = some ([Dyn.mk Ty.bool (decide ((↑(List.length x0) : Int) ≤ 12))], [], [decide (v7 < (↑(List.length x0) : Int)) = false]) := by kernel_rfl
theorem snd36 : ∀ n, (∀ (x0 : List TyB1) ds, R36 n x0 ds → ∀ K q, AtV Tryz.prog 36 (PostR kds36 oks36 ds [] [] q K) 34 K q [] [.code b36] (entE 0 0 sig36 (x0, ())) (entL sig36 (x0, ()))) ∧ (∀ (v7 : Int) (x0 : List TyB1) ds, R36_2 n v7 x0 ds → ∀ K q, AtV Tryz.prog 36 (PostR kds36 oks36 ds [] [] q K) 34 K q [] (cutAt b36 2) (E36_2 v7 x0) (L36_2 v7 x0)) := by
  intro n
  induction n with
  | zero => exact ⟨fun _ _ h => by simp only [R36] at h, fun _ _ _ h => by simp only [R36_2] at h⟩
  | succ n ih =>
  obtain ⟨ih, ih2⟩ := ih
  refine ⟨?_, ?_⟩
  · intro x0 ds h K q
    rw [R36] at h
    exact AtV.runN tabOk ext36Ok mixed (p36_0 x0) trivial (ih2 _ _ _ h K q)

  · intro v7 x0 ds h K q
    rw [R36_2] at h
    by_cases b0 : (decide (v7 < (↑(List.length x0) : Int))) = true
    · rw [if_pos b0] at h
      obtain ⟨s0, s1, h⟩ := h
      by_cases b1 : (!g88_0 (List.getD x0 (Int.toNat v7) (ByteArray.empty, 0, 0, ()))) = true
      · rw [if_pos b1] at h
        subst h
        exact AtV.fin Tryz.func36 tabOk ext36Ok mixed (p36_1 v7 x0) ⟨b0, s0, s1, trivial, b1, rfl, trivial⟩
      · rw [if_neg b1] at h
        replace b1 := Bool.eq_false_iff.2 b1
        by_cases b2 : (decide (v7 > 0)) = true
        · rw [if_pos b2] at h
          obtain ⟨s2, h⟩ := h
          obtain ⟨s3, s4, h⟩ := h
          by_cases b3 : (Op.bytesLess (ByteArray.toList (List.getD x0 (Int.toNat v7) (ByteArray.empty, 0, 0, ())).1) (ByteArray.toList (List.getD x0 (Int.toNat (v7 - 1)) (ByteArray.empty, 0, 0, ())).1) || ByteArray.toList (List.getD x0 (Int.toNat v7) (ByteArray.empty, 0, 0, ())).1 == ByteArray.toList (List.getD x0 (Int.toNat (v7 - 1)) (ByteArray.empty, 0, 0, ())).1) = true
          · rw [if_pos b3] at h
            subst h
            exact AtV.fin Tryz.func36 tabOk ext36Ok mixed (p36_2 v7 x0) ⟨b0, s0, s1, trivial, b1, b2, s2, s3, s4, b3, trivial⟩
          · rw [if_neg b3] at h
            replace b3 := Bool.eq_false_iff.2 b3
            obtain ⟨s5, h⟩ := h
            exact AtV.runN tabOk ext36Ok mixed (p36_3 v7 x0) ⟨b0, s0, s1, trivial, b1, b2, s2, s3, s4, b3, s5, trivial⟩ (ih2 _ _ _ h K q)
        · rw [if_neg b2] at h
          replace b2 := Bool.eq_false_iff.2 b2
          obtain ⟨s2, h⟩ := h
          exact AtV.runN tabOk ext36Ok mixed (p36_4 v7 x0) ⟨b0, s0, s1, trivial, b1, b2, rfl, s2, trivial⟩ (ih2 _ _ _ h K q)
    · rw [if_neg b0] at h
      replace b0 := Bool.eq_false_iff.2 b0
      subst h
      exact AtV.fin Tryz.func36 tabOk ext36Ok mixed (p36_5 v7 x0) ⟨b0, trivial⟩



def ok36 (x0 : List TyB1) (i : Nat) (x : TyB1) : Bool :=
  g88_0 x && (i == 0 || !(Op.bytesLess (ByteArray.toList x.1) (ByteArray.toList (x0.getD (i - 1) (ByteArray.empty, (0 : Int), (0 : Int), ())).1) || ByteArray.toList x.1 == ByteArray.toList (x0.getD (i - 1) (ByteArray.empty, (0 : Int), (0 : Int), ())).1))
def g36_0 (x0 : List TyB1) : Bool := allI (ok36 x0) 0 x0 && decide (x0.length ≤ 12)
def P36 (x0 : List TyB1) : Prop := True

theorem step36 (n i : Nat) (x0 : List TyB1) (hm : x0.length ≤ maxLen) (hi : i < x0.length) (ds : List Dyn) :
    (if ok36 x0 i (x0.getD i (ByteArray.empty, (0 : Int), (0 : Int), ())) = true then R36_2 n ((i : Int) + 1) x0 ds else ds = [⟨.bool, false⟩]) → R36_2 (n + 1) (i : Int) x0 ds := by
  intro h
  have hu := inR_up hm hi
  rw [R36_2, if_pos (by simp; omega)]
  refine ⟨by omega, by omega, ?_⟩
  simp only [Int.toNat_natCast]
  unfold ok36 at h
  by_cases h1 : g88_0 (x0.getD i (ByteArray.empty, (0 : Int), (0 : Int), ())) = true
  case neg =>
    have h1 := Bool.eq_false_iff.2 h1
    rw [h1] at h
    rw [if_pos (by rw [h1]; rfl)]
    simpa using h
  case pos =>
    rw [h1] at h
    rw [if_neg (by rw [h1]; simp)]
    by_cases h0 : (i : Int) > 0
    · rw [if_pos (by simpa using h0)]
      have hi0 : (i == 0) = false := by simp; omega
      have e : ((i : Int) - 1).toNat = i - 1 := by omega
      refine ⟨by rw [i64_iff]; have : maxLen ≤ 9223372036854775807 := by decide
                 omega, by omega, by omega, ?_⟩
      rw [e]
      by_cases h2 : (Op.bytesLess (ByteArray.toList (x0.getD i (ByteArray.empty, (0 : Int), (0 : Int), ())).1) (ByteArray.toList (x0.getD (i - 1) (ByteArray.empty, (0 : Int), (0 : Int), ())).1) || ByteArray.toList (x0.getD i (ByteArray.empty, (0 : Int), (0 : Int), ())).1 == ByteArray.toList (x0.getD (i - 1) (ByteArray.empty, (0 : Int), (0 : Int), ())).1) = true
      · rw [if_pos h2]
        rw [hi0, h2] at h
        simpa using h
      · rw [if_neg h2]
        rw [hi0, Bool.eq_false_iff.2 h2] at h
        exact ⟨hu, by simpa using h⟩
    · rw [if_neg (by simpa using h0)]
      have hi0 : (i == 0) = true := by simp; omega
      rw [hi0] at h
      exact ⟨hu, by simpa using h⟩

theorem top36 (x0 : List TyB1) (hw : x0.length ≤ maxLen) : R36 (x0.length + 1 + 1) x0 [⟨.bool, g36_0 x0⟩] := by
  rw [R36]
  have key := loop_testI x0 (ByteArray.empty, (0 : Int), (0 : Int), ()) (ok36 x0) [(⟨.bool, false⟩ : Dyn)] [⟨.bool, decide (x0.length ≤ 12)⟩] (fun n i ds => R36_2 n i x0 ds) (fun n => ?_) (fun n i hi hok ds hr => ?_) (fun n i hi hok => ?_)
  · unfold g36_0
    cases h : allI (ok36 x0) 0 x0 with
    | true => rw [if_pos h] at key; simpa using key
    | false => rw [if_neg (by rw [h]; simp)] at key; simpa using key
  · rw [R36_2, if_neg (by simp)]
    have hc : decide ((x0.length : Int) ≤ 12) = decide (x0.length ≤ 12) := by
      congr 1; exact propext ⟨fun h => by omega, fun h => by omega⟩
    rw [hc]
  · exact step36 n i x0 hw hi ds (by rw [if_pos hok]; exact hr)
  · exact step36 n i x0 hw hi _ (by rw [if_neg (by rw [hok]; simp)])

def S36 : Am.Spec := { sig := sig36, pre := fun ⟨x0, _⟩ => P36 x0, res := fun ⟨x0, _⟩ => [⟨Ty.bool, g36_0 x0⟩] }
theorem con36 : Contract Tryz.prog 36 S36 := contract_of Tryz.func36 hb36 (Nat.le_of_ble_eq_true (by kernel_rfl)) (fun ⟨x0, _⟩ h hwf K q =>
  (snd36 _).1 x0 _ (top36 x0 hwf.1.1) K q)

end
end Go.Proofs.YtcakiedjgnhjcaaGreat

/- Function 89 (impl.isStore): its runs between cut points. Written by a program of this repo (gen). -/
set_option linter.unusedVariables false
set_option linter.unusedSimpArgs false
set_option maxRecDepth 100000
namespace Go.Proofs.YtcakiedjgnhjcaaGreat
open Go Go.Am Go.Proofs
noncomputable section
def ext89 : Ext := [(80, S80)]
theorem call89_80 : Callable Tryz.prog 80 := ⟨Tryz.f80, Tryz.func80, by kernel_rfl, by kernel_rfl⟩
theorem ext89Ok : ExtOk Tryz.prog ext89 := ⟨⟨call89_80, con80⟩, trivial⟩

noncomputable def b89 : Code := bodyOf Tryz.f89
theorem hb89 : Tryz.f89.body = some b89 := by kernel_rfl
def sig89 : List AT := [AT.v (Ty.int .i64)]
def tys89 : List Ty := [Ty.bool]
def kds89 : List RK := []
def oks89 : List AT := owns sig89
def P89 (x0 : Int) : Prop := True
def g89_0 (x0 : Int) : Bool := g80_0 x0 0 10000000
theorem p89_0 (x0 : Int) : runF tab ext89 false 5 [] 2000 [] oks89 kds89 tys89 Tryz.f89.results [] [.code b89] (entE 0 0 sig89 (x0, ())) (entL sig89 (x0, ())) = some ([Dyn.mk Ty.bool (g80_0 x0 0 10000000)], [], [True]) := by kernel_rfl
theorem at89 (x0 : Int) (h : P89 x0) (K : Ctx) (q : Nat → Value) : AtV Tryz.prog 89 (PostR kds89 oks89 [⟨Ty.bool, g89_0 x0⟩] [] [] q K) 5 K q [] [.code b89] (entE 0 0 sig89 (x0, ())) (entL sig89 (x0, ())) := by
  unfold P89 at h
  unfold g89_0
  exact AtV.fin Tryz.func89 tabOk ext89Ok mixed (p89_0 x0) ⟨trivial, trivial⟩

def S89 : Am.Spec := { sig := sig89, pre := fun ⟨x0, _⟩ => P89 x0, res := fun ⟨x0, _⟩ => [⟨Ty.bool, g89_0 x0⟩], kds := kds89 }
theorem con89 : Contract Tryz.prog 89 S89 := contract_of Tryz.func89 hb89 (Nat.le_of_ble_eq_true (by kernel_rfl)) (fun ⟨x0, _⟩ h _ K q => at89 x0 h K q)


end
end Go.Proofs.YtcakiedjgnhjcaaGreat

/- Function 37 (impl.ValidBasin): its runs between cut points. Written by a program of this repo (gen). -/
set_option linter.unusedVariables false
set_option linter.unusedSimpArgs false
set_option maxRecDepth 100000
namespace Go.Proofs.YtcakiedjgnhjcaaGreat
open Go Go.Am Go.Proofs
noncomputable section
def ext37 : Ext := [(80, S80), (89, S89)]
theorem call37_80 : Callable Tryz.prog 80 := ⟨Tryz.f80, Tryz.func80, by kernel_rfl, by kernel_rfl⟩
theorem call37_89 : Callable Tryz.prog 89 := ⟨Tryz.f89, Tryz.func89, by kernel_rfl, by kernel_rfl⟩
theorem ext37Ok : ExtOk Tryz.prog ext37 := ⟨⟨call37_80, con80⟩, ⟨call37_89, con89⟩, trivial⟩

noncomputable def b37 : Code := bodyOf Tryz.f37
theorem hb37 : Tryz.f37.body = some b37 := by kernel_rfl
def sig37 : List AT := [AT.v (Ty.cons (Ty.int .i64) (Ty.cons (Ty.int .i64) (Ty.cons (Ty.int .i64) (Ty.cons (Ty.int .i64) Ty.unit))))]
def tys37 : List Ty := [Ty.bool]
def kds37 : List RK := []
def oks37 : List AT := owns sig37
def P37 (x0 : Int × Int × Int × Int × Unit) : Prop := True
def g37_0 (x0 : Int × Int × Int × Int × Unit) : Bool := (if (g80_0 x0.1 1 20000) = true then (if (g80_0 x0.2.1 1 1000) = true then (if (g89_0 x0.2.2.1) = true then g80_0 x0.2.2.2.1 0 1000 else false) else false) else false)
theorem p37_0 (x0 : Int × Int × Int × Int × Unit) : runF tab ext37 false 21 [] 2000 [] oks37 kds37 tys37 Tryz.f37.results [true, true, true] [.code b37] (entE 0 0 sig37 (x0, ())) (entL sig37 (x0, ())) = some ([Dyn.mk Ty.bool (g80_0 x0.2.2.2.1 0 1000)], [], [True, g80_0 x0.1 1 20000 = true, True, g80_0 x0.2.1 1 1000 = true, True, g89_0 x0.2.2.1 = true, True]) := by kernel_rfl
theorem p37_1 (x0 : Int × Int × Int × Int × Unit) : runF tab ext37 false 21 [] 2000 [] oks37 kds37 tys37 Tryz.f37.results [true, true, false] [.code b37] (entE 0 0 sig37 (x0, ())) (entL sig37 (x0, ())) = some ([Dyn.mk Ty.bool false], [], [True, g80_0 x0.1 1 20000 = true, True, g80_0 x0.2.1 1 1000 = true, True, g89_0 x0.2.2.1 = false]) := by kernel_rfl
theorem p37_2 (x0 : Int × Int × Int × Int × Unit) : runF tab ext37 false 21 [] 2000 [] oks37 kds37 tys37 Tryz.f37.results [true, false, false] [.code b37] (entE 0 0 sig37 (x0, ())) (entL sig37 (x0, ())) = some ([Dyn.mk Ty.bool false], [], [True, g80_0 x0.1 1 20000 = true, True, g80_0 x0.2.1 1 1000 = false, false = false]) := by kernel_rfl
theorem p37_3 (x0 : Int × Int × Int × Int × Unit) : runF tab ext37 false 21 [] 2000 [] oks37 kds37 tys37 Tryz.f37.results [false, false, false] [.code b37] (entE 0 0 sig37 (x0, ())) (entL sig37 (x0, ())) = some ([Dyn.mk Ty.bool false], [], [True, g80_0 x0.1 1 20000 = false, false = false, false = false]) := by kernel_rfl
theorem at37 (x0 : Int × Int × Int × Int × Unit) (h : P37 x0) (K : Ctx) (q : Nat → Value) : AtV Tryz.prog 37 (PostR kds37 oks37 [⟨Ty.bool, g37_0 x0⟩] [] [] q K) 21 K q [] [.code b37] (entE 0 0 sig37 (x0, ())) (entL sig37 (x0, ())) := by
  unfold P37 at h
  unfold g37_0
  by_cases b0 : (g80_0 x0.1 1 20000) = true
  · try simp only [if_pos b0] at h ⊢
    by_cases b1 : (g80_0 x0.2.1 1 1000) = true
    · try simp only [if_pos b1] at h ⊢
      by_cases b2 : (g89_0 x0.2.2.1) = true
      · try simp only [if_pos b2] at h ⊢
        exact AtV.fin Tryz.func37 tabOk ext37Ok mixed (p37_0 x0) ⟨trivial, b0, trivial, b1, trivial, b2, trivial, trivial⟩
      · try simp only [if_neg b2] at h ⊢
        replace b2 := Bool.eq_false_iff.2 b2
        exact AtV.fin Tryz.func37 tabOk ext37Ok mixed (p37_1 x0) ⟨trivial, b0, trivial, b1, trivial, b2, trivial⟩
    · try simp only [if_neg b1] at h ⊢
      replace b1 := Bool.eq_false_iff.2 b1
      exact AtV.fin Tryz.func37 tabOk ext37Ok mixed (p37_2 x0) ⟨trivial, b0, trivial, b1, rfl, trivial⟩
  · try simp only [if_neg b0] at h ⊢
    replace b0 := Bool.eq_false_iff.2 b0
    exact AtV.fin Tryz.func37 tabOk ext37Ok mixed (p37_3 x0) ⟨trivial, b0, rfl, rfl, trivial⟩

def S37 : Am.Spec := { sig := sig37, pre := fun ⟨x0, _⟩ => P37 x0, res := fun ⟨x0, _⟩ => [⟨Ty.bool, g37_0 x0⟩], kds := kds37 }
theorem con37 : Contract Tryz.prog 37 S37 := contract_of Tryz.func37 hb37 (Nat.le_of_ble_eq_true (by kernel_rfl)) (fun ⟨x0, _⟩ h _ K q => at37 x0 h K q)


end
end Go.Proofs.YtcakiedjgnhjcaaGreat

/- Function 90 (impl.validFare): its runs between cut points. Written by a program of this repo (gen). -/
set_option linter.unusedVariables false
set_option linter.unusedSimpArgs false
set_option maxRecDepth 100000
namespace Go.Proofs.YtcakiedjgnhjcaaGreat
open Go Go.Am Go.Proofs
noncomputable section
def ext90 : Ext := [(111, S111), (80, S80)]
theorem call90_111 : Callable Tryz.prog 111 := ⟨Tryz.f111, Tryz.func111, by kernel_rfl, by kernel_rfl⟩
theorem call90_80 : Callable Tryz.prog 80 := ⟨Tryz.f80, Tryz.func80, by kernel_rfl, by kernel_rfl⟩
theorem ext90Ok : ExtOk Tryz.prog ext90 := ⟨⟨call90_111, con111⟩, ⟨call90_80, con80⟩, trivial⟩

noncomputable def b90 : Code := bodyOf Tryz.f90
theorem hb90 : Tryz.f90.body = some b90 := by kernel_rfl
def sig90 : List AT := [AT.v (Ty.cons Ty.str (Ty.cons (Ty.int .i64) (Ty.cons (Ty.int .i64) (Ty.cons (Ty.int .i64) Ty.unit))))]
def tys90 : List Ty := [Ty.bool]
def kds90 : List RK := []
def oks90 : List AT := owns sig90
def P90 (x0 : ByteArray × Int × Int × Int × Unit) : Prop := True
def g90_0 (x0 : ByteArray × Int × Int × Int × Unit) : Bool := (if (g111_0 x0.1) = true then (if (g80_0 x0.2.1 0 100000) = true then (if (g80_0 x0.2.2.1 1 1000) = true then g80_0 x0.2.2.2.1 1 400 else false) else false) else false)
theorem p90_0 (x0 : ByteArray × Int × Int × Int × Unit) : runF tab ext90 false 21 [] 2000 [] oks90 kds90 tys90 Tryz.f90.results [true, true, true] [.code b90] (entE 0 0 sig90 (x0, ())) (entL sig90 (x0, ())) = some ([Dyn.mk Ty.bool (g80_0 x0.2.2.2.1 1 400)], [], [True, g111_0 x0.1 = true, True, g80_0 x0.2.1 0 100000 = true, True, g80_0 x0.2.2.1 1 1000 = true, True]) := by kernel_rfl
theorem p90_1 (x0 : ByteArray × Int × Int × Int × Unit) : runF tab ext90 false 21 [] 2000 [] oks90 kds90 tys90 Tryz.f90.results [true, true, false] [.code b90] (entE 0 0 sig90 (x0, ())) (entL sig90 (x0, ())) = some ([Dyn.mk Ty.bool false], [], [True, g111_0 x0.1 = true, True, g80_0 x0.2.1 0 100000 = true, True, g80_0 x0.2.2.1 1 1000 = false]) := by kernel_rfl
theorem p90_2 (x0 : ByteArray × Int × Int × Int × Unit) : runF tab ext90 false 21 [] 2000 [] oks90 kds90 tys90 Tryz.f90.results [true, false, false] [.code b90] (entE 0 0 sig90 (x0, ())) (entL sig90 (x0, ())) = some ([Dyn.mk Ty.bool false], [], [True, g111_0 x0.1 = true, True, g80_0 x0.2.1 0 100000 = false, false = false]) := by kernel_rfl
theorem p90_3 (x0 : ByteArray × Int × Int × Int × Unit) : runF tab ext90 false 21 [] 2000 [] oks90 kds90 tys90 Tryz.f90.results [false, false, false] [.code b90] (entE 0 0 sig90 (x0, ())) (entL sig90 (x0, ())) = some ([Dyn.mk Ty.bool false], [], [True, g111_0 x0.1 = false, false = false, false = false]) := by kernel_rfl
theorem at90 (x0 : ByteArray × Int × Int × Int × Unit) (h : P90 x0) (K : Ctx) (q : Nat → Value) : AtV Tryz.prog 90 (PostR kds90 oks90 [⟨Ty.bool, g90_0 x0⟩] [] [] q K) 21 K q [] [.code b90] (entE 0 0 sig90 (x0, ())) (entL sig90 (x0, ())) := by
  unfold P90 at h
  unfold g90_0
  by_cases b0 : (g111_0 x0.1) = true
  · try simp only [if_pos b0] at h ⊢
    by_cases b1 : (g80_0 x0.2.1 0 100000) = true
    · try simp only [if_pos b1] at h ⊢
      by_cases b2 : (g80_0 x0.2.2.1 1 1000) = true
      · try simp only [if_pos b2] at h ⊢
        exact AtV.fin Tryz.func90 tabOk ext90Ok mixed (p90_0 x0) ⟨trivial, b0, trivial, b1, trivial, b2, trivial, trivial⟩
      · try simp only [if_neg b2] at h ⊢
        replace b2 := Bool.eq_false_iff.2 b2
        exact AtV.fin Tryz.func90 tabOk ext90Ok mixed (p90_1 x0) ⟨trivial, b0, trivial, b1, trivial, b2, trivial⟩
    · try simp only [if_neg b1] at h ⊢
      replace b1 := Bool.eq_false_iff.2 b1
      exact AtV.fin Tryz.func90 tabOk ext90Ok mixed (p90_2 x0) ⟨trivial, b0, trivial, b1, rfl, trivial⟩
  · try simp only [if_neg b0] at h ⊢
    replace b0 := Bool.eq_false_iff.2 b0
    exact AtV.fin Tryz.func90 tabOk ext90Ok mixed (p90_3 x0) ⟨trivial, b0, rfl, rfl, trivial⟩

def S90 : Am.Spec := { sig := sig90, pre := fun ⟨x0, _⟩ => P90 x0, res := fun ⟨x0, _⟩ => [⟨Ty.bool, g90_0 x0⟩], kds := kds90 }
theorem con90 : Contract Tryz.prog 90 S90 := contract_of Tryz.func90 hb90 (Nat.le_of_ble_eq_true (by kernel_rfl)) (fun ⟨x0, _⟩ h _ K q => at90 x0 h K q)


end
end Go.Proofs.YtcakiedjgnhjcaaGreat

/- Function 38 (impl.ValidFares): its runs between cut points. Written by a program of this repo (gen). -/
set_option linter.unusedVariables false
set_option linter.unusedSimpArgs false
set_option maxRecDepth 100000
namespace Go.Proofs.YtcakiedjgnhjcaaGreat
open Go Go.Am Go.Proofs
noncomputable section
def ext38 : Ext := [(90, S90)]
theorem call38_90 : Callable Tryz.prog 90 := ⟨Tryz.f90, Tryz.func90, by kernel_rfl, by kernel_rfl⟩
theorem ext38Ok : ExtOk Tryz.prog ext38 := ⟨⟨call38_90, con90⟩, trivial⟩

noncomputable def b38 : Code := bodyOf Tryz.f38
theorem hb38 : Tryz.f38.body = some b38 := by kernel_rfl
def sig38 : List AT := [AT.v (Ty.sl (Ty.cons Ty.str (Ty.cons (Ty.int .i64) (Ty.cons (Ty.int .i64) (Ty.cons (Ty.int .i64) Ty.unit)))))]
def tys38 : List Ty := [Ty.bool]
def kds38 : List RK := []
def oks38 : List AT := owns sig38
def E38_2 (v7 : Int) (x0 : List TyB0) : Env := [(0, PV.a (Atom.sl (Ty.cons Ty.str (Ty.cons (Ty.int .i64) (Ty.cons (Ty.int .i64) (Ty.cons (Ty.int .i64) Ty.unit)))) x0)), (5, PV.a (Atom.sl (Ty.cons Ty.str (Ty.cons (Ty.int .i64) (Ty.cons (Ty.int .i64) (Ty.cons (Ty.int .i64) Ty.unit)))) x0)), (6, PV.a (Atom.val (Value.int .i64 (↑(List.length x0) : Int)))), (7, PV.a (Atom.val (Value.int .i64 v7)))]
def L38_2 (v7 : Int) (x0 : List TyB0) : Heap := []
mutual
def R38 : Nat → List TyB0 → List Dyn → Prop
  | 0, _, _ => False
  | n + 1, x0, ds => (R38_2 n (0) (x0) ds)
def R38_2 : Nat → Int → List TyB0 → List Dyn → Prop
  | 0, _, _, _ => False
  | n + 1, v7, x0, ds => (if (decide (v7 < (↑(List.length x0) : Int))) = true then ((0 ≤ v7) ∧ (v7 < (↑(List.length x0) : Int)) ∧ (if (!g90_0 (List.getD x0 (Int.toNat v7) (ByteArray.empty, 0, 0, 0, ()))) = true then (ds = [Dyn.mk Ty.bool false]) else (if (decide (v7 > 0)) = true then ((InR .i64 (v7 - 1)) ∧ ((0 ≤ v7 - 1) ∧ (v7 - 1 < (↑(List.length x0) : Int)) ∧ (if (Op.bytesLess (ByteArray.toList (List.getD x0 (Int.toNat v7) (ByteArray.empty, 0, 0, 0, ())).1) (ByteArray.toList (List.getD x0 (Int.toNat (v7 - 1)) (ByteArray.empty, 0, 0, 0, ())).1) || ByteArray.toList (List.getD x0 (Int.toNat v7) (ByteArray.empty, 0, 0, 0, ())).1 == ByteArray.toList (List.getD x0 (Int.toNat (v7 - 1)) (ByteArray.empty, 0, 0, 0, ())).1) = true then (ds = [Dyn.mk Ty.bool false]) else ((InR .i64 (v7 + 1)) ∧ (R38_2 n (v7 + 1) (x0) ds))))) else ((InR .i64 (v7 + 1)) ∧ (R38_2 n (v7 + 1) (x0) ds))))) else (ds = [Dyn.mk Ty.bool (decide ((↑(List.length x0) : Int) ≤ 8))]))
end
theorem p38_0 (x0 : List TyB0) : Am.runN tab ext38 false 34 [] 2000 [] [] [0, 5, 6, 7] [] [] [.code b38] (entE 0 0 sig38 (x0, ())) (entL sig38 (x0, ())) = some (cutAt b38 2, E38_2 (0) (x0), L38_2 (0) (x0), []) := by kernel_rfl
theorem p38_1 (v7 : Int) (x0 : List TyB0) : runF tab ext38 false 34 [] 2000 [] oks38 kds38 tys38 Tryz.f38.results [true, true, true] (cutAt b38 2) (E38_2 v7 x0) (L38_2 v7 x0) = some ([Dyn.mk Ty.bool false], [], [decide (v7 < (↑(List.length x0) : Int)) = true, 0 ≤ v7, v7 < (↑(List.length x0) : Int), True, (!g90_0 (List.getD x0 (Int.toNat v7) (ByteArray.empty, 0, 0, 0, ()))) = true, true = true]) := by kernel_rfl
theorem p38_2 (v7 : Int) (x0 : List TyB0) : runF tab ext38 false 34 [] 2000 [] oks38 kds38 tys38 Tryz.f38.results [true, false, true, true] (cutAt b38 2) (E38_2 v7 x0) (L38_2 v7 x0) = some ([Dyn.mk Ty.bool false], [], [decide (v7 < (↑(List.length x0) : Int)) = true, 0 ≤ v7, v7 < (↑(List.length x0) : Int), True, (!g90_0 (List.getD x0 (Int.toNat v7) (ByteArray.empty, 0, 0, 0, ()))) = false, decide (v7 > 0) = true, InR .i64 (v7 - 1), 0 ≤ v7 - 1, v7 - 1 < (↑(List.length x0) : Int), (Op.bytesLess (ByteArray.toList (List.getD x0 (Int.toNat v7) (ByteArray.empty, 0, 0, 0, ())).1) (ByteArray.toList (List.getD x0 (Int.toNat (v7 - 1)) (ByteArray.empty, 0, 0, 0, ())).1) || ByteArray.toList (List.getD x0 (Int.toNat v7) (ByteArray.empty, 0, 0, 0, ())).1 == ByteArray.toList (List.getD x0 (Int.toNat (v7 - 1)) (ByteArray.empty, 0, 0, 0, ())).1) = true]) := by kernel_rfl
theorem p38_3 (v7 : Int) (x0 : List TyB0) : Am.runN tab ext38 false 34 [] 2000 [] [] [0, 5, 6, 7] [] [true, false, true, false] (cutAt b38 2) (E38_2 v7 x0) (L38_2 v7 x0) = some (cutAt b38 2, E38_2 (v7 + 1) (x0), L38_2 (v7 + 1) (x0), [decide (v7 < (↑(List.length x0) : Int)) = true, 0 ≤ v7, v7 < (↑(List.length x0) : Int), True, (!g90_0 (List.getD x0 (Int.toNat v7) (ByteArray.empty, 0, 0, 0, ()))) = false, decide (v7 > 0) = true, InR .i64 (v7 - 1), 0 ≤ v7 - 1, v7 - 1 < (↑(List.length x0) : Int), (Op.bytesLess (ByteArray.toList (List.getD x0 (Int.toNat v7) (ByteArray.empty, 0, 0, 0, ())).1) (ByteArray.toList (List.getD x0 (Int.toNat (v7 - 1)) (ByteArray.empty, 0, 0, 0, ())).1) || ByteArray.toList (List.getD x0 (Int.toNat v7) (ByteArray.empty, 0, 0, 0, ())).1 == ByteArray.toList (List.getD x0 (Int.toNat (v7 - 1)) (ByteArray.empty, 0, 0, 0, ())).1) = false, InR .i64 (v7 + 1)]) := by kernel_rfl
theorem p38_4 (v7 : Int) (x0 : List TyB0) : Am.runN tab ext38 false 34 [] 2000 [] [] [0, 5, 6, 7] [] [true, false, false, false] (cutAt b38 2) (E38_2 v7 x0) (L38_2 v7 x0) = some (cutAt b38 2, E38_2 (v7 + 1) (x0), L38_2 (v7 + 1) (x0), [decide (v7 < (↑(List.length x0) : Int)) = true, 0 ≤ v7, v7 < (↑(List.length x0) : Int), True, (!g90_0 (List.getD x0 (Int.toNat v7) (ByteArray.empty, 0, 0, 0, ()))) = false, decide (v7 > 0) = false, false = false, InR .i64 (v7 + 1)]) := by kernel_rfl
theorem p38_5 (v7 : Int) (x0 : List TyB0) : runF tab ext38 false 34 [] 2000 [] oks38 kds38 tys38 Tryz.f38.results [false] (cutAt b38 2) (E38_2 v7 x0) (L38_2 v7 x0) = some ([Dyn.mk Ty.bool (decide ((↑(List.length x0) : Int) ≤ 8))], [], [decide (v7 < (↑(List.length x0) : Int)) = false]) := by kernel_rfl
theorem snd38 : ∀ n, (∀ (x0 : List TyB0) ds, R38 n x0 ds → ∀ K q, AtV Tryz.prog 38 (PostR kds38 oks38 ds [] [] q K) 34 K q [] [.code b38] (entE 0 0 sig38 (x0, ())) (entL sig38 (x0, ()))) ∧ (∀ (v7 : Int) (x0 : List TyB0) ds, R38_2 n v7 x0 ds → ∀ K q, AtV Tryz.prog 38 (PostR kds38 oks38 ds [] [] q K) 34 K q [] (cutAt b38 2) (E38_2 v7 x0) (L38_2 v7 x0)) := by
  intro n
  induction n with
  | zero => exact ⟨fun _ _ h => by simp only [R38] at h, fun _ _ _ h => by simp only [R38_2] at h⟩
  | succ n ih =>
  obtain ⟨ih, ih2⟩ := ih
  refine ⟨?_, ?_⟩
  · intro x0 ds h K q
    rw [R38] at h
    exact AtV.runN tabOk ext38Ok mixed (p38_0 x0) trivial (ih2 _ _ _ h K q)

  · intro v7 x0 ds h K q
    rw [R38_2] at h
    by_cases b0 : (decide (v7 < (↑(List.length x0) : Int))) = true
    · rw [if_pos b0] at h
      obtain ⟨s0, s1, h⟩ := h
      by_cases b1 : (!g90_0 (List.getD x0 (Int.toNat v7) (ByteArray.empty, 0, 0, 0, ()))) = true
      · rw [if_pos b1] at h
        subst h
        exact AtV.fin Tryz.func38 tabOk ext38Ok mixed (p38_1 v7 x0) ⟨b0, s0, s1, trivial, b1, rfl, trivial⟩
      · rw [if_neg b1] at h
        replace b1 := Bool.eq_false_iff.2 b1
        by_cases b2 : (decide (v7 > 0)) = true
        · rw [if_pos b2] at h
          obtain ⟨s2, h⟩ := h
          obtain ⟨s3, s4, h⟩ := h
          by_cases b3 : (Op.bytesLess (ByteArray.toList (List.getD x0 (Int.toNat v7) (ByteArray.empty, 0, 0, 0, ())).1) (ByteArray.toList (List.getD x0 (Int.toNat (v7 - 1)) (ByteArray.empty, 0, 0, 0, ())).1) || ByteArray.toList (List.getD x0 (Int.toNat v7) (ByteArray.empty, 0, 0, 0, ())).1 == ByteArray.toList (List.getD x0 (Int.toNat (v7 - 1)) (ByteArray.empty, 0, 0, 0, ())).1) = true
          · rw [if_pos b3] at h
            subst h
            exact AtV.fin Tryz.func38 tabOk ext38Ok mixed (p38_2 v7 x0) ⟨b0, s0, s1, trivial, b1, b2, s2, s3, s4, b3, trivial⟩
          · rw [if_neg b3] at h
            replace b3 := Bool.eq_false_iff.2 b3
            obtain ⟨s5, h⟩ := h
            exact AtV.runN tabOk ext38Ok mixed (p38_3 v7 x0) ⟨b0, s0, s1, trivial, b1, b2, s2, s3, s4, b3, s5, trivial⟩ (ih2 _ _ _ h K q)
        · rw [if_neg b2] at h
          replace b2 := Bool.eq_false_iff.2 b2
          obtain ⟨s2, h⟩ := h
          exact AtV.runN tabOk ext38Ok mixed (p38_4 v7 x0) ⟨b0, s0, s1, trivial, b1, b2, rfl, s2, trivial⟩ (ih2 _ _ _ h K q)
    · rw [if_neg b0] at h
      replace b0 := Bool.eq_false_iff.2 b0
      subst h
      exact AtV.fin Tryz.func38 tabOk ext38Ok mixed (p38_5 v7 x0) ⟨b0, trivial⟩



def ok38 (x0 : List TyB0) (i : Nat) (x : TyB0) : Bool :=
  g90_0 x && (i == 0 || !(Op.bytesLess (ByteArray.toList x.1) (ByteArray.toList (x0.getD (i - 1) (ByteArray.empty, (0 : Int), (0 : Int), (0 : Int), ())).1) || ByteArray.toList x.1 == ByteArray.toList (x0.getD (i - 1) (ByteArray.empty, (0 : Int), (0 : Int), (0 : Int), ())).1))
def g38_0 (x0 : List TyB0) : Bool := allI (ok38 x0) 0 x0 && decide (x0.length ≤ 8)
def P38 (x0 : List TyB0) : Prop := True

theorem step38 (n i : Nat) (x0 : List TyB0) (hm : x0.length ≤ maxLen) (hi : i < x0.length) (ds : List Dyn) :
    (if ok38 x0 i (x0.getD i (ByteArray.empty, (0 : Int), (0 : Int), (0 : Int), ())) = true then R38_2 n ((i : Int) + 1) x0 ds else ds = [⟨.bool, false⟩]) → R38_2 (n + 1) (i : Int) x0 ds := by
  intro h
  have hu := inR_up hm hi
  rw [R38_2, if_pos (by simp; omega)]
  refine ⟨by omega, by omega, ?_⟩
  simp only [Int.toNat_natCast]
  unfold ok38 at h
  by_cases h1 : g90_0 (x0.getD i (ByteArray.empty, (0 : Int), (0 : Int), (0 : Int), ())) = true
  case neg =>
    have h1 := Bool.eq_false_iff.2 h1
    rw [h1] at h
    rw [if_pos (by rw [h1]; rfl)]
    simpa using h
  case pos =>
    rw [h1] at h
    rw [if_neg (by rw [h1]; simp)]
    by_cases h0 : (i : Int) > 0
    · rw [if_pos (by simpa using h0)]
      have hi0 : (i == 0) = false := by simp; omega
      have e : ((i : Int) - 1).toNat = i - 1 := by omega
      refine ⟨by rw [i64_iff]; have : maxLen ≤ 9223372036854775807 := by decide
                 omega, by omega, by omega, ?_⟩
      rw [e]
      by_cases h2 : (Op.bytesLess (ByteArray.toList (x0.getD i (ByteArray.empty, (0 : Int), (0 : Int), (0 : Int), ())).1) (ByteArray.toList (x0.getD (i - 1) (ByteArray.empty, (0 : Int), (0 : Int), (0 : Int), ())).1) || ByteArray.toList (x0.getD i (ByteArray.empty, (0 : Int), (0 : Int), (0 : Int), ())).1 == ByteArray.toList (x0.getD (i - 1) (ByteArray.empty, (0 : Int), (0 : Int), (0 : Int), ())).1) = true
      · rw [if_pos h2]
        rw [hi0, h2] at h
        simpa using h
      · rw [if_neg h2]
        rw [hi0, Bool.eq_false_iff.2 h2] at h
        exact ⟨hu, by simpa using h⟩
    · rw [if_neg (by simpa using h0)]
      have hi0 : (i == 0) = true := by simp; omega
      rw [hi0] at h
      exact ⟨hu, by simpa using h⟩

theorem top38 (x0 : List TyB0) (hw : x0.length ≤ maxLen) : R38 (x0.length + 1 + 1) x0 [⟨.bool, g38_0 x0⟩] := by
  rw [R38]
  have key := loop_testI x0 (ByteArray.empty, (0 : Int), (0 : Int), (0 : Int), ()) (ok38 x0) [(⟨.bool, false⟩ : Dyn)] [⟨.bool, decide (x0.length ≤ 8)⟩] (fun n i ds => R38_2 n i x0 ds) (fun n => ?_) (fun n i hi hok ds hr => ?_) (fun n i hi hok => ?_)
  · unfold g38_0
    cases h : allI (ok38 x0) 0 x0 with
    | true => rw [if_pos h] at key; simpa using key
    | false => rw [if_neg (by rw [h]; simp)] at key; simpa using key
  · rw [R38_2, if_neg (by simp)]
    have hc : decide ((x0.length : Int) ≤ 8) = decide (x0.length ≤ 8) := by
      congr 1; exact propext ⟨fun h => by omega, fun h => by omega⟩
    rw [hc]
  · exact step38 n i x0 hw hi ds (by rw [if_pos hok]; exact hr)
  · exact step38 n i x0 hw hi _ (by rw [if_neg (by rw [hok]; simp)])

def S38 : Am.Spec := { sig := sig38, pre := fun ⟨x0, _⟩ => P38 x0, res := fun ⟨x0, _⟩ => [⟨Ty.bool, g38_0 x0⟩] }
theorem con38 : Contract Tryz.prog 38 S38 := contract_of Tryz.func38 hb38 (Nat.le_of_ble_eq_true (by kernel_rfl)) (fun ⟨x0, _⟩ h hwf K q =>
  (snd38 _).1 x0 _ (top38 x0 hwf.1.1) K q)

end
end Go.Proofs.YtcakiedjgnhjcaaGreat

/- Function 127 (impl.isDay): its runs between cut points. Written by a program of this repo (gen). -/
set_option linter.unusedVariables false
set_option linter.unusedSimpArgs false
set_option maxRecDepth 100000
namespace Go.Proofs.YtcakiedjgnhjcaaGreat
open Go Go.Am Go.Proofs
noncomputable section
def ext127 : Ext := [(80, S80)]
theorem call127_80 : Callable Tryz.prog 80 := ⟨Tryz.f80, Tryz.func80, by kernel_rfl, by kernel_rfl⟩
theorem ext127Ok : ExtOk Tryz.prog ext127 := ⟨⟨call127_80, con80⟩, trivial⟩

noncomputable def b127 : Code := bodyOf Tryz.f127
theorem hb127 : Tryz.f127.body = some b127 := by kernel_rfl
def sig127 : List AT := [AT.v (Ty.int .i64)]
def tys127 : List Ty := [Ty.bool]
def kds127 : List RK := []
def oks127 : List AT := owns sig127
def P127 (x0 : Int) : Prop := True
def g127_0 (x0 : Int) : Bool := g80_0 x0 0 36524
theorem p127_0 (x0 : Int) : runF tab ext127 false 5 [] 2000 [] oks127 kds127 tys127 Tryz.f127.results [] [.code b127] (entE 0 0 sig127 (x0, ())) (entL sig127 (x0, ())) = some ([Dyn.mk Ty.bool (g80_0 x0 0 36524)], [], [True]) := by kernel_rfl
theorem at127 (x0 : Int) (h : P127 x0) (K : Ctx) (q : Nat → Value) : AtV Tryz.prog 127 (PostR kds127 oks127 [⟨Ty.bool, g127_0 x0⟩] [] [] q K) 5 K q [] [.code b127] (entE 0 0 sig127 (x0, ())) (entL sig127 (x0, ())) := by
  unfold P127 at h
  unfold g127_0
  exact AtV.fin Tryz.func127 tabOk ext127Ok mixed (p127_0 x0) ⟨trivial, trivial⟩

def S127 : Am.Spec := { sig := sig127, pre := fun ⟨x0, _⟩ => P127 x0, res := fun ⟨x0, _⟩ => [⟨Ty.bool, g127_0 x0⟩], kds := kds127 }
theorem con127 : Contract Tryz.prog 127 S127 := contract_of Tryz.func127 hb127 (Nat.le_of_ble_eq_true (by kernel_rfl)) (fun ⟨x0, _⟩ h _ K q => at127 x0 h K q)


end
end Go.Proofs.YtcakiedjgnhjcaaGreat

/- Function 120 (impl.isShare): its runs between cut points. Written by a program of this repo (gen). -/
set_option linter.unusedVariables false
set_option linter.unusedSimpArgs false
set_option maxRecDepth 100000
namespace Go.Proofs.YtcakiedjgnhjcaaGreat
open Go Go.Am Go.Proofs
noncomputable section
def ext120 : Ext := [(80, S80)]
theorem call120_80 : Callable Tryz.prog 80 := ⟨Tryz.f80, Tryz.func80, by kernel_rfl, by kernel_rfl⟩
theorem ext120Ok : ExtOk Tryz.prog ext120 := ⟨⟨call120_80, con80⟩, trivial⟩

noncomputable def b120 : Code := bodyOf Tryz.f120
theorem hb120 : Tryz.f120.body = some b120 := by kernel_rfl
def sig120 : List AT := [AT.v (Ty.int .i64)]
def tys120 : List Ty := [Ty.bool]
def kds120 : List RK := []
def oks120 : List AT := owns sig120
def P120 (x0 : Int) : Prop := True
def g120_0 (x0 : Int) : Bool := g80_0 x0 0 1000
theorem p120_0 (x0 : Int) : runF tab ext120 false 5 [] 2000 [] oks120 kds120 tys120 Tryz.f120.results [] [.code b120] (entE 0 0 sig120 (x0, ())) (entL sig120 (x0, ())) = some ([Dyn.mk Ty.bool (g80_0 x0 0 1000)], [], [True]) := by kernel_rfl
theorem at120 (x0 : Int) (h : P120 x0) (K : Ctx) (q : Nat → Value) : AtV Tryz.prog 120 (PostR kds120 oks120 [⟨Ty.bool, g120_0 x0⟩] [] [] q K) 5 K q [] [.code b120] (entE 0 0 sig120 (x0, ())) (entL sig120 (x0, ())) := by
  unfold P120 at h
  unfold g120_0
  exact AtV.fin Tryz.func120 tabOk ext120Ok mixed (p120_0 x0) ⟨trivial, trivial⟩

def S120 : Am.Spec := { sig := sig120, pre := fun ⟨x0, _⟩ => P120 x0, res := fun ⟨x0, _⟩ => [⟨Ty.bool, g120_0 x0⟩], kds := kds120 }
theorem con120 : Contract Tryz.prog 120 S120 := contract_of Tryz.func120 hb120 (Nat.le_of_ble_eq_true (by kernel_rfl)) (fun ⟨x0, _⟩ h _ K q => at120 x0 h K q)


end
end Go.Proofs.YtcakiedjgnhjcaaGreat

/- Function 118 (impl.isTest): its runs between cut points. Written by a program of this repo (gen). -/
set_option linter.unusedVariables false
set_option linter.unusedSimpArgs false
set_option maxRecDepth 100000
namespace Go.Proofs.YtcakiedjgnhjcaaGreat
open Go Go.Am Go.Proofs
noncomputable section
def ext118 : Ext := [(127, S127), (80, S80), (120, S120)]
theorem call118_127 : Callable Tryz.prog 127 := ⟨Tryz.f127, Tryz.func127, by kernel_rfl, by kernel_rfl⟩
theorem call118_80 : Callable Tryz.prog 80 := ⟨Tryz.f80, Tryz.func80, by kernel_rfl, by kernel_rfl⟩
theorem call118_120 : Callable Tryz.prog 120 := ⟨Tryz.f120, Tryz.func120, by kernel_rfl, by kernel_rfl⟩
theorem ext118Ok : ExtOk Tryz.prog ext118 := ⟨⟨call118_127, con127⟩, ⟨call118_80, con80⟩, ⟨call118_120, con120⟩, trivial⟩

noncomputable def b118 : Code := bodyOf Tryz.f118
theorem hb118 : Tryz.f118.body = some b118 := by kernel_rfl
def sig118 : List AT := [AT.v (Ty.cons (Ty.int .i64) (Ty.cons (Ty.int .i64) (Ty.cons (Ty.int .i64) Ty.unit)))]
def tys118 : List Ty := [Ty.bool]
def kds118 : List RK := []
def oks118 : List AT := owns sig118
def P118 (x0 : Int × Int × Int × Unit) : Prop := True
def g118_0 (x0 : Int × Int × Int × Unit) : Bool := (if (g127_0 x0.1) = true then (if (g80_0 x0.2.1 0 24000) = true then g120_0 x0.2.2.1 else false) else false)
theorem p118_0 (x0 : Int × Int × Int × Unit) : runF tab ext118 false 16 [] 2000 [] oks118 kds118 tys118 Tryz.f118.results [true, true] [.code b118] (entE 0 0 sig118 (x0, ())) (entL sig118 (x0, ())) = some ([Dyn.mk Ty.bool (g120_0 x0.2.2.1)], [], [True, g127_0 x0.1 = true, True, g80_0 x0.2.1 0 24000 = true, True]) := by kernel_rfl
theorem p118_1 (x0 : Int × Int × Int × Unit) : runF tab ext118 false 16 [] 2000 [] oks118 kds118 tys118 Tryz.f118.results [true, false] [.code b118] (entE 0 0 sig118 (x0, ())) (entL sig118 (x0, ())) = some ([Dyn.mk Ty.bool false], [], [True, g127_0 x0.1 = true, True, g80_0 x0.2.1 0 24000 = false]) := by kernel_rfl
theorem p118_2 (x0 : Int × Int × Int × Unit) : runF tab ext118 false 16 [] 2000 [] oks118 kds118 tys118 Tryz.f118.results [false, false] [.code b118] (entE 0 0 sig118 (x0, ())) (entL sig118 (x0, ())) = some ([Dyn.mk Ty.bool false], [], [True, g127_0 x0.1 = false, false = false]) := by kernel_rfl
theorem at118 (x0 : Int × Int × Int × Unit) (h : P118 x0) (K : Ctx) (q : Nat → Value) : AtV Tryz.prog 118 (PostR kds118 oks118 [⟨Ty.bool, g118_0 x0⟩] [] [] q K) 16 K q [] [.code b118] (entE 0 0 sig118 (x0, ())) (entL sig118 (x0, ())) := by
  unfold P118 at h
  unfold g118_0
  by_cases b0 : (g127_0 x0.1) = true
  · try simp only [if_pos b0] at h ⊢
    by_cases b1 : (g80_0 x0.2.1 0 24000) = true
    · try simp only [if_pos b1] at h ⊢
      exact AtV.fin Tryz.func118 tabOk ext118Ok mixed (p118_0 x0) ⟨trivial, b0, trivial, b1, trivial, trivial⟩
    · try simp only [if_neg b1] at h ⊢
      replace b1 := Bool.eq_false_iff.2 b1
      exact AtV.fin Tryz.func118 tabOk ext118Ok mixed (p118_1 x0) ⟨trivial, b0, trivial, b1, trivial⟩
  · try simp only [if_neg b0] at h ⊢
    replace b0 := Bool.eq_false_iff.2 b0
    exact AtV.fin Tryz.func118 tabOk ext118Ok mixed (p118_2 x0) ⟨trivial, b0, rfl, trivial⟩

def S118 : Am.Spec := { sig := sig118, pre := fun ⟨x0, _⟩ => P118 x0, res := fun ⟨x0, _⟩ => [⟨Ty.bool, g118_0 x0⟩], kds := kds118 }
theorem con118 : Contract Tryz.prog 118 S118 := contract_of Tryz.func118 hb118 (Nat.le_of_ble_eq_true (by kernel_rfl)) (fun ⟨x0, _⟩ h _ K q => at118 x0 h K q)


end
end Go.Proofs.YtcakiedjgnhjcaaGreat

/- Function 91 (impl.areTests): its runs between cut points. Written by a program of this repo (gen). -/
set_option linter.unusedVariables false
set_option linter.unusedSimpArgs false
set_option maxRecDepth 100000
namespace Go.Proofs.YtcakiedjgnhjcaaGreat
open Go Go.Am Go.Proofs
noncomputable section
def ext91 : Ext := [(118, S118)]
theorem call91_118 : Callable Tryz.prog 118 := ⟨Tryz.f118, Tryz.func118, by kernel_rfl, by kernel_rfl⟩
theorem ext91Ok : ExtOk Tryz.prog ext91 := ⟨⟨call91_118, con118⟩, trivial⟩

noncomputable def b91 : Code := bodyOf Tryz.f91
theorem hb91 : Tryz.f91.body = some b91 := by kernel_rfl
def sig91 : List AT := [AT.v (Ty.sl (Ty.cons (Ty.int .i64) (Ty.cons (Ty.int .i64) (Ty.cons (Ty.int .i64) Ty.unit))))]
def tys91 : List Ty := [Ty.bool]
def kds91 : List RK := []
def oks91 : List AT := owns sig91
def E91_2 (v7 : Int) (x0 : List TyB2) : Env := [(0, PV.a (Atom.sl (Ty.cons (Ty.int .i64) (Ty.cons (Ty.int .i64) (Ty.cons (Ty.int .i64) Ty.unit))) x0)), (5, PV.a (Atom.sl (Ty.cons (Ty.int .i64) (Ty.cons (Ty.int .i64) (Ty.cons (Ty.int .i64) Ty.unit))) x0)), (6, PV.a (Atom.val (Value.int .i64 (↑(List.length x0) : Int)))), (7, PV.a (Atom.val (Value.int .i64 v7)))]
def L91_2 (v7 : Int) (x0 : List TyB2) : Heap := []
mutual
def R91 : Nat → List TyB2 → List Dyn → Prop
  | 0, _, _ => False
  | n + 1, x0, ds => (R91_2 n (0) (x0) ds)
def R91_2 : Nat → Int → List TyB2 → List Dyn → Prop
  | 0, _, _, _ => False
  | n + 1, v7, x0, ds => (if (decide (v7 < (↑(List.length x0) : Int))) = true then ((0 ≤ v7) ∧ (v7 < (↑(List.length x0) : Int)) ∧ (if (!g118_0 (List.getD x0 (Int.toNat v7) (0, 0, 0, ()))) = true then (ds = [Dyn.mk Ty.bool false]) else (if (decide (v7 > 0)) = true then ((InR .i64 (v7 - 1)) ∧ ((0 ≤ v7 - 1) ∧ (v7 - 1 < (↑(List.length x0) : Int)) ∧ (if (decide ((List.getD x0 (Int.toNat v7) (0, 0, 0, ())).1 ≤ (List.getD x0 (Int.toNat (v7 - 1)) (0, 0, 0, ())).1)) = true then (ds = [Dyn.mk Ty.bool false]) else ((InR .i64 (v7 - 1)) ∧ ((0 ≤ v7 - 1) ∧ (v7 - 1 < (↑(List.length x0) : Int)) ∧ (if (decide ((List.getD x0 (Int.toNat v7) (0, 0, 0, ())).2.1 < (List.getD x0 (Int.toNat (v7 - 1)) (0, 0, 0, ())).2.1)) = true then (ds = [Dyn.mk Ty.bool false]) else ((InR .i64 (v7 - 1)) ∧ ((0 ≤ v7 - 1) ∧ (v7 - 1 < (↑(List.length x0) : Int)) ∧ (if (decide ((List.getD x0 (Int.toNat v7) (0, 0, 0, ())).2.2.1 < (List.getD x0 (Int.toNat (v7 - 1)) (0, 0, 0, ())).2.2.1)) = true then (ds = [Dyn.mk Ty.bool false]) else ((InR .i64 (v7 + 1)) ∧ (R91_2 n (v7 + 1) (x0) ds))))))))))) else ((InR .i64 (v7 + 1)) ∧ (R91_2 n (v7 + 1) (x0) ds))))) else (ds = [Dyn.mk Ty.bool true]))
end
theorem p91_0 (x0 : List TyB2) : Am.runN tab ext91 false 51 [] 2000 [] [] [0, 5, 6, 7] [] [] [.code b91] (entE 0 0 sig91 (x0, ())) (entL sig91 (x0, ())) = some (cutAt b91 2, E91_2 (0) (x0), L91_2 (0) (x0), []) := by kernel_rfl
theorem p91_1 (v7 : Int) (x0 : List TyB2) : runF tab ext91 false 51 [] 2000 [] oks91 kds91 tys91 Tryz.f91.results [true, true] (cutAt b91 2) (E91_2 v7 x0) (L91_2 v7 x0) = some ([Dyn.mk Ty.bool false], [], [decide (v7 < (↑(List.length x0) : Int)) = true, 0 ≤ v7, v7 < (↑(List.length x0) : Int), True, (!g118_0 (List.getD x0 (Int.toNat v7) (0, 0, 0, ()))) = true]) := by kernel_rfl
theorem p91_2 (v7 : Int) (x0 : List TyB2) : runF tab ext91 false 51 [] 2000 [] oks91 kds91 tys91 Tryz.f91.results [true, false, true, true, true, true] (cutAt b91 2) (E91_2 v7 x0) (L91_2 v7 x0) = some ([Dyn.mk Ty.bool false], [], [decide (v7 < (↑(List.length x0) : Int)) = true, 0 ≤ v7, v7 < (↑(List.length x0) : Int), True, (!g118_0 (List.getD x0 (Int.toNat v7) (0, 0, 0, ()))) = false, decide (v7 > 0) = true, InR .i64 (v7 - 1), 0 ≤ v7 - 1, v7 - 1 < (↑(List.length x0) : Int), decide ((List.getD x0 (Int.toNat v7) (0, 0, 0, ())).1 ≤ (List.getD x0 (Int.toNat (v7 - 1)) (0, 0, 0, ())).1) = true, true = true, true = true]) := by kernel_rfl
theorem p91_3 (v7 : Int) (x0 : List TyB2) : runF tab ext91 false 51 [] 2000 [] oks91 kds91 tys91 Tryz.f91.results [true, false, true, false, true, true] (cutAt b91 2) (E91_2 v7 x0) (L91_2 v7 x0) = some ([Dyn.mk Ty.bool false], [], [decide (v7 < (↑(List.length x0) : Int)) = true, 0 ≤ v7, v7 < (↑(List.length x0) : Int), True, (!g118_0 (List.getD x0 (Int.toNat v7) (0, 0, 0, ()))) = false, decide (v7 > 0) = true, InR .i64 (v7 - 1), 0 ≤ v7 - 1, v7 - 1 < (↑(List.length x0) : Int), decide ((List.getD x0 (Int.toNat v7) (0, 0, 0, ())).1 ≤ (List.getD x0 (Int.toNat (v7 - 1)) (0, 0, 0, ())).1) = false, InR .i64 (v7 - 1), 0 ≤ v7 - 1, v7 - 1 < (↑(List.length x0) : Int), decide ((List.getD x0 (Int.toNat v7) (0, 0, 0, ())).2.1 < (List.getD x0 (Int.toNat (v7 - 1)) (0, 0, 0, ())).2.1) = true, true = true]) := by kernel_rfl
theorem p91_4 (v7 : Int) (x0 : List TyB2) : runF tab ext91 false 51 [] 2000 [] oks91 kds91 tys91 Tryz.f91.results [true, false, true, false, false, true] (cutAt b91 2) (E91_2 v7 x0) (L91_2 v7 x0) = some ([Dyn.mk Ty.bool false], [], [decide (v7 < (↑(List.length x0) : Int)) = true, 0 ≤ v7, v7 < (↑(List.length x0) : Int), True, (!g118_0 (List.getD x0 (Int.toNat v7) (0, 0, 0, ()))) = false, decide (v7 > 0) = true, InR .i64 (v7 - 1), 0 ≤ v7 - 1, v7 - 1 < (↑(List.length x0) : Int), decide ((List.getD x0 (Int.toNat v7) (0, 0, 0, ())).1 ≤ (List.getD x0 (Int.toNat (v7 - 1)) (0, 0, 0, ())).1) = false, InR .i64 (v7 - 1), 0 ≤ v7 - 1, v7 - 1 < (↑(List.length x0) : Int), decide ((List.getD x0 (Int.toNat v7) (0, 0, 0, ())).2.1 < (List.getD x0 (Int.toNat (v7 - 1)) (0, 0, 0, ())).2.1) = false, InR .i64 (v7 - 1), 0 ≤ v7 - 1, v7 - 1 < (↑(List.length x0) : Int), decide ((List.getD x0 (Int.toNat v7) (0, 0, 0, ())).2.2.1 < (List.getD x0 (Int.toNat (v7 - 1)) (0, 0, 0, ())).2.2.1) = true]) := by kernel_rfl
theorem p91_5 (v7 : Int) (x0 : List TyB2) : Am.runN tab ext91 false 51 [] 2000 [] [] [0, 5, 6, 7] [] [true, false, true, false, false, false] (cutAt b91 2) (E91_2 v7 x0) (L91_2 v7 x0) = some (cutAt b91 2, E91_2 (v7 + 1) (x0), L91_2 (v7 + 1) (x0), [decide (v7 < (↑(List.length x0) : Int)) = true, 0 ≤ v7, v7 < (↑(List.length x0) : Int), True, (!g118_0 (List.getD x0 (Int.toNat v7) (0, 0, 0, ()))) = false, decide (v7 > 0) = true, InR .i64 (v7 - 1), 0 ≤ v7 - 1, v7 - 1 < (↑(List.length x0) : Int), decide ((List.getD x0 (Int.toNat v7) (0, 0, 0, ())).1 ≤ (List.getD x0 (Int.toNat (v7 - 1)) (0, 0, 0, ())).1) = false, InR .i64 (v7 - 1), 0 ≤ v7 - 1, v7 - 1 < (↑(List.length x0) : Int), decide ((List.getD x0 (Int.toNat v7) (0, 0, 0, ())).2.1 < (List.getD x0 (Int.toNat (v7 - 1)) (0, 0, 0, ())).2.1) = false, InR .i64 (v7 - 1), 0 ≤ v7 - 1, v7 - 1 < (↑(List.length x0) : Int), decide ((List.getD x0 (Int.toNat v7) (0, 0, 0, ())).2.2.1 < (List.getD x0 (Int.toNat (v7 - 1)) (0, 0, 0, ())).2.2.1) = false, InR .i64 (v7 + 1)]) := by kernel_rfl
theorem p91_6 (v7 : Int) (x0 : List TyB2) : Am.runN tab ext91 false 51 [] 2000 [] [] [0, 5, 6, 7] [] [true, false, false, false] (cutAt b91 2) (E91_2 v7 x0) (L91_2 v7 x0) = some (cutAt b91 2, E91_2 (v7 + 1) (x0), L91_2 (v7 + 1) (x0), [decide (v7 < (↑(List.length x0) : Int)) = true, 0 ≤ v7, v7 < (↑(List.length x0) : Int), True, (!g118_0 (List.getD x0 (Int.toNat v7) (0, 0, 0, ()))) = false, decide (v7 > 0) = false, false = false, InR .i64 (v7 + 1)]) := by kernel_rfl
theorem p91_7 (v7 : Int) (x0 : List TyB2) : runF tab ext91 false 51 [] 2000 [] oks91 kds91 tys91 Tryz.f91.results [false] (cutAt b91 2) (E91_2 v7 x0) (L91_2 v7 x0) = some ([Dyn.mk Ty.bool true], [], [decide (v7 < (↑(List.length x0) : Int)) = false]) := by kernel_rfl
theorem snd91 : ∀ n, (∀ (x0 : List TyB2) ds, R91 n x0 ds → ∀ K q, AtV Tryz.prog 91 (PostR kds91 oks91 ds [] [] q K) 51 K q [] [.code b91] (entE 0 0 sig91 (x0, ())) (entL sig91 (x0, ()))) ∧ (∀ (v7 : Int) (x0 : List TyB2) ds, R91_2 n v7 x0 ds → ∀ K q, AtV Tryz.prog 91 (PostR kds91 oks91 ds [] [] q K) 51 K q [] (cutAt b91 2) (E91_2 v7 x0) (L91_2 v7 x0)) := by
  intro n
  induction n with
  | zero => exact ⟨fun _ _ h => by simp only [R91] at h, fun _ _ _ h => by simp only [R91_2] at h⟩
  | succ n ih =>
  obtain ⟨ih, ih2⟩ := ih
  refine ⟨?_, ?_⟩
  · intro x0 ds h K q
    rw [R91] at h
    exact AtV.runN tabOk ext91Ok mixed (p91_0 x0) trivial (ih2 _ _ _ h K q)

  · intro v7 x0 ds h K q
    rw [R91_2] at h
    by_cases b0 : (decide (v7 < (↑(List.length x0) : Int))) = true
    · rw [if_pos b0] at h
      obtain ⟨s0, s1, h⟩ := h
      by_cases b1 : (!g118_0 (List.getD x0 (Int.toNat v7) (0, 0, 0, ()))) = true
      · rw [if_pos b1] at h
        subst h
        exact AtV.fin Tryz.func91 tabOk ext91Ok mixed (p91_1 v7 x0) ⟨b0, s0, s1, trivial, b1, trivial⟩
      · rw [if_neg b1] at h
        replace b1 := Bool.eq_false_iff.2 b1
        by_cases b2 : (decide (v7 > 0)) = true
        · rw [if_pos b2] at h
          obtain ⟨s2, h⟩ := h
          obtain ⟨s3, s4, h⟩ := h
          by_cases b3 : (decide ((List.getD x0 (Int.toNat v7) (0, 0, 0, ())).1 ≤ (List.getD x0 (Int.toNat (v7 - 1)) (0, 0, 0, ())).1)) = true
          · rw [if_pos b3] at h
            subst h
            exact AtV.fin Tryz.func91 tabOk ext91Ok mixed (p91_2 v7 x0) ⟨b0, s0, s1, trivial, b1, b2, s2, s3, s4, b3, rfl, rfl, trivial⟩
          · rw [if_neg b3] at h
            replace b3 := Bool.eq_false_iff.2 b3
            obtain ⟨s5, h⟩ := h
            obtain ⟨s6, s7, h⟩ := h
            by_cases b4 : (decide ((List.getD x0 (Int.toNat v7) (0, 0, 0, ())).2.1 < (List.getD x0 (Int.toNat (v7 - 1)) (0, 0, 0, ())).2.1)) = true
            · rw [if_pos b4] at h
              subst h
              exact AtV.fin Tryz.func91 tabOk ext91Ok mixed (p91_3 v7 x0) ⟨b0, s0, s1, trivial, b1, b2, s2, s3, s4, b3, s5, s6, s7, b4, rfl, trivial⟩
            · rw [if_neg b4] at h
              replace b4 := Bool.eq_false_iff.2 b4
              obtain ⟨s8, h⟩ := h
              obtain ⟨s9, s10, h⟩ := h
              by_cases b5 : (decide ((List.getD x0 (Int.toNat v7) (0, 0, 0, ())).2.2.1 < (List.getD x0 (Int.toNat (v7 - 1)) (0, 0, 0, ())).2.2.1)) = true
              · rw [if_pos b5] at h
                subst h
                exact AtV.fin Tryz.func91 tabOk ext91Ok mixed (p91_4 v7 x0) ⟨b0, s0, s1, trivial, b1, b2, s2, s3, s4, b3, s5, s6, s7, b4, s8, s9, s10, b5, trivial⟩
              · rw [if_neg b5] at h
                replace b5 := Bool.eq_false_iff.2 b5
                obtain ⟨s11, h⟩ := h
                exact AtV.runN tabOk ext91Ok mixed (p91_5 v7 x0) ⟨b0, s0, s1, trivial, b1, b2, s2, s3, s4, b3, s5, s6, s7, b4, s8, s9, s10, b5, s11, trivial⟩ (ih2 _ _ _ h K q)
        · rw [if_neg b2] at h
          replace b2 := Bool.eq_false_iff.2 b2
          obtain ⟨s2, h⟩ := h
          exact AtV.runN tabOk ext91Ok mixed (p91_6 v7 x0) ⟨b0, s0, s1, trivial, b1, b2, rfl, s2, trivial⟩ (ih2 _ _ _ h K q)
    · rw [if_neg b0] at h
      replace b0 := Bool.eq_false_iff.2 b0
      subst h
      exact AtV.fin Tryz.func91 tabOk ext91Ok mixed (p91_7 v7 x0) ⟨b0, trivial⟩



def ord91 (y x : TyB2) : Bool := decide (y.1 < x.1) && decide (y.2.1 ≤ x.2.1) && decide (y.2.2.1 ≤ x.2.2.1)
def ok91 (x0 : List TyB2) (i : Nat) (x : TyB2) : Bool := g118_0 x && (i == 0 || ord91 (x0.getD (i - 1) ((0 : Int), (0 : Int), (0 : Int), ())) x)
def g91_0 (x0 : List TyB2) : Bool := allI (ok91 x0) 0 x0
def P91 (x0 : List TyB2) : Prop := True

theorem step91 (n i : Nat) (x0 : List TyB2) (hm : x0.length ≤ maxLen) (hi : i < x0.length) (ds : List Dyn)
    (h : if ok91 x0 i (x0.getD i ((0 : Int), (0 : Int), (0 : Int), ())) = true then R91_2 n ((i : Int) + 1) x0 ds else ds = [⟨.bool, false⟩]) : R91_2 (n + 1) (i : Int) x0 ds := by
  have hu := inR_up hm hi
  have hmx : maxLen ≤ 9223372036854775807 := by decide
  rw [R91_2, if_pos (by simp; omega)]
  refine ⟨by omega, by omega, ?_⟩
  simp only [Int.toNat_natCast]
  unfold ok91 ord91 at h
  by_cases hv : g118_0 (x0.getD i ((0 : Int), (0 : Int), (0 : Int), ())) = true
  case neg => rw [Bool.eq_false_iff.2 hv] at h; rw [if_pos (by rw [Bool.eq_false_iff.2 hv]; rfl)]; simpa using h
  rw [if_neg (by rw [hv]; simp)]
  rw [hv] at h
  by_cases h0 : (i : Int) > 0
  case neg =>
    rw [if_neg (by simpa using h0)]
    have hi0 : (i == 0) = true := by simp; omega
    rw [hi0] at h
    exact ⟨hu, by simpa using h⟩
  rw [if_pos (by simpa using h0)]
  have hi0 : (i == 0) = false := by simp; omega
  have e : ((i : Int) - 1).toNat = i - 1 := by omega
  have hd : InR .i64 ((i : Int) - 1) := by rw [i64_iff]; omega
  rw [hi0] at h
  simp only [e]
  refine ⟨hd, by omega, by omega, ?_⟩
  by_cases c0 : (x0.getD i ((0 : Int), (0 : Int), (0 : Int), ())).1 ≤ (x0.getD (i - 1) ((0 : Int), (0 : Int), (0 : Int), ())).1
  case pos =>
    rw [if_pos (decide_eq_true c0)]
    have : decide ((x0.getD (i - 1) ((0 : Int), (0 : Int), (0 : Int), ())).1 < (x0.getD i ((0 : Int), (0 : Int), (0 : Int), ())).1) = false := decide_eq_false (by omega)
    rw [this] at h
    simpa using h
  rw [if_neg (by simpa using c0)]
  refine ⟨hd, by omega, by omega, ?_⟩
  by_cases c1 : (x0.getD i ((0 : Int), (0 : Int), (0 : Int), ())).2.1 < (x0.getD (i - 1) ((0 : Int), (0 : Int), (0 : Int), ())).2.1
  case pos =>
    rw [if_pos (decide_eq_true c1)]
    have : decide ((x0.getD (i - 1) ((0 : Int), (0 : Int), (0 : Int), ())).2.1 ≤ (x0.getD i ((0 : Int), (0 : Int), (0 : Int), ())).2.1) = false := decide_eq_false (by omega)
    rw [this] at h
    simpa using h
  rw [if_neg (by simpa using c1)]
  refine ⟨hd, by omega, by omega, ?_⟩
  by_cases c2 : (x0.getD i ((0 : Int), (0 : Int), (0 : Int), ())).2.2.1 < (x0.getD (i - 1) ((0 : Int), (0 : Int), (0 : Int), ())).2.2.1
  case pos =>
    rw [if_pos (decide_eq_true c2)]
    have : decide ((x0.getD (i - 1) ((0 : Int), (0 : Int), (0 : Int), ())).2.2.1 ≤ (x0.getD i ((0 : Int), (0 : Int), (0 : Int), ())).2.2.1) = false := decide_eq_false (by omega)
    rw [this] at h
    simpa using h
  rw [if_neg (by simpa using c2)]
  have d0 : decide ((x0.getD (i - 1) ((0 : Int), (0 : Int), (0 : Int), ())).1 < (x0.getD i ((0 : Int), (0 : Int), (0 : Int), ())).1) = true := decide_eq_true (by omega)
  have d1 : decide ((x0.getD (i - 1) ((0 : Int), (0 : Int), (0 : Int), ())).2.1 ≤ (x0.getD i ((0 : Int), (0 : Int), (0 : Int), ())).2.1) = true := decide_eq_true (by omega)
  have d2 : decide ((x0.getD (i - 1) ((0 : Int), (0 : Int), (0 : Int), ())).2.2.1 ≤ (x0.getD i ((0 : Int), (0 : Int), (0 : Int), ())).2.2.1) = true := decide_eq_true (by omega)
  rw [d0, d1, d2] at h
  exact ⟨hu, by simpa using h⟩

theorem top91 (x0 : List TyB2) (hw : x0.length ≤ maxLen) : R91 (x0.length + 1 + 1) x0 [⟨.bool, g91_0 x0⟩] := by
  rw [R91]
  have key := loop_testI x0 ((0 : Int), (0 : Int), (0 : Int), ()) (ok91 x0) [(⟨.bool, false⟩ : Dyn)] [⟨.bool, true⟩] (fun n i ds => R91_2 n i x0 ds) (fun n => ?_) (fun n i hi hok ds hr => ?_) (fun n i hi hok => ?_)
  · unfold g91_0
    cases h : allI (ok91 x0) 0 x0 with
    | true => rw [if_pos h] at key; simpa using key
    | false => rw [if_neg (by rw [h]; simp)] at key; simpa using key
  · rw [R91_2, if_neg (by simp)]
  · exact step91 n i x0 hw hi ds (by rw [if_pos hok]; exact hr)
  · exact step91 n i x0 hw hi _ (by rw [if_neg (by rw [hok]; simp)])

def S91 : Am.Spec := { sig := sig91, pre := fun ⟨x0, _⟩ => P91 x0, res := fun ⟨x0, _⟩ => [⟨Ty.bool, g91_0 x0⟩] }
theorem con91 : Contract Tryz.prog 91 S91 := contract_of Tryz.func91 hb91 (Nat.le_of_ble_eq_true (by kernel_rfl)) (fun ⟨x0, _⟩ h hwf K q =>
  (snd91 _).1 x0 _ (top91 x0 hwf.1.1) K q)

end
end Go.Proofs.YtcakiedjgnhjcaaGreat

/- Function 39 (impl.ValidTests): its runs between cut points. Written by a program of this repo (gen). -/
set_option linter.unusedVariables false
set_option linter.unusedSimpArgs false
set_option maxRecDepth 100000
namespace Go.Proofs.YtcakiedjgnhjcaaGreat
open Go Go.Am Go.Proofs
noncomputable section
def ext39 : Ext := [(91, S91)]
theorem call39_91 : Callable Tryz.prog 91 := ⟨Tryz.f91, Tryz.func91, by kernel_rfl, by kernel_rfl⟩
theorem ext39Ok : ExtOk Tryz.prog ext39 := ⟨⟨call39_91, con91⟩, trivial⟩

noncomputable def b39 : Code := bodyOf Tryz.f39
theorem hb39 : Tryz.f39.body = some b39 := by kernel_rfl
def sig39 : List AT := [AT.v (Ty.sl (Ty.cons (Ty.int .i64) (Ty.cons (Ty.int .i64) (Ty.cons (Ty.int .i64) Ty.unit))))]
def tys39 : List Ty := [Ty.bool]
def kds39 : List RK := []
def oks39 : List AT := owns sig39
def P39 (x0 : List TyB2) : Prop := True
def g39_0 (x0 : List TyB2) : Bool := (if (g91_0 x0) = true then decide ((↑(List.length x0) : Int) ≤ 24) else false)
theorem p39_0 (x0 : List TyB2) : runF tab ext39 false 10 [] 2000 [] oks39 kds39 tys39 Tryz.f39.results [true] [.code b39] (entE 0 0 sig39 (x0, ())) (entL sig39 (x0, ())) = some ([Dyn.mk Ty.bool (decide ((↑(List.length x0) : Int) ≤ 24))], [], [True, g91_0 x0 = true]) := by kernel_rfl
theorem p39_1 (x0 : List TyB2) : runF tab ext39 false 10 [] 2000 [] oks39 kds39 tys39 Tryz.f39.results [false] [.code b39] (entE 0 0 sig39 (x0, ())) (entL sig39 (x0, ())) = some ([Dyn.mk Ty.bool false], [], [True, g91_0 x0 = false]) := by kernel_rfl
theorem at39 (x0 : List TyB2) (h : P39 x0) (K : Ctx) (q : Nat → Value) : AtV Tryz.prog 39 (PostR kds39 oks39 [⟨Ty.bool, g39_0 x0⟩] [] [] q K) 10 K q [] [.code b39] (entE 0 0 sig39 (x0, ())) (entL sig39 (x0, ())) := by
  unfold P39 at h
  unfold g39_0
  by_cases b0 : (g91_0 x0) = true
  · try simp only [if_pos b0] at h ⊢
    exact AtV.fin Tryz.func39 tabOk ext39Ok mixed (p39_0 x0) ⟨trivial, b0, trivial⟩
  · try simp only [if_neg b0] at h ⊢
    replace b0 := Bool.eq_false_iff.2 b0
    exact AtV.fin Tryz.func39 tabOk ext39Ok mixed (p39_1 x0) ⟨trivial, b0, trivial⟩

def S39 : Am.Spec := { sig := sig39, pre := fun ⟨x0, _⟩ => P39 x0, res := fun ⟨x0, _⟩ => [⟨Ty.bool, g39_0 x0⟩], kds := kds39 }
theorem con39 : Contract Tryz.prog 39 S39 := contract_of Tryz.func39 hb39 (Nat.le_of_ble_eq_true (by kernel_rfl)) (fun ⟨x0, _⟩ h _ K q => at39 x0 h K q)


end
end Go.Proofs.YtcakiedjgnhjcaaGreat

/- Function 119 (impl.isSkills): its runs between cut points. Written by a program of this repo (gen). -/
set_option linter.unusedVariables false
set_option linter.unusedSimpArgs false
set_option maxRecDepth 100000
namespace Go.Proofs.YtcakiedjgnhjcaaGreat
open Go Go.Am Go.Proofs
noncomputable section
def ext119 : Ext := [(80, S80)]
theorem call119_80 : Callable Tryz.prog 80 := ⟨Tryz.f80, Tryz.func80, by kernel_rfl, by kernel_rfl⟩
theorem ext119Ok : ExtOk Tryz.prog ext119 := ⟨⟨call119_80, con80⟩, trivial⟩

noncomputable def b119 : Code := bodyOf Tryz.f119
theorem hb119 : Tryz.f119.body = some b119 := by kernel_rfl
def sig119 : List AT := [AT.v (Ty.int .i64)]
def tys119 : List Ty := [Ty.bool]
def kds119 : List RK := []
def oks119 : List AT := owns sig119
def P119 (x0 : Int) : Prop := True
def g119_0 (x0 : Int) : Bool := g80_0 x0 0 7
theorem p119_0 (x0 : Int) : runF tab ext119 false 5 [] 2000 [] oks119 kds119 tys119 Tryz.f119.results [] [.code b119] (entE 0 0 sig119 (x0, ())) (entL sig119 (x0, ())) = some ([Dyn.mk Ty.bool (g80_0 x0 0 7)], [], [True]) := by kernel_rfl
theorem at119 (x0 : Int) (h : P119 x0) (K : Ctx) (q : Nat → Value) : AtV Tryz.prog 119 (PostR kds119 oks119 [⟨Ty.bool, g119_0 x0⟩] [] [] q K) 5 K q [] [.code b119] (entE 0 0 sig119 (x0, ())) (entL sig119 (x0, ())) := by
  unfold P119 at h
  unfold g119_0
  exact AtV.fin Tryz.func119 tabOk ext119Ok mixed (p119_0 x0) ⟨trivial, trivial⟩

def S119 : Am.Spec := { sig := sig119, pre := fun ⟨x0, _⟩ => P119 x0, res := fun ⟨x0, _⟩ => [⟨Ty.bool, g119_0 x0⟩], kds := kds119 }
theorem con119 : Contract Tryz.prog 119 S119 := contract_of Tryz.func119 hb119 (Nat.le_of_ble_eq_true (by kernel_rfl)) (fun ⟨x0, _⟩ h _ K q => at119 x0 h K q)


end
end Go.Proofs.YtcakiedjgnhjcaaGreat

/- Function 92 (impl.validHelper): its runs between cut points. Written by a program of this repo (gen). -/
set_option linter.unusedVariables false
set_option linter.unusedSimpArgs false
set_option maxRecDepth 100000
namespace Go.Proofs.YtcakiedjgnhjcaaGreat
open Go Go.Am Go.Proofs
noncomputable section
def ext92 : Ext := [(111, S111), (119, S119), (120, S120)]
theorem call92_111 : Callable Tryz.prog 111 := ⟨Tryz.f111, Tryz.func111, by kernel_rfl, by kernel_rfl⟩
theorem call92_119 : Callable Tryz.prog 119 := ⟨Tryz.f119, Tryz.func119, by kernel_rfl, by kernel_rfl⟩
theorem call92_120 : Callable Tryz.prog 120 := ⟨Tryz.f120, Tryz.func120, by kernel_rfl, by kernel_rfl⟩
theorem ext92Ok : ExtOk Tryz.prog ext92 := ⟨⟨call92_111, con111⟩, ⟨call92_119, con119⟩, ⟨call92_120, con120⟩, trivial⟩

noncomputable def b92 : Code := bodyOf Tryz.f92
theorem hb92 : Tryz.f92.body = some b92 := by kernel_rfl
def sig92 : List AT := [AT.v (Ty.cons Ty.str (Ty.cons (Ty.int .i64) (Ty.cons (Ty.int .i64) Ty.unit)))]
def tys92 : List Ty := [Ty.bool]
def kds92 : List RK := []
def oks92 : List AT := owns sig92
def P92 (x0 : ByteArray × Int × Int × Unit) : Prop := True
def g92_0 (x0 : ByteArray × Int × Int × Unit) : Bool := (if (g111_0 x0.1) = true then (if (g119_0 x0.2.1) = true then g120_0 x0.2.2.1 else false) else false)
theorem p92_0 (x0 : ByteArray × Int × Int × Unit) : runF tab ext92 false 16 [] 2000 [] oks92 kds92 tys92 Tryz.f92.results [true, true] [.code b92] (entE 0 0 sig92 (x0, ())) (entL sig92 (x0, ())) = some ([Dyn.mk Ty.bool (g120_0 x0.2.2.1)], [], [True, g111_0 x0.1 = true, True, g119_0 x0.2.1 = true, True]) := by kernel_rfl
theorem p92_1 (x0 : ByteArray × Int × Int × Unit) : runF tab ext92 false 16 [] 2000 [] oks92 kds92 tys92 Tryz.f92.results [true, false] [.code b92] (entE 0 0 sig92 (x0, ())) (entL sig92 (x0, ())) = some ([Dyn.mk Ty.bool false], [], [True, g111_0 x0.1 = true, True, g119_0 x0.2.1 = false]) := by kernel_rfl
theorem p92_2 (x0 : ByteArray × Int × Int × Unit) : runF tab ext92 false 16 [] 2000 [] oks92 kds92 tys92 Tryz.f92.results [false, false] [.code b92] (entE 0 0 sig92 (x0, ())) (entL sig92 (x0, ())) = some ([Dyn.mk Ty.bool false], [], [True, g111_0 x0.1 = false, false = false]) := by kernel_rfl
theorem at92 (x0 : ByteArray × Int × Int × Unit) (h : P92 x0) (K : Ctx) (q : Nat → Value) : AtV Tryz.prog 92 (PostR kds92 oks92 [⟨Ty.bool, g92_0 x0⟩] [] [] q K) 16 K q [] [.code b92] (entE 0 0 sig92 (x0, ())) (entL sig92 (x0, ())) := by
  unfold P92 at h
  unfold g92_0
  by_cases b0 : (g111_0 x0.1) = true
  · try simp only [if_pos b0] at h ⊢
    by_cases b1 : (g119_0 x0.2.1) = true
    · try simp only [if_pos b1] at h ⊢
      exact AtV.fin Tryz.func92 tabOk ext92Ok mixed (p92_0 x0) ⟨trivial, b0, trivial, b1, trivial, trivial⟩
    · try simp only [if_neg b1] at h ⊢
      replace b1 := Bool.eq_false_iff.2 b1
      exact AtV.fin Tryz.func92 tabOk ext92Ok mixed (p92_1 x0) ⟨trivial, b0, trivial, b1, trivial⟩
  · try simp only [if_neg b0] at h ⊢
    replace b0 := Bool.eq_false_iff.2 b0
    exact AtV.fin Tryz.func92 tabOk ext92Ok mixed (p92_2 x0) ⟨trivial, b0, rfl, trivial⟩

def S92 : Am.Spec := { sig := sig92, pre := fun ⟨x0, _⟩ => P92 x0, res := fun ⟨x0, _⟩ => [⟨Ty.bool, g92_0 x0⟩], kds := kds92 }
theorem con92 : Contract Tryz.prog 92 S92 := contract_of Tryz.func92 hb92 (Nat.le_of_ble_eq_true (by kernel_rfl)) (fun ⟨x0, _⟩ h _ K q => at92 x0 h K q)


end
end Go.Proofs.YtcakiedjgnhjcaaGreat

/- Function 40 (impl.ValidHelpers): its runs between cut points. Written by a program of this repo (gen). -/
set_option linter.unusedVariables false
set_option linter.unusedSimpArgs false
set_option maxRecDepth 100000
namespace Go.Proofs.YtcakiedjgnhjcaaGreat
open Go Go.Am Go.Proofs
noncomputable section
def ext40 : Ext := [(92, S92)]
theorem call40_92 : Callable Tryz.prog 92 := ⟨Tryz.f92, Tryz.func92, by kernel_rfl, by kernel_rfl⟩
theorem ext40Ok : ExtOk Tryz.prog ext40 := ⟨⟨call40_92, con92⟩, trivial⟩

noncomputable def b40 : Code := bodyOf Tryz.f40
theorem hb40 : Tryz.f40.body = some b40 := by kernel_rfl
def sig40 : List AT := [AT.v (Ty.sl (Ty.cons Ty.str (Ty.cons (Ty.int .i64) (Ty.cons (Ty.int .i64) Ty.unit))))]
def tys40 : List Ty := [Ty.bool]
def kds40 : List RK := []
def oks40 : List AT := owns sig40
def E40_2 (v7 : Int) (x0 : List TyB1) : Env := [(0, PV.a (Atom.sl (Ty.cons Ty.str (Ty.cons (Ty.int .i64) (Ty.cons (Ty.int .i64) Ty.unit))) x0)), (5, PV.a (Atom.sl (Ty.cons Ty.str (Ty.cons (Ty.int .i64) (Ty.cons (Ty.int .i64) Ty.unit))) x0)), (6, PV.a (Atom.val (Value.int .i64 (↑(List.length x0) : Int)))), (7, PV.a (Atom.val (Value.int .i64 v7)))]
def L40_2 (v7 : Int) (x0 : List TyB1) : Heap := []
mutual
def R40 : Nat → List TyB1 → List Dyn → Prop
  | 0, _, _ => False
  | n + 1, x0, ds => (R40_2 n (0) (x0) ds)
def R40_2 : Nat → Int → List TyB1 → List Dyn → Prop
  | 0, _, _, _ => False
  | n + 1, v7, x0, ds => (if (decide (v7 < (↑(List.length x0) : Int))) = true then ((0 ≤ v7) ∧ (v7 < (↑(List.length x0) : Int)) ∧ (if (!g92_0 (List.getD x0 (Int.toNat v7) (ByteArray.empty, 0, 0, ()))) = true then (ds = [Dyn.mk Ty.bool false]) else (if (decide (v7 > 0)) = true then ((InR .i64 (v7 - 1)) ∧ ((0 ≤ v7 - 1) ∧ (v7 - 1 < (↑(List.length x0) : Int)) ∧ (if (Op.bytesLess (ByteArray.toList (List.getD x0 (Int.toNat v7) (ByteArray.empty, 0, 0, ())).1) (ByteArray.toList (List.getD x0 (Int.toNat (v7 - 1)) (ByteArray.empty, 0, 0, ())).1) || ByteArray.toList (List.getD x0 (Int.toNat v7) (ByteArray.empty, 0, 0, ())).1 == ByteArray.toList (List.getD x0 (Int.toNat (v7 - 1)) (ByteArray.empty, 0, 0, ())).1) = true then (ds = [Dyn.mk Ty.bool false]) else ((InR .i64 (v7 + 1)) ∧ (R40_2 n (v7 + 1) (x0) ds))))) else ((InR .i64 (v7 + 1)) ∧ (R40_2 n (v7 + 1) (x0) ds))))) else (ds = [Dyn.mk Ty.bool (decide ((↑(List.length x0) : Int) ≤ 10))]))
end
theorem p40_0 (x0 : List TyB1) : Am.runN tab ext40 false 34 [] 2000 [] [] [0, 5, 6, 7] [] [] [.code b40] (entE 0 0 sig40 (x0, ())) (entL sig40 (x0, ())) = some (cutAt b40 2, E40_2 (0) (x0), L40_2 (0) (x0), []) := by kernel_rfl
theorem p40_1 (v7 : Int) (x0 : List TyB1) : runF tab ext40 false 34 [] 2000 [] oks40 kds40 tys40 Tryz.f40.results [true, true, true] (cutAt b40 2) (E40_2 v7 x0) (L40_2 v7 x0) = some ([Dyn.mk Ty.bool false], [], [decide (v7 < (↑(List.length x0) : Int)) = true, 0 ≤ v7, v7 < (↑(List.length x0) : Int), True, (!g92_0 (List.getD x0 (Int.toNat v7) (ByteArray.empty, 0, 0, ()))) = true, true = true]) := by kernel_rfl
theorem p40_2 (v7 : Int) (x0 : List TyB1) : runF tab ext40 false 34 [] 2000 [] oks40 kds40 tys40 Tryz.f40.results [true, false, true, true] (cutAt b40 2) (E40_2 v7 x0) (L40_2 v7 x0) = some ([Dyn.mk Ty.bool false], [], [decide (v7 < (↑(List.length x0) : Int)) = true, 0 ≤ v7, v7 < (↑(List.length x0) : Int), True, (!g92_0 (List.getD x0 (Int.toNat v7) (ByteArray.empty, 0, 0, ()))) = false, decide (v7 > 0) = true, InR .i64 (v7 - 1), 0 ≤ v7 - 1, v7 - 1 < (↑(List.length x0) : Int), (Op.bytesLess (ByteArray.toList (List.getD x0 (Int.toNat v7) (ByteArray.empty, 0, 0, ())).1) (ByteArray.toList (List.getD x0 (Int.toNat (v7 - 1)) (ByteArray.empty, 0, 0, ())).1) || ByteArray.toList (List.getD x0 (Int.toNat v7) (ByteArray.empty, 0, 0, ())).1 == ByteArray.toList (List.getD x0 (Int.toNat (v7 - 1)) (ByteArray.empty, 0, 0, ())).1) = true]) := by kernel_rfl
theorem p40_3 (v7 : Int) (x0 : List TyB1) : Am.runN tab ext40 false 34 [] 2000 [] [] [0, 5, 6, 7] [] [true, false, true, false] (cutAt b40 2) (E40_2 v7 x0) (L40_2 v7 x0) = some (cutAt b40 2, E40_2 (v7 + 1) (x0), L40_2 (v7 + 1) (x0), [decide (v7 < (↑(List.length x0) : Int)) = true, 0 ≤ v7, v7 < (↑(List.length x0) : Int), True, (!g92_0 (List.getD x0 (Int.toNat v7) (ByteArray.empty, 0, 0, ()))) = false, decide (v7 > 0) = true, InR .i64 (v7 - 1), 0 ≤ v7 - 1, v7 - 1 < (↑(List.length x0) : Int), (Op.bytesLess (ByteArray.toList (List.getD x0 (Int.toNat v7) (ByteArray.empty, 0, 0, ())).1) (ByteArray.toList (List.getD x0 (Int.toNat (v7 - 1)) (ByteArray.empty, 0, 0, ())).1) || ByteArray.toList (List.getD x0 (Int.toNat v7) (ByteArray.empty, 0, 0, ())).1 == ByteArray.toList (List.getD x0 (Int.toNat (v7 - 1)) (ByteArray.empty, 0, 0, ())).1) = false, InR .i64 (v7 + 1)]) := by kernel_rfl
theorem p40_4 (v7 : Int) (x0 : List TyB1) : Am.runN tab ext40 false 34 [] 2000 [] [] [0, 5, 6, 7] [] [true, false, false, false] (cutAt b40 2) (E40_2 v7 x0) (L40_2 v7 x0) = some (cutAt b40 2, E40_2 (v7 + 1) (x0), L40_2 (v7 + 1) (x0), [decide (v7 < (↑(List.length x0) : Int)) = true, 0 ≤ v7, v7 < (↑(List.length x0) : Int), True, (!g92_0 (List.getD x0 (Int.toNat v7) (ByteArray.empty, 0, 0, ()))) = false, decide (v7 > 0) = false, false = false, InR .i64 (v7 + 1)]) := by kernel_rfl
theorem p40_5 (v7 : Int) (x0 : List TyB1) : runF tab ext40 false 34 [] 2000 [] oks40 kds40 tys40 Tryz.f40.results [false] (cutAt b40 2) (E40_2 v7 x0) (L40_2 v7 x0) = some ([Dyn.mk Ty.bool (decide ((↑(List.length x0) : Int) ≤ 10))], [], [decide (v7 < (↑(List.length x0) : Int)) = false]) := by kernel_rfl
theorem snd40 : ∀ n, (∀ (x0 : List TyB1) ds, R40 n x0 ds → ∀ K q, AtV Tryz.prog 40 (PostR kds40 oks40 ds [] [] q K) 34 K q [] [.code b40] (entE 0 0 sig40 (x0, ())) (entL sig40 (x0, ()))) ∧ (∀ (v7 : Int) (x0 : List TyB1) ds, R40_2 n v7 x0 ds → ∀ K q, AtV Tryz.prog 40 (PostR kds40 oks40 ds [] [] q K) 34 K q [] (cutAt b40 2) (E40_2 v7 x0) (L40_2 v7 x0)) := by
  intro n
  induction n with
  | zero => exact ⟨fun _ _ h => by simp only [R40] at h, fun _ _ _ h => by simp only [R40_2] at h⟩
  | succ n ih =>
  obtain ⟨ih, ih2⟩ := ih
  refine ⟨?_, ?_⟩
  · intro x0 ds h K q
    rw [R40] at h
    exact AtV.runN tabOk ext40Ok mixed (p40_0 x0) trivial (ih2 _ _ _ h K q)

  · intro v7 x0 ds h K q
    rw [R40_2] at h
    by_cases b0 : (decide (v7 < (↑(List.length x0) : Int))) = true
    · rw [if_pos b0] at h
      obtain ⟨s0, s1, h⟩ := h
      by_cases b1 : (!g92_0 (List.getD x0 (Int.toNat v7) (ByteArray.empty, 0, 0, ()))) = true
      · rw [if_pos b1] at h
        subst h
        exact AtV.fin Tryz.func40 tabOk ext40Ok mixed (p40_1 v7 x0) ⟨b0, s0, s1, trivial, b1, rfl, trivial⟩
      · rw [if_neg b1] at h
        replace b1 := Bool.eq_false_iff.2 b1
        by_cases b2 : (decide (v7 > 0)) = true
        · rw [if_pos b2] at h
          obtain ⟨s2, h⟩ := h
          obtain ⟨s3, s4, h⟩ := h
          by_cases b3 : (Op.bytesLess (ByteArray.toList (List.getD x0 (Int.toNat v7) (ByteArray.empty, 0, 0, ())).1) (ByteArray.toList (List.getD x0 (Int.toNat (v7 - 1)) (ByteArray.empty, 0, 0, ())).1) || ByteArray.toList (List.getD x0 (Int.toNat v7) (ByteArray.empty, 0, 0, ())).1 == ByteArray.toList (List.getD x0 (Int.toNat (v7 - 1)) (ByteArray.empty, 0, 0, ())).1) = true
          · rw [if_pos b3] at h
            subst h
            exact AtV.fin Tryz.func40 tabOk ext40Ok mixed (p40_2 v7 x0) ⟨b0, s0, s1, trivial, b1, b2, s2, s3, s4, b3, trivial⟩
          · rw [if_neg b3] at h
            replace b3 := Bool.eq_false_iff.2 b3
            obtain ⟨s5, h⟩ := h
            exact AtV.runN tabOk ext40Ok mixed (p40_3 v7 x0) ⟨b0, s0, s1, trivial, b1, b2, s2, s3, s4, b3, s5, trivial⟩ (ih2 _ _ _ h K q)
        · rw [if_neg b2] at h
          replace b2 := Bool.eq_false_iff.2 b2
          obtain ⟨s2, h⟩ := h
          exact AtV.runN tabOk ext40Ok mixed (p40_4 v7 x0) ⟨b0, s0, s1, trivial, b1, b2, rfl, s2, trivial⟩ (ih2 _ _ _ h K q)
    · rw [if_neg b0] at h
      replace b0 := Bool.eq_false_iff.2 b0
      subst h
      exact AtV.fin Tryz.func40 tabOk ext40Ok mixed (p40_5 v7 x0) ⟨b0, trivial⟩



def ok40 (x0 : List TyB1) (i : Nat) (x : TyB1) : Bool :=
  g92_0 x && (i == 0 || !(Op.bytesLess (ByteArray.toList x.1) (ByteArray.toList (x0.getD (i - 1) (ByteArray.empty, (0 : Int), (0 : Int), ())).1) || ByteArray.toList x.1 == ByteArray.toList (x0.getD (i - 1) (ByteArray.empty, (0 : Int), (0 : Int), ())).1))
def g40_0 (x0 : List TyB1) : Bool := allI (ok40 x0) 0 x0 && decide (x0.length ≤ 10)
def P40 (x0 : List TyB1) : Prop := True

theorem step40 (n i : Nat) (x0 : List TyB1) (hm : x0.length ≤ maxLen) (hi : i < x0.length) (ds : List Dyn) :
    (if ok40 x0 i (x0.getD i (ByteArray.empty, (0 : Int), (0 : Int), ())) = true then R40_2 n ((i : Int) + 1) x0 ds else ds = [⟨.bool, false⟩]) → R40_2 (n + 1) (i : Int) x0 ds := by
  intro h
  have hu := inR_up hm hi
  rw [R40_2, if_pos (by simp; omega)]
  refine ⟨by omega, by omega, ?_⟩
  simp only [Int.toNat_natCast]
  unfold ok40 at h
  by_cases h1 : g92_0 (x0.getD i (ByteArray.empty, (0 : Int), (0 : Int), ())) = true
  case neg =>
    have h1 := Bool.eq_false_iff.2 h1
    rw [h1] at h
    rw [if_pos (by rw [h1]; rfl)]
    simpa using h
  case pos =>
    rw [h1] at h
    rw [if_neg (by rw [h1]; simp)]
    by_cases h0 : (i : Int) > 0
    · rw [if_pos (by simpa using h0)]
      have hi0 : (i == 0) = false := by simp; omega
      have e : ((i : Int) - 1).toNat = i - 1 := by omega
      refine ⟨by rw [i64_iff]; have : maxLen ≤ 9223372036854775807 := by decide
                 omega, by omega, by omega, ?_⟩
      rw [e]
      by_cases h2 : (Op.bytesLess (ByteArray.toList (x0.getD i (ByteArray.empty, (0 : Int), (0 : Int), ())).1) (ByteArray.toList (x0.getD (i - 1) (ByteArray.empty, (0 : Int), (0 : Int), ())).1) || ByteArray.toList (x0.getD i (ByteArray.empty, (0 : Int), (0 : Int), ())).1 == ByteArray.toList (x0.getD (i - 1) (ByteArray.empty, (0 : Int), (0 : Int), ())).1) = true
      · rw [if_pos h2]
        rw [hi0, h2] at h
        simpa using h
      · rw [if_neg h2]
        rw [hi0, Bool.eq_false_iff.2 h2] at h
        exact ⟨hu, by simpa using h⟩
    · rw [if_neg (by simpa using h0)]
      have hi0 : (i == 0) = true := by simp; omega
      rw [hi0] at h
      exact ⟨hu, by simpa using h⟩

theorem top40 (x0 : List TyB1) (hw : x0.length ≤ maxLen) : R40 (x0.length + 1 + 1) x0 [⟨.bool, g40_0 x0⟩] := by
  rw [R40]
  have key := loop_testI x0 (ByteArray.empty, (0 : Int), (0 : Int), ()) (ok40 x0) [(⟨.bool, false⟩ : Dyn)] [⟨.bool, decide (x0.length ≤ 10)⟩] (fun n i ds => R40_2 n i x0 ds) (fun n => ?_) (fun n i hi hok ds hr => ?_) (fun n i hi hok => ?_)
  · unfold g40_0
    cases h : allI (ok40 x0) 0 x0 with
    | true => rw [if_pos h] at key; simpa using key
    | false => rw [if_neg (by rw [h]; simp)] at key; simpa using key
  · rw [R40_2, if_neg (by simp)]
    have hc : decide ((x0.length : Int) ≤ 10) = decide (x0.length ≤ 10) := by
      congr 1; exact propext ⟨fun h => by omega, fun h => by omega⟩
    rw [hc]
  · exact step40 n i x0 hw hi ds (by rw [if_pos hok]; exact hr)
  · exact step40 n i x0 hw hi _ (by rw [if_neg (by rw [hok]; simp)])

def S40 : Am.Spec := { sig := sig40, pre := fun ⟨x0, _⟩ => P40 x0, res := fun ⟨x0, _⟩ => [⟨Ty.bool, g40_0 x0⟩] }
theorem con40 : Contract Tryz.prog 40 S40 := contract_of Tryz.func40 hb40 (Nat.le_of_ble_eq_true (by kernel_rfl)) (fun ⟨x0, _⟩ h hwf K q =>
  (snd40 _).1 x0 _ (top40 x0 hwf.1.1) K q)

end
end Go.Proofs.YtcakiedjgnhjcaaGreat

/- Function 93 (impl.validTask): its runs between cut points. Written by a program of this repo (gen). -/
set_option linter.unusedVariables false
set_option linter.unusedSimpArgs false
set_option maxRecDepth 100000
namespace Go.Proofs.YtcakiedjgnhjcaaGreat
open Go Go.Am Go.Proofs
noncomputable section
def ext93 : Ext := [(111, S111), (119, S119), (120, S120)]
theorem call93_111 : Callable Tryz.prog 111 := ⟨Tryz.f111, Tryz.func111, by kernel_rfl, by kernel_rfl⟩
theorem call93_119 : Callable Tryz.prog 119 := ⟨Tryz.f119, Tryz.func119, by kernel_rfl, by kernel_rfl⟩
theorem call93_120 : Callable Tryz.prog 120 := ⟨Tryz.f120, Tryz.func120, by kernel_rfl, by kernel_rfl⟩
theorem ext93Ok : ExtOk Tryz.prog ext93 := ⟨⟨call93_111, con111⟩, ⟨call93_119, con119⟩, ⟨call93_120, con120⟩, trivial⟩

noncomputable def b93 : Code := bodyOf Tryz.f93
theorem hb93 : Tryz.f93.body = some b93 := by kernel_rfl
def sig93 : List AT := [AT.v (Ty.cons Ty.str (Ty.cons (Ty.int .i64) (Ty.cons (Ty.int .i64) Ty.unit)))]
def tys93 : List Ty := [Ty.bool]
def kds93 : List RK := []
def oks93 : List AT := owns sig93
def P93 (x0 : ByteArray × Int × Int × Unit) : Prop := True
def g93_0 (x0 : ByteArray × Int × Int × Unit) : Bool := (if (g111_0 x0.1) = true then (if (g119_0 x0.2.1) = true then g120_0 x0.2.2.1 else false) else false)
theorem p93_0 (x0 : ByteArray × Int × Int × Unit) : runF tab ext93 false 16 [] 2000 [] oks93 kds93 tys93 Tryz.f93.results [true, true] [.code b93] (entE 0 0 sig93 (x0, ())) (entL sig93 (x0, ())) = some ([Dyn.mk Ty.bool (g120_0 x0.2.2.1)], [], [True, g111_0 x0.1 = true, True, g119_0 x0.2.1 = true, True]) := by kernel_rfl
theorem p93_1 (x0 : ByteArray × Int × Int × Unit) : runF tab ext93 false 16 [] 2000 [] oks93 kds93 tys93 Tryz.f93.results [true, false] [.code b93] (entE 0 0 sig93 (x0, ())) (entL sig93 (x0, ())) = some ([Dyn.mk Ty.bool false], [], [True, g111_0 x0.1 = true, True, g119_0 x0.2.1 = false]) := by kernel_rfl
theorem p93_2 (x0 : ByteArray × Int × Int × Unit) : runF tab ext93 false 16 [] 2000 [] oks93 kds93 tys93 Tryz.f93.results [false, false] [.code b93] (entE 0 0 sig93 (x0, ())) (entL sig93 (x0, ())) = some ([Dyn.mk Ty.bool false], [], [True, g111_0 x0.1 = false, false = false]) := by kernel_rfl
theorem at93 (x0 : ByteArray × Int × Int × Unit) (h : P93 x0) (K : Ctx) (q : Nat → Value) : AtV Tryz.prog 93 (PostR kds93 oks93 [⟨Ty.bool, g93_0 x0⟩] [] [] q K) 16 K q [] [.code b93] (entE 0 0 sig93 (x0, ())) (entL sig93 (x0, ())) := by
  unfold P93 at h
  unfold g93_0
  by_cases b0 : (g111_0 x0.1) = true
  · try simp only [if_pos b0] at h ⊢
    by_cases b1 : (g119_0 x0.2.1) = true
    · try simp only [if_pos b1] at h ⊢
      exact AtV.fin Tryz.func93 tabOk ext93Ok mixed (p93_0 x0) ⟨trivial, b0, trivial, b1, trivial, trivial⟩
    · try simp only [if_neg b1] at h ⊢
      replace b1 := Bool.eq_false_iff.2 b1
      exact AtV.fin Tryz.func93 tabOk ext93Ok mixed (p93_1 x0) ⟨trivial, b0, trivial, b1, trivial⟩
  · try simp only [if_neg b0] at h ⊢
    replace b0 := Bool.eq_false_iff.2 b0
    exact AtV.fin Tryz.func93 tabOk ext93Ok mixed (p93_2 x0) ⟨trivial, b0, rfl, trivial⟩

def S93 : Am.Spec := { sig := sig93, pre := fun ⟨x0, _⟩ => P93 x0, res := fun ⟨x0, _⟩ => [⟨Ty.bool, g93_0 x0⟩], kds := kds93 }
theorem con93 : Contract Tryz.prog 93 S93 := contract_of Tryz.func93 hb93 (Nat.le_of_ble_eq_true (by kernel_rfl)) (fun ⟨x0, _⟩ h _ K q => at93 x0 h K q)


end
end Go.Proofs.YtcakiedjgnhjcaaGreat

/- Function 41 (impl.ValidTasks): its runs between cut points. Written by a program of this repo (gen). -/
set_option linter.unusedVariables false
set_option linter.unusedSimpArgs false
set_option maxRecDepth 100000
namespace Go.Proofs.YtcakiedjgnhjcaaGreat
open Go Go.Am Go.Proofs
noncomputable section
def ext41 : Ext := [(93, S93)]
theorem call41_93 : Callable Tryz.prog 93 := ⟨Tryz.f93, Tryz.func93, by kernel_rfl, by kernel_rfl⟩
theorem ext41Ok : ExtOk Tryz.prog ext41 := ⟨⟨call41_93, con93⟩, trivial⟩

noncomputable def b41 : Code := bodyOf Tryz.f41
theorem hb41 : Tryz.f41.body = some b41 := by kernel_rfl
def sig41 : List AT := [AT.v (Ty.sl (Ty.cons Ty.str (Ty.cons (Ty.int .i64) (Ty.cons (Ty.int .i64) Ty.unit))))]
def tys41 : List Ty := [Ty.bool]
def kds41 : List RK := []
def oks41 : List AT := owns sig41
def E41_2 (v7 : Int) (x0 : List TyB1) : Env := [(0, PV.a (Atom.sl (Ty.cons Ty.str (Ty.cons (Ty.int .i64) (Ty.cons (Ty.int .i64) Ty.unit))) x0)), (5, PV.a (Atom.sl (Ty.cons Ty.str (Ty.cons (Ty.int .i64) (Ty.cons (Ty.int .i64) Ty.unit))) x0)), (6, PV.a (Atom.val (Value.int .i64 (↑(List.length x0) : Int)))), (7, PV.a (Atom.val (Value.int .i64 v7)))]
def L41_2 (v7 : Int) (x0 : List TyB1) : Heap := []
mutual
def R41 : Nat → List TyB1 → List Dyn → Prop
  | 0, _, _ => False
  | n + 1, x0, ds => (R41_2 n (0) (x0) ds)
def R41_2 : Nat → Int → List TyB1 → List Dyn → Prop
  | 0, _, _, _ => False
  | n + 1, v7, x0, ds => (if (decide (v7 < (↑(List.length x0) : Int))) = true then ((0 ≤ v7) ∧ (v7 < (↑(List.length x0) : Int)) ∧ (if (!g93_0 (List.getD x0 (Int.toNat v7) (ByteArray.empty, 0, 0, ()))) = true then (ds = [Dyn.mk Ty.bool false]) else (if (decide (v7 > 0)) = true then ((InR .i64 (v7 - 1)) ∧ ((0 ≤ v7 - 1) ∧ (v7 - 1 < (↑(List.length x0) : Int)) ∧ (if (Op.bytesLess (ByteArray.toList (List.getD x0 (Int.toNat v7) (ByteArray.empty, 0, 0, ())).1) (ByteArray.toList (List.getD x0 (Int.toNat (v7 - 1)) (ByteArray.empty, 0, 0, ())).1) || ByteArray.toList (List.getD x0 (Int.toNat v7) (ByteArray.empty, 0, 0, ())).1 == ByteArray.toList (List.getD x0 (Int.toNat (v7 - 1)) (ByteArray.empty, 0, 0, ())).1) = true then (ds = [Dyn.mk Ty.bool false]) else ((InR .i64 (v7 + 1)) ∧ (R41_2 n (v7 + 1) (x0) ds))))) else ((InR .i64 (v7 + 1)) ∧ (R41_2 n (v7 + 1) (x0) ds))))) else (ds = [Dyn.mk Ty.bool (decide ((↑(List.length x0) : Int) ≤ 8))]))
end
theorem p41_0 (x0 : List TyB1) : Am.runN tab ext41 false 34 [] 2000 [] [] [0, 5, 6, 7] [] [] [.code b41] (entE 0 0 sig41 (x0, ())) (entL sig41 (x0, ())) = some (cutAt b41 2, E41_2 (0) (x0), L41_2 (0) (x0), []) := by kernel_rfl
theorem p41_1 (v7 : Int) (x0 : List TyB1) : runF tab ext41 false 34 [] 2000 [] oks41 kds41 tys41 Tryz.f41.results [true, true, true] (cutAt b41 2) (E41_2 v7 x0) (L41_2 v7 x0) = some ([Dyn.mk Ty.bool false], [], [decide (v7 < (↑(List.length x0) : Int)) = true, 0 ≤ v7, v7 < (↑(List.length x0) : Int), True, (!g93_0 (List.getD x0 (Int.toNat v7) (ByteArray.empty, 0, 0, ()))) = true, true = true]) := by kernel_rfl
theorem p41_2 (v7 : Int) (x0 : List TyB1) : runF tab ext41 false 34 [] 2000 [] oks41 kds41 tys41 Tryz.f41.results [true, false, true, true] (cutAt b41 2) (E41_2 v7 x0) (L41_2 v7 x0) = some ([Dyn.mk Ty.bool false], [], [decide (v7 < (↑(List.length x0) : Int)) = true, 0 ≤ v7, v7 < (↑(List.length x0) : Int), True, (!g93_0 (List.getD x0 (Int.toNat v7) (ByteArray.empty, 0, 0, ()))) = false, decide (v7 > 0) = true, InR .i64 (v7 - 1), 0 ≤ v7 - 1, v7 - 1 < (↑(List.length x0) : Int), (Op.bytesLess (ByteArray.toList (List.getD x0 (Int.toNat v7) (ByteArray.empty, 0, 0, ())).1) (ByteArray.toList (List.getD x0 (Int.toNat (v7 - 1)) (ByteArray.empty, 0, 0, ())).1) || ByteArray.toList (List.getD x0 (Int.toNat v7) (ByteArray.empty, 0, 0, ())).1 == ByteArray.toList (List.getD x0 (Int.toNat (v7 - 1)) (ByteArray.empty, 0, 0, ())).1) = true]) := by kernel_rfl
theorem p41_3 (v7 : Int) (x0 : List TyB1) : Am.runN tab ext41 false 34 [] 2000 [] [] [0, 5, 6, 7] [] [true, false, true, false] (cutAt b41 2) (E41_2 v7 x0) (L41_2 v7 x0) = some (cutAt b41 2, E41_2 (v7 + 1) (x0), L41_2 (v7 + 1) (x0), [decide (v7 < (↑(List.length x0) : Int)) = true, 0 ≤ v7, v7 < (↑(List.length x0) : Int), True, (!g93_0 (List.getD x0 (Int.toNat v7) (ByteArray.empty, 0, 0, ()))) = false, decide (v7 > 0) = true, InR .i64 (v7 - 1), 0 ≤ v7 - 1, v7 - 1 < (↑(List.length x0) : Int), (Op.bytesLess (ByteArray.toList (List.getD x0 (Int.toNat v7) (ByteArray.empty, 0, 0, ())).1) (ByteArray.toList (List.getD x0 (Int.toNat (v7 - 1)) (ByteArray.empty, 0, 0, ())).1) || ByteArray.toList (List.getD x0 (Int.toNat v7) (ByteArray.empty, 0, 0, ())).1 == ByteArray.toList (List.getD x0 (Int.toNat (v7 - 1)) (ByteArray.empty, 0, 0, ())).1) = false, InR .i64 (v7 + 1)]) := by kernel_rfl
theorem p41_4 (v7 : Int) (x0 : List TyB1) : Am.runN tab ext41 false 34 [] 2000 [] [] [0, 5, 6, 7] [] [true, false, false, false] (cutAt b41 2) (E41_2 v7 x0) (L41_2 v7 x0) = some (cutAt b41 2, E41_2 (v7 + 1) (x0), L41_2 (v7 + 1) (x0), [decide (v7 < (↑(List.length x0) : Int)) = true, 0 ≤ v7, v7 < (↑(List.length x0) : Int), True, (!g93_0 (List.getD x0 (Int.toNat v7) (ByteArray.empty, 0, 0, ()))) = false, decide (v7 > 0) = false, false = false, InR .i64 (v7 + 1)]) := by kernel_rfl
theorem p41_5 (v7 : Int) (x0 : List TyB1) : runF tab ext41 false 34 [] 2000 [] oks41 kds41 tys41 Tryz.f41.results [false] (cutAt b41 2) (E41_2 v7 x0) (L41_2 v7 x0) = some ([Dyn.mk Ty.bool (decide ((↑(List.length x0) : Int) ≤ 8))], [], [decide (v7 < (↑(List.length x0) : Int)) = false]) := by kernel_rfl
theorem snd41 : ∀ n, (∀ (x0 : List TyB1) ds, R41 n x0 ds → ∀ K q, AtV Tryz.prog 41 (PostR kds41 oks41 ds [] [] q K) 34 K q [] [.code b41] (entE 0 0 sig41 (x0, ())) (entL sig41 (x0, ()))) ∧ (∀ (v7 : Int) (x0 : List TyB1) ds, R41_2 n v7 x0 ds → ∀ K q, AtV Tryz.prog 41 (PostR kds41 oks41 ds [] [] q K) 34 K q [] (cutAt b41 2) (E41_2 v7 x0) (L41_2 v7 x0)) := by
  intro n
  induction n with
  | zero => exact ⟨fun _ _ h => by simp only [R41] at h, fun _ _ _ h => by simp only [R41_2] at h⟩
  | succ n ih =>
  obtain ⟨ih, ih2⟩ := ih
  refine ⟨?_, ?_⟩
  · intro x0 ds h K q
    rw [R41] at h
    exact AtV.runN tabOk ext41Ok mixed (p41_0 x0) trivial (ih2 _ _ _ h K q)

  · intro v7 x0 ds h K q
    rw [R41_2] at h
    by_cases b0 : (decide (v7 < (↑(List.length x0) : Int))) = true
    · rw [if_pos b0] at h
      obtain ⟨s0, s1, h⟩ := h
      by_cases b1 : (!g93_0 (List.getD x0 (Int.toNat v7) (ByteArray.empty, 0, 0, ()))) = true
      · rw [if_pos b1] at h
        subst h
        exact AtV.fin Tryz.func41 tabOk ext41Ok mixed (p41_1 v7 x0) ⟨b0, s0, s1, trivial, b1, rfl, trivial⟩
      · rw [if_neg b1] at h
        replace b1 := Bool.eq_false_iff.2 b1
        by_cases b2 : (decide (v7 > 0)) = true
        · rw [if_pos b2] at h
          obtain ⟨s2, h⟩ := h
          obtain ⟨s3, s4, h⟩ := h
          by_cases b3 : (Op.bytesLess (ByteArray.toList (List.getD x0 (Int.toNat v7) (ByteArray.empty, 0, 0, ())).1) (ByteArray.toList (List.getD x0 (Int.toNat (v7 - 1)) (ByteArray.empty, 0, 0, ())).1) || ByteArray.toList (List.getD x0 (Int.toNat v7) (ByteArray.empty, 0, 0, ())).1 == ByteArray.toList (List.getD x0 (Int.toNat (v7 - 1)) (ByteArray.empty, 0, 0, ())).1) = true
          · rw [if_pos b3] at h
            subst h
            exact AtV.fin Tryz.func41 tabOk ext41Ok mixed (p41_2 v7 x0) ⟨b0, s0, s1, trivial, b1, b2, s2, s3, s4, b3, trivial⟩
          · rw [if_neg b3] at h
            replace b3 := Bool.eq_false_iff.2 b3
            obtain ⟨s5, h⟩ := h
            exact AtV.runN tabOk ext41Ok mixed (p41_3 v7 x0) ⟨b0, s0, s1, trivial, b1, b2, s2, s3, s4, b3, s5, trivial⟩ (ih2 _ _ _ h K q)
        · rw [if_neg b2] at h
          replace b2 := Bool.eq_false_iff.2 b2
          obtain ⟨s2, h⟩ := h
          exact AtV.runN tabOk ext41Ok mixed (p41_4 v7 x0) ⟨b0, s0, s1, trivial, b1, b2, rfl, s2, trivial⟩ (ih2 _ _ _ h K q)
    · rw [if_neg b0] at h
      replace b0 := Bool.eq_false_iff.2 b0
      subst h
      exact AtV.fin Tryz.func41 tabOk ext41Ok mixed (p41_5 v7 x0) ⟨b0, trivial⟩



def ok41 (x0 : List TyB1) (i : Nat) (x : TyB1) : Bool :=
  g93_0 x && (i == 0 || !(Op.bytesLess (ByteArray.toList x.1) (ByteArray.toList (x0.getD (i - 1) (ByteArray.empty, (0 : Int), (0 : Int), ())).1) || ByteArray.toList x.1 == ByteArray.toList (x0.getD (i - 1) (ByteArray.empty, (0 : Int), (0 : Int), ())).1))
def g41_0 (x0 : List TyB1) : Bool := allI (ok41 x0) 0 x0 && decide (x0.length ≤ 8)
def P41 (x0 : List TyB1) : Prop := True

theorem step41 (n i : Nat) (x0 : List TyB1) (hm : x0.length ≤ maxLen) (hi : i < x0.length) (ds : List Dyn) :
    (if ok41 x0 i (x0.getD i (ByteArray.empty, (0 : Int), (0 : Int), ())) = true then R41_2 n ((i : Int) + 1) x0 ds else ds = [⟨.bool, false⟩]) → R41_2 (n + 1) (i : Int) x0 ds := by
  intro h
  have hu := inR_up hm hi
  rw [R41_2, if_pos (by simp; omega)]
  refine ⟨by omega, by omega, ?_⟩
  simp only [Int.toNat_natCast]
  unfold ok41 at h
  by_cases h1 : g93_0 (x0.getD i (ByteArray.empty, (0 : Int), (0 : Int), ())) = true
  case neg =>
    have h1 := Bool.eq_false_iff.2 h1
    rw [h1] at h
    rw [if_pos (by rw [h1]; rfl)]
    simpa using h
  case pos =>
    rw [h1] at h
    rw [if_neg (by rw [h1]; simp)]
    by_cases h0 : (i : Int) > 0
    · rw [if_pos (by simpa using h0)]
      have hi0 : (i == 0) = false := by simp; omega
      have e : ((i : Int) - 1).toNat = i - 1 := by omega
      refine ⟨by rw [i64_iff]; have : maxLen ≤ 9223372036854775807 := by decide
                 omega, by omega, by omega, ?_⟩
      rw [e]
      by_cases h2 : (Op.bytesLess (ByteArray.toList (x0.getD i (ByteArray.empty, (0 : Int), (0 : Int), ())).1) (ByteArray.toList (x0.getD (i - 1) (ByteArray.empty, (0 : Int), (0 : Int), ())).1) || ByteArray.toList (x0.getD i (ByteArray.empty, (0 : Int), (0 : Int), ())).1 == ByteArray.toList (x0.getD (i - 1) (ByteArray.empty, (0 : Int), (0 : Int), ())).1) = true
      · rw [if_pos h2]
        rw [hi0, h2] at h
        simpa using h
      · rw [if_neg h2]
        rw [hi0, Bool.eq_false_iff.2 h2] at h
        exact ⟨hu, by simpa using h⟩
    · rw [if_neg (by simpa using h0)]
      have hi0 : (i == 0) = true := by simp; omega
      rw [hi0] at h
      exact ⟨hu, by simpa using h⟩

theorem top41 (x0 : List TyB1) (hw : x0.length ≤ maxLen) : R41 (x0.length + 1 + 1) x0 [⟨.bool, g41_0 x0⟩] := by
  rw [R41]
  have key := loop_testI x0 (ByteArray.empty, (0 : Int), (0 : Int), ()) (ok41 x0) [(⟨.bool, false⟩ : Dyn)] [⟨.bool, decide (x0.length ≤ 8)⟩] (fun n i ds => R41_2 n i x0 ds) (fun n => ?_) (fun n i hi hok ds hr => ?_) (fun n i hi hok => ?_)
  · unfold g41_0
    cases h : allI (ok41 x0) 0 x0 with
    | true => rw [if_pos h] at key; simpa using key
    | false => rw [if_neg (by rw [h]; simp)] at key; simpa using key
  · rw [R41_2, if_neg (by simp)]
    have hc : decide ((x0.length : Int) ≤ 8) = decide (x0.length ≤ 8) := by
      congr 1; exact propext ⟨fun h => by omega, fun h => by omega⟩
    rw [hc]
  · exact step41 n i x0 hw hi ds (by rw [if_pos hok]; exact hr)
  · exact step41 n i x0 hw hi _ (by rw [if_neg (by rw [hok]; simp)])

def S41 : Am.Spec := { sig := sig41, pre := fun ⟨x0, _⟩ => P41 x0, res := fun ⟨x0, _⟩ => [⟨Ty.bool, g41_0 x0⟩] }
theorem con41 : Contract Tryz.prog 41 S41 := contract_of Tryz.func41 hb41 (Nat.le_of_ble_eq_true (by kernel_rfl)) (fun ⟨x0, _⟩ h hwf K q =>
  (snd41 _).1 x0 _ (top41 x0 hwf.1.1) K q)

end
end Go.Proofs.YtcakiedjgnhjcaaGreat

/- Function 7 (impl.ValidDesk): its runs between cut points. Written by a program of this repo (gen). -/
set_option linter.unusedVariables false
set_option linter.unusedSimpArgs false
set_option maxRecDepth 100000
namespace Go.Proofs.YtcakiedjgnhjcaaGreat
open Go Go.Am Go.Proofs
noncomputable section
def ext7 : Ext := [(30, S30), (31, S31), (32, S32), (33, S33), (34, S34), (35, S35), (36, S36), (37, S37), (38, S38), (39, S39), (40, S40), (41, S41)]
theorem call7_30 : Callable Tryz.prog 30 := ⟨Tryz.f30, Tryz.func30, by kernel_rfl, by kernel_rfl⟩
theorem call7_31 : Callable Tryz.prog 31 := ⟨Tryz.f31, Tryz.func31, by kernel_rfl, by kernel_rfl⟩
theorem call7_32 : Callable Tryz.prog 32 := ⟨Tryz.f32, Tryz.func32, by kernel_rfl, by kernel_rfl⟩
theorem call7_33 : Callable Tryz.prog 33 := ⟨Tryz.f33, Tryz.func33, by kernel_rfl, by kernel_rfl⟩
theorem call7_34 : Callable Tryz.prog 34 := ⟨Tryz.f34, Tryz.func34, by kernel_rfl, by kernel_rfl⟩
theorem call7_35 : Callable Tryz.prog 35 := ⟨Tryz.f35, Tryz.func35, by kernel_rfl, by kernel_rfl⟩
theorem call7_36 : Callable Tryz.prog 36 := ⟨Tryz.f36, Tryz.func36, by kernel_rfl, by kernel_rfl⟩
theorem call7_37 : Callable Tryz.prog 37 := ⟨Tryz.f37, Tryz.func37, by kernel_rfl, by kernel_rfl⟩
theorem call7_38 : Callable Tryz.prog 38 := ⟨Tryz.f38, Tryz.func38, by kernel_rfl, by kernel_rfl⟩
theorem call7_39 : Callable Tryz.prog 39 := ⟨Tryz.f39, Tryz.func39, by kernel_rfl, by kernel_rfl⟩
theorem call7_40 : Callable Tryz.prog 40 := ⟨Tryz.f40, Tryz.func40, by kernel_rfl, by kernel_rfl⟩
theorem call7_41 : Callable Tryz.prog 41 := ⟨Tryz.f41, Tryz.func41, by kernel_rfl, by kernel_rfl⟩
theorem ext7Ok : ExtOk Tryz.prog ext7 := ⟨⟨call7_30, con30⟩, ⟨call7_31, con31⟩, ⟨call7_32, con32⟩, ⟨call7_33, con33⟩, ⟨call7_34, con34⟩, ⟨call7_35, con35⟩, ⟨call7_36, con36⟩, ⟨call7_37, con37⟩, ⟨call7_38, con38⟩, ⟨call7_39, con39⟩, ⟨call7_40, con40⟩, ⟨call7_41, con41⟩, trivial⟩

noncomputable def b7 : Code := bodyOf Tryz.f7
theorem hb7 : Tryz.f7.body = some b7 := by kernel_rfl
def sig7 : List AT := [AT.v (Ty.cons (Ty.sl (Ty.cons Ty.str (Ty.cons (Ty.int .i64) (Ty.cons (Ty.int .i64) (Ty.cons (Ty.int .i64) Ty.unit))))) (Ty.cons (Ty.cons (Ty.int .i64) (Ty.cons (Ty.int .i64) (Ty.cons (Ty.int .i64) (Ty.cons (Ty.int .i64) Ty.unit)))) (Ty.cons (Ty.sl (Ty.cons (Ty.int .i64) (Ty.cons (Ty.int .i64) (Ty.cons (Ty.int .i64) Ty.unit)))) (Ty.cons (Ty.sl (Ty.cons (Ty.int .i64) (Ty.cons (Ty.int .i64) (Ty.cons (Ty.int .i64) Ty.unit)))) (Ty.cons (Ty.cons (Ty.int .i64) (Ty.cons (Ty.int .i64) (Ty.cons (Ty.int .i64) Ty.unit))) (Ty.cons (Ty.cons (Ty.int .i64) (Ty.cons (Ty.int .i64) (Ty.cons (Ty.int .i64) Ty.unit))) (Ty.cons (Ty.sl (Ty.cons Ty.str (Ty.cons (Ty.int .i64) (Ty.cons (Ty.int .i64) Ty.unit)))) (Ty.cons (Ty.cons (Ty.int .i64) (Ty.cons (Ty.int .i64) (Ty.cons (Ty.int .i64) (Ty.cons (Ty.int .i64) Ty.unit)))) (Ty.cons (Ty.sl (Ty.cons Ty.str (Ty.cons (Ty.int .i64) (Ty.cons (Ty.int .i64) (Ty.cons (Ty.int .i64) Ty.unit))))) (Ty.cons (Ty.sl (Ty.cons (Ty.int .i64) (Ty.cons (Ty.int .i64) (Ty.cons (Ty.int .i64) Ty.unit)))) (Ty.cons (Ty.sl (Ty.cons Ty.str (Ty.cons (Ty.int .i64) (Ty.cons (Ty.int .i64) Ty.unit)))) (Ty.cons (Ty.sl (Ty.cons Ty.str (Ty.cons (Ty.int .i64) (Ty.cons (Ty.int .i64) Ty.unit)))) Ty.unit))))))))))))]
def tys7 : List Ty := [Ty.bool]
def kds7 : List RK := []
def oks7 : List AT := owns sig7
def P7 (x0 : TyA0) : Prop := True
def g7_0 (x0 : TyA0) : Bool := (if (g30_0 x0.1) = true then (if (g31_0 x0.2.1) = true then (if (g32_0 x0.2.2.1) = true then (if (g33_0 x0.2.2.2.1) = true then (if (g35_0 x0.2.2.2.2.2.1) = true then (if (g36_0 x0.2.2.2.2.2.2.1) = true then (if (g37_0 x0.2.2.2.2.2.2.2.1) = true then (if (g34_0 x0.2.2.2.2.1) = true then (if (g38_0 x0.2.2.2.2.2.2.2.2.1) = true then (if (g39_0 x0.2.2.2.2.2.2.2.2.2.1) = true then (if (g40_0 x0.2.2.2.2.2.2.2.2.2.2.1) = true then g41_0 x0.2.2.2.2.2.2.2.2.2.2.2.1 else false) else false) else false) else false) else (if (g34_0 x0.2.2.2.2.1) = true then false else false)) else (if (g34_0 x0.2.2.2.2.1) = true then false else false)) else (if (g34_0 x0.2.2.2.2.1) = true then false else false)) else (if (g35_0 x0.2.2.2.2.2.1) = true then (if (g36_0 x0.2.2.2.2.2.2.1) = true then (if (g37_0 x0.2.2.2.2.2.2.2.1) = true then false else false) else false) else false)) else (if (g35_0 x0.2.2.2.2.2.1) = true then (if (g36_0 x0.2.2.2.2.2.2.1) = true then (if (g37_0 x0.2.2.2.2.2.2.2.1) = true then false else false) else false) else false)) else (if (g35_0 x0.2.2.2.2.2.1) = true then (if (g36_0 x0.2.2.2.2.2.2.1) = true then (if (g37_0 x0.2.2.2.2.2.2.2.1) = true then false else false) else false) else false)) else (if (g35_0 x0.2.2.2.2.2.1) = true then (if (g36_0 x0.2.2.2.2.2.2.1) = true then (if (g37_0 x0.2.2.2.2.2.2.2.1) = true then false else false) else false) else false))
theorem p7_0 (x0 : TyA0) : runF tab ext7 false 65 [] 2000 [] oks7 kds7 tys7 Tryz.f7.results [true, true, true, true, true, true, true, true, true, true, true] [.code b7] (entE 0 0 sig7 (x0, ())) (entL sig7 (x0, ())) = some ([Dyn.mk Ty.bool (g41_0 x0.2.2.2.2.2.2.2.2.2.2.2.1)], [], [True, g30_0 x0.1 = true, True, g31_0 x0.2.1 = true, True, g32_0 x0.2.2.1 = true, True, g33_0 x0.2.2.2.1 = true, True, True, g35_0 x0.2.2.2.2.2.1 = true, True, g36_0 x0.2.2.2.2.2.2.1 = true, True, g37_0 x0.2.2.2.2.2.2.2.1 = true, True, g34_0 x0.2.2.2.2.1 = true, g38_0 x0.2.2.2.2.2.2.2.2.1 = true, True, g39_0 x0.2.2.2.2.2.2.2.2.2.1 = true, True, g40_0 x0.2.2.2.2.2.2.2.2.2.2.1 = true, True]) := by kernel_rfl
theorem p7_1 (x0 : TyA0) : runF tab ext7 false 65 [] 2000 [] oks7 kds7 tys7 Tryz.f7.results [true, true, true, true, true, true, true, true, true, true, false] [.code b7] (entE 0 0 sig7 (x0, ())) (entL sig7 (x0, ())) = some ([Dyn.mk Ty.bool false], [], [True, g30_0 x0.1 = true, True, g31_0 x0.2.1 = true, True, g32_0 x0.2.2.1 = true, True, g33_0 x0.2.2.2.1 = true, True, True, g35_0 x0.2.2.2.2.2.1 = true, True, g36_0 x0.2.2.2.2.2.2.1 = true, True, g37_0 x0.2.2.2.2.2.2.2.1 = true, True, g34_0 x0.2.2.2.2.1 = true, g38_0 x0.2.2.2.2.2.2.2.2.1 = true, True, g39_0 x0.2.2.2.2.2.2.2.2.2.1 = true, True, g40_0 x0.2.2.2.2.2.2.2.2.2.2.1 = false]) := by kernel_rfl
theorem p7_2 (x0 : TyA0) : runF tab ext7 false 65 [] 2000 [] oks7 kds7 tys7 Tryz.f7.results [true, true, true, true, true, true, true, true, true, false, false] [.code b7] (entE 0 0 sig7 (x0, ())) (entL sig7 (x0, ())) = some ([Dyn.mk Ty.bool false], [], [True, g30_0 x0.1 = true, True, g31_0 x0.2.1 = true, True, g32_0 x0.2.2.1 = true, True, g33_0 x0.2.2.2.1 = true, True, True, g35_0 x0.2.2.2.2.2.1 = true, True, g36_0 x0.2.2.2.2.2.2.1 = true, True, g37_0 x0.2.2.2.2.2.2.2.1 = true, True, g34_0 x0.2.2.2.2.1 = true, g38_0 x0.2.2.2.2.2.2.2.2.1 = true, True, g39_0 x0.2.2.2.2.2.2.2.2.2.1 = false, false = false]) := by kernel_rfl
theorem p7_3 (x0 : TyA0) : runF tab ext7 false 65 [] 2000 [] oks7 kds7 tys7 Tryz.f7.results [true, true, true, true, true, true, true, true, false, false, false] [.code b7] (entE 0 0 sig7 (x0, ())) (entL sig7 (x0, ())) = some ([Dyn.mk Ty.bool false], [], [True, g30_0 x0.1 = true, True, g31_0 x0.2.1 = true, True, g32_0 x0.2.2.1 = true, True, g33_0 x0.2.2.2.1 = true, True, True, g35_0 x0.2.2.2.2.2.1 = true, True, g36_0 x0.2.2.2.2.2.2.1 = true, True, g37_0 x0.2.2.2.2.2.2.2.1 = true, True, g34_0 x0.2.2.2.2.1 = true, g38_0 x0.2.2.2.2.2.2.2.2.1 = false, false = false, false = false]) := by kernel_rfl
theorem p7_4 (x0 : TyA0) : runF tab ext7 false 65 [] 2000 [] oks7 kds7 tys7 Tryz.f7.results [true, true, true, true, true, true, true, false, false, false, false] [.code b7] (entE 0 0 sig7 (x0, ())) (entL sig7 (x0, ())) = some ([Dyn.mk Ty.bool false], [], [True, g30_0 x0.1 = true, True, g31_0 x0.2.1 = true, True, g32_0 x0.2.2.1 = true, True, g33_0 x0.2.2.2.1 = true, True, True, g35_0 x0.2.2.2.2.2.1 = true, True, g36_0 x0.2.2.2.2.2.2.1 = true, True, g37_0 x0.2.2.2.2.2.2.2.1 = true, True, g34_0 x0.2.2.2.2.1 = false, false = false, false = false, false = false]) := by kernel_rfl
theorem p7_5 (x0 : TyA0) : runF tab ext7 false 65 [] 2000 [] oks7 kds7 tys7 Tryz.f7.results [true, true, true, true, true, true, false, true, false, false, false] [.code b7] (entE 0 0 sig7 (x0, ())) (entL sig7 (x0, ())) = some ([Dyn.mk Ty.bool false], [], [True, g30_0 x0.1 = true, True, g31_0 x0.2.1 = true, True, g32_0 x0.2.2.1 = true, True, g33_0 x0.2.2.2.1 = true, True, True, g35_0 x0.2.2.2.2.2.1 = true, True, g36_0 x0.2.2.2.2.2.2.1 = true, True, g37_0 x0.2.2.2.2.2.2.2.1 = false, g34_0 x0.2.2.2.2.1 = true, false = false, false = false, false = false]) := by kernel_rfl
theorem p7_6 (x0 : TyA0) : runF tab ext7 false 65 [] 2000 [] oks7 kds7 tys7 Tryz.f7.results [true, true, true, true, true, true, false, false, false, false, false] [.code b7] (entE 0 0 sig7 (x0, ())) (entL sig7 (x0, ())) = some ([Dyn.mk Ty.bool false], [], [True, g30_0 x0.1 = true, True, g31_0 x0.2.1 = true, True, g32_0 x0.2.2.1 = true, True, g33_0 x0.2.2.2.1 = true, True, True, g35_0 x0.2.2.2.2.2.1 = true, True, g36_0 x0.2.2.2.2.2.2.1 = true, True, g37_0 x0.2.2.2.2.2.2.2.1 = false, g34_0 x0.2.2.2.2.1 = false, false = false, false = false, false = false]) := by kernel_rfl
theorem p7_7 (x0 : TyA0) : runF tab ext7 false 65 [] 2000 [] oks7 kds7 tys7 Tryz.f7.results [true, true, true, true, true, false, false, true, false, false, false] [.code b7] (entE 0 0 sig7 (x0, ())) (entL sig7 (x0, ())) = some ([Dyn.mk Ty.bool false], [], [True, g30_0 x0.1 = true, True, g31_0 x0.2.1 = true, True, g32_0 x0.2.2.1 = true, True, g33_0 x0.2.2.2.1 = true, True, True, g35_0 x0.2.2.2.2.2.1 = true, True, g36_0 x0.2.2.2.2.2.2.1 = false, false = false, g34_0 x0.2.2.2.2.1 = true, false = false, false = false, false = false]) := by kernel_rfl
theorem p7_8 (x0 : TyA0) : runF tab ext7 false 65 [] 2000 [] oks7 kds7 tys7 Tryz.f7.results [true, true, true, true, true, false, false, false, false, false, false] [.code b7] (entE 0 0 sig7 (x0, ())) (entL sig7 (x0, ())) = some ([Dyn.mk Ty.bool false], [], [True, g30_0 x0.1 = true, True, g31_0 x0.2.1 = true, True, g32_0 x0.2.2.1 = true, True, g33_0 x0.2.2.2.1 = true, True, True, g35_0 x0.2.2.2.2.2.1 = true, True, g36_0 x0.2.2.2.2.2.2.1 = false, false = false, g34_0 x0.2.2.2.2.1 = false, false = false, false = false, false = false]) := by kernel_rfl
theorem p7_9 (x0 : TyA0) : runF tab ext7 false 65 [] 2000 [] oks7 kds7 tys7 Tryz.f7.results [true, true, true, true, false, false, false, true, false, false, false] [.code b7] (entE 0 0 sig7 (x0, ())) (entL sig7 (x0, ())) = some ([Dyn.mk Ty.bool false], [], [True, g30_0 x0.1 = true, True, g31_0 x0.2.1 = true, True, g32_0 x0.2.2.1 = true, True, g33_0 x0.2.2.2.1 = true, True, True, g35_0 x0.2.2.2.2.2.1 = false, false = false, false = false, g34_0 x0.2.2.2.2.1 = true, false = false, false = false, false = false]) := by kernel_rfl
theorem p7_10 (x0 : TyA0) : runF tab ext7 false 65 [] 2000 [] oks7 kds7 tys7 Tryz.f7.results [true, true, true, true, false, false, false, false, false, false, false] [.code b7] (entE 0 0 sig7 (x0, ())) (entL sig7 (x0, ())) = some ([Dyn.mk Ty.bool false], [], [True, g30_0 x0.1 = true, True, g31_0 x0.2.1 = true, True, g32_0 x0.2.2.1 = true, True, g33_0 x0.2.2.2.1 = true, True, True, g35_0 x0.2.2.2.2.2.1 = false, false = false, false = false, g34_0 x0.2.2.2.2.1 = false, false = false, false = false, false = false]) := by kernel_rfl
theorem p7_11 (x0 : TyA0) : runF tab ext7 false 65 [] 2000 [] oks7 kds7 tys7 Tryz.f7.results [true, true, true, false, true, true, true, false, false, false, false] [.code b7] (entE 0 0 sig7 (x0, ())) (entL sig7 (x0, ())) = some ([Dyn.mk Ty.bool false], [], [True, g30_0 x0.1 = true, True, g31_0 x0.2.1 = true, True, g32_0 x0.2.2.1 = true, True, g33_0 x0.2.2.2.1 = false, True, g35_0 x0.2.2.2.2.2.1 = true, True, g36_0 x0.2.2.2.2.2.2.1 = true, True, g37_0 x0.2.2.2.2.2.2.2.1 = true, True, false = false, false = false, false = false, false = false]) := by kernel_rfl
theorem p7_12 (x0 : TyA0) : runF tab ext7 false 65 [] 2000 [] oks7 kds7 tys7 Tryz.f7.results [true, true, true, false, true, true, false, false, false, false, false] [.code b7] (entE 0 0 sig7 (x0, ())) (entL sig7 (x0, ())) = some ([Dyn.mk Ty.bool false], [], [True, g30_0 x0.1 = true, True, g31_0 x0.2.1 = true, True, g32_0 x0.2.2.1 = true, True, g33_0 x0.2.2.2.1 = false, True, g35_0 x0.2.2.2.2.2.1 = true, True, g36_0 x0.2.2.2.2.2.2.1 = true, True, g37_0 x0.2.2.2.2.2.2.2.1 = false, false = false, false = false, false = false, false = false]) := by kernel_rfl
theorem p7_13 (x0 : TyA0) : runF tab ext7 false 65 [] 2000 [] oks7 kds7 tys7 Tryz.f7.results [true, true, true, false, true, false, false, false, false, false, false] [.code b7] (entE 0 0 sig7 (x0, ())) (entL sig7 (x0, ())) = some ([Dyn.mk Ty.bool false], [], [True, g30_0 x0.1 = true, True, g31_0 x0.2.1 = true, True, g32_0 x0.2.2.1 = true, True, g33_0 x0.2.2.2.1 = false, True, g35_0 x0.2.2.2.2.2.1 = true, True, g36_0 x0.2.2.2.2.2.2.1 = false, false = false, false = false, false = false, false = false, false = false]) := by kernel_rfl
theorem p7_14 (x0 : TyA0) : runF tab ext7 false 65 [] 2000 [] oks7 kds7 tys7 Tryz.f7.results [true, true, true, false, false, false, false, false, false, false, false] [.code b7] (entE 0 0 sig7 (x0, ())) (entL sig7 (x0, ())) = some ([Dyn.mk Ty.bool false], [], [True, g30_0 x0.1 = true, True, g31_0 x0.2.1 = true, True, g32_0 x0.2.2.1 = true, True, g33_0 x0.2.2.2.1 = false, True, g35_0 x0.2.2.2.2.2.1 = false, false = false, false = false, false = false, false = false, false = false, false = false]) := by kernel_rfl
theorem p7_15 (x0 : TyA0) : runF tab ext7 false 65 [] 2000 [] oks7 kds7 tys7 Tryz.f7.results [true, true, false, false, true, true, true, false, false, false, false] [.code b7] (entE 0 0 sig7 (x0, ())) (entL sig7 (x0, ())) = some ([Dyn.mk Ty.bool false], [], [True, g30_0 x0.1 = true, True, g31_0 x0.2.1 = true, True, g32_0 x0.2.2.1 = false, false = false, True, g35_0 x0.2.2.2.2.2.1 = true, True, g36_0 x0.2.2.2.2.2.2.1 = true, True, g37_0 x0.2.2.2.2.2.2.2.1 = true, True, false = false, false = false, false = false, false = false]) := by kernel_rfl
theorem p7_16 (x0 : TyA0) : runF tab ext7 false 65 [] 2000 [] oks7 kds7 tys7 Tryz.f7.results [true, true, false, false, true, true, false, false, false, false, false] [.code b7] (entE 0 0 sig7 (x0, ())) (entL sig7 (x0, ())) = some ([Dyn.mk Ty.bool false], [], [True, g30_0 x0.1 = true, True, g31_0 x0.2.1 = true, True, g32_0 x0.2.2.1 = false, false = false, True, g35_0 x0.2.2.2.2.2.1 = true, True, g36_0 x0.2.2.2.2.2.2.1 = true, True, g37_0 x0.2.2.2.2.2.2.2.1 = false, false = false, false = false, false = false, false = false]) := by kernel_rfl
theorem p7_17 (x0 : TyA0) : runF tab ext7 false 65 [] 2000 [] oks7 kds7 tys7 Tryz.f7.results [true, true, false, false, true, false, false, false, false, false, false] [.code b7] (entE 0 0 sig7 (x0, ())) (entL sig7 (x0, ())) = some ([Dyn.mk Ty.bool false], [], [True, g30_0 x0.1 = true, True, g31_0 x0.2.1 = true, True, g32_0 x0.2.2.1 = false, false = false, True, g35_0 x0.2.2.2.2.2.1 = true, True, g36_0 x0.2.2.2.2.2.2.1 = false, false = false, false = false, false = false, false = false, false = false]) := by kernel_rfl
theorem p7_18 (x0 : TyA0) : runF tab ext7 false 65 [] 2000 [] oks7 kds7 tys7 Tryz.f7.results [true, true, false, false, false, false, false, false, false, false, false] [.code b7] (entE 0 0 sig7 (x0, ())) (entL sig7 (x0, ())) = some ([Dyn.mk Ty.bool false], [], [True, g30_0 x0.1 = true, True, g31_0 x0.2.1 = true, True, g32_0 x0.2.2.1 = false, false = false, True, g35_0 x0.2.2.2.2.2.1 = false, false = false, false = false, false = false, false = false, false = false, false = false]) := by kernel_rfl
theorem p7_19 (x0 : TyA0) : runF tab ext7 false 65 [] 2000 [] oks7 kds7 tys7 Tryz.f7.results [true, false, false, false, true, true, true, false, false, false, false] [.code b7] (entE 0 0 sig7 (x0, ())) (entL sig7 (x0, ())) = some ([Dyn.mk Ty.bool false], [], [True, g30_0 x0.1 = true, True, g31_0 x0.2.1 = false, false = false, false = false, True, g35_0 x0.2.2.2.2.2.1 = true, True, g36_0 x0.2.2.2.2.2.2.1 = true, True, g37_0 x0.2.2.2.2.2.2.2.1 = true, True, false = false, false = false, false = false, false = false]) := by kernel_rfl
theorem p7_20 (x0 : TyA0) : runF tab ext7 false 65 [] 2000 [] oks7 kds7 tys7 Tryz.f7.results [true, false, false, false, true, true, false, false, false, false, false] [.code b7] (entE 0 0 sig7 (x0, ())) (entL sig7 (x0, ())) = some ([Dyn.mk Ty.bool false], [], [True, g30_0 x0.1 = true, True, g31_0 x0.2.1 = false, false = false, false = false, True, g35_0 x0.2.2.2.2.2.1 = true, True, g36_0 x0.2.2.2.2.2.2.1 = true, True, g37_0 x0.2.2.2.2.2.2.2.1 = false, false = false, false = false, false = false, false = false]) := by kernel_rfl
theorem p7_21 (x0 : TyA0) : runF tab ext7 false 65 [] 2000 [] oks7 kds7 tys7 Tryz.f7.results [true, false, false, false, true, false, false, false, false, false, false] [.code b7] (entE 0 0 sig7 (x0, ())) (entL sig7 (x0, ())) = some ([Dyn.mk Ty.bool false], [], [True, g30_0 x0.1 = true, True, g31_0 x0.2.1 = false, false = false, false = false, True, g35_0 x0.2.2.2.2.2.1 = true, True, g36_0 x0.2.2.2.2.2.2.1 = false, false = false, false = false, false = false, false = false, false = false]) := by kernel_rfl
theorem p7_22 (x0 : TyA0) : runF tab ext7 false 65 [] 2000 [] oks7 kds7 tys7 Tryz.f7.results [true, false, false, false, false, false, false, false, false, false, false] [.code b7] (entE 0 0 sig7 (x0, ())) (entL sig7 (x0, ())) = some ([Dyn.mk Ty.bool false], [], [True, g30_0 x0.1 = true, True, g31_0 x0.2.1 = false, false = false, false = false, True, g35_0 x0.2.2.2.2.2.1 = false, false = false, false = false, false = false, false = false, false = false, false = false]) := by kernel_rfl
theorem p7_23 (x0 : TyA0) : runF tab ext7 false 65 [] 2000 [] oks7 kds7 tys7 Tryz.f7.results [false, false, false, false, true, true, true, false, false, false, false] [.code b7] (entE 0 0 sig7 (x0, ())) (entL sig7 (x0, ())) = some ([Dyn.mk Ty.bool false], [], [True, g30_0 x0.1 = false, false = false, false = false, false = false, True, g35_0 x0.2.2.2.2.2.1 = true, True, g36_0 x0.2.2.2.2.2.2.1 = true, True, g37_0 x0.2.2.2.2.2.2.2.1 = true, True, false = false, false = false, false = false, false = false]) := by kernel_rfl
theorem p7_24 (x0 : TyA0) : runF tab ext7 false 65 [] 2000 [] oks7 kds7 tys7 Tryz.f7.results [false, false, false, false, true, true, false, false, false, false, false] [.code b7] (entE 0 0 sig7 (x0, ())) (entL sig7 (x0, ())) = some ([Dyn.mk Ty.bool false], [], [True, g30_0 x0.1 = false, false = false, false = false, false = false, True, g35_0 x0.2.2.2.2.2.1 = true, True, g36_0 x0.2.2.2.2.2.2.1 = true, True, g37_0 x0.2.2.2.2.2.2.2.1 = false, false = false, false = false, false = false, false = false]) := by kernel_rfl
theorem p7_25 (x0 : TyA0) : runF tab ext7 false 65 [] 2000 [] oks7 kds7 tys7 Tryz.f7.results [false, false, false, false, true, false, false, false, false, false, false] [.code b7] (entE 0 0 sig7 (x0, ())) (entL sig7 (x0, ())) = some ([Dyn.mk Ty.bool false], [], [True, g30_0 x0.1 = false, false = false, false = false, false = false, True, g35_0 x0.2.2.2.2.2.1 = true, True, g36_0 x0.2.2.2.2.2.2.1 = false, false = false, false = false, false = false, false = false, false = false]) := by kernel_rfl
theorem p7_26 (x0 : TyA0) : runF tab ext7 false 65 [] 2000 [] oks7 kds7 tys7 Tryz.f7.results [false, false, false, false, false, false, false, false, false, false, false] [.code b7] (entE 0 0 sig7 (x0, ())) (entL sig7 (x0, ())) = some ([Dyn.mk Ty.bool false], [], [True, g30_0 x0.1 = false, false = false, false = false, false = false, True, g35_0 x0.2.2.2.2.2.1 = false, false = false, false = false, false = false, false = false, false = false, false = false]) := by kernel_rfl
theorem at7 (x0 : TyA0) (h : P7 x0) (K : Ctx) (q : Nat → Value) : AtV Tryz.prog 7 (PostR kds7 oks7 [⟨Ty.bool, g7_0 x0⟩] [] [] q K) 65 K q [] [.code b7] (entE 0 0 sig7 (x0, ())) (entL sig7 (x0, ())) := by
  unfold P7 at h
  unfold g7_0
  by_cases b0 : (g30_0 x0.1) = true
  · try simp only [if_pos b0] at h ⊢
    by_cases b1 : (g31_0 x0.2.1) = true
    · try simp only [if_pos b1] at h ⊢
      by_cases b2 : (g32_0 x0.2.2.1) = true
      · try simp only [if_pos b2] at h ⊢
        by_cases b3 : (g33_0 x0.2.2.2.1) = true
        · try simp only [if_pos b3] at h ⊢
          by_cases b4 : (g35_0 x0.2.2.2.2.2.1) = true
          · try simp only [if_pos b4] at h ⊢
            by_cases b5 : (g36_0 x0.2.2.2.2.2.2.1) = true
            · try simp only [if_pos b5] at h ⊢
              by_cases b6 : (g37_0 x0.2.2.2.2.2.2.2.1) = true
              · try simp only [if_pos b6] at h ⊢
                by_cases b7 : (g34_0 x0.2.2.2.2.1) = true
                · try simp only [if_pos b7] at h ⊢
                  by_cases b8 : (g38_0 x0.2.2.2.2.2.2.2.2.1) = true
                  · try simp only [if_pos b8] at h ⊢
                    by_cases b9 : (g39_0 x0.2.2.2.2.2.2.2.2.2.1) = true
                    · try simp only [if_pos b9] at h ⊢
                      by_cases b10 : (g40_0 x0.2.2.2.2.2.2.2.2.2.2.1) = true
                      · try simp only [if_pos b10] at h ⊢
                        exact AtV.fin Tryz.func7 tabOk ext7Ok mixed (p7_0 x0) ⟨trivial, b0, trivial, b1, trivial, b2, trivial, b3, trivial, trivial, b4, trivial, b5, trivial, b6, trivial, b7, b8, trivial, b9, trivial, b10, trivial, trivial⟩
                      · try simp only [if_neg b10] at h ⊢
                        replace b10 := Bool.eq_false_iff.2 b10
                        exact AtV.fin Tryz.func7 tabOk ext7Ok mixed (p7_1 x0) ⟨trivial, b0, trivial, b1, trivial, b2, trivial, b3, trivial, trivial, b4, trivial, b5, trivial, b6, trivial, b7, b8, trivial, b9, trivial, b10, trivial⟩
                    · try simp only [if_neg b9] at h ⊢
                      replace b9 := Bool.eq_false_iff.2 b9
                      exact AtV.fin Tryz.func7 tabOk ext7Ok mixed (p7_2 x0) ⟨trivial, b0, trivial, b1, trivial, b2, trivial, b3, trivial, trivial, b4, trivial, b5, trivial, b6, trivial, b7, b8, trivial, b9, rfl, trivial⟩
                  · try simp only [if_neg b8] at h ⊢
                    replace b8 := Bool.eq_false_iff.2 b8
                    exact AtV.fin Tryz.func7 tabOk ext7Ok mixed (p7_3 x0) ⟨trivial, b0, trivial, b1, trivial, b2, trivial, b3, trivial, trivial, b4, trivial, b5, trivial, b6, trivial, b7, b8, rfl, rfl, trivial⟩
                · try simp only [if_neg b7] at h ⊢
                  replace b7 := Bool.eq_false_iff.2 b7
                  exact AtV.fin Tryz.func7 tabOk ext7Ok mixed (p7_4 x0) ⟨trivial, b0, trivial, b1, trivial, b2, trivial, b3, trivial, trivial, b4, trivial, b5, trivial, b6, trivial, b7, rfl, rfl, rfl, trivial⟩
              · try simp only [if_neg b6] at h ⊢
                replace b6 := Bool.eq_false_iff.2 b6
                by_cases b7 : (g34_0 x0.2.2.2.2.1) = true
                · try simp only [if_pos b7] at h ⊢
                  exact AtV.fin Tryz.func7 tabOk ext7Ok mixed (p7_5 x0) ⟨trivial, b0, trivial, b1, trivial, b2, trivial, b3, trivial, trivial, b4, trivial, b5, trivial, b6, b7, rfl, rfl, rfl, trivial⟩
                · try simp only [if_neg b7] at h ⊢
                  replace b7 := Bool.eq_false_iff.2 b7
                  exact AtV.fin Tryz.func7 tabOk ext7Ok mixed (p7_6 x0) ⟨trivial, b0, trivial, b1, trivial, b2, trivial, b3, trivial, trivial, b4, trivial, b5, trivial, b6, b7, rfl, rfl, rfl, trivial⟩
            · try simp only [if_neg b5] at h ⊢
              replace b5 := Bool.eq_false_iff.2 b5
              by_cases b6 : (g34_0 x0.2.2.2.2.1) = true
              · try simp only [if_pos b6] at h ⊢
                exact AtV.fin Tryz.func7 tabOk ext7Ok mixed (p7_7 x0) ⟨trivial, b0, trivial, b1, trivial, b2, trivial, b3, trivial, trivial, b4, trivial, b5, rfl, b6, rfl, rfl, rfl, trivial⟩
              · try simp only [if_neg b6] at h ⊢
                replace b6 := Bool.eq_false_iff.2 b6
                exact AtV.fin Tryz.func7 tabOk ext7Ok mixed (p7_8 x0) ⟨trivial, b0, trivial, b1, trivial, b2, trivial, b3, trivial, trivial, b4, trivial, b5, rfl, b6, rfl, rfl, rfl, trivial⟩
          · try simp only [if_neg b4] at h ⊢
            replace b4 := Bool.eq_false_iff.2 b4
            by_cases b5 : (g34_0 x0.2.2.2.2.1) = true
            · try simp only [if_pos b5] at h ⊢
              exact AtV.fin Tryz.func7 tabOk ext7Ok mixed (p7_9 x0) ⟨trivial, b0, trivial, b1, trivial, b2, trivial, b3, trivial, trivial, b4, rfl, rfl, b5, rfl, rfl, rfl, trivial⟩
            · try simp only [if_neg b5] at h ⊢
              replace b5 := Bool.eq_false_iff.2 b5
              exact AtV.fin Tryz.func7 tabOk ext7Ok mixed (p7_10 x0) ⟨trivial, b0, trivial, b1, trivial, b2, trivial, b3, trivial, trivial, b4, rfl, rfl, b5, rfl, rfl, rfl, trivial⟩
        · try simp only [if_neg b3] at h ⊢
          replace b3 := Bool.eq_false_iff.2 b3
          by_cases b4 : (g35_0 x0.2.2.2.2.2.1) = true
          · try simp only [if_pos b4] at h ⊢
            by_cases b5 : (g36_0 x0.2.2.2.2.2.2.1) = true
            · try simp only [if_pos b5] at h ⊢
              by_cases b6 : (g37_0 x0.2.2.2.2.2.2.2.1) = true
              · try simp only [if_pos b6] at h ⊢
                exact AtV.fin Tryz.func7 tabOk ext7Ok mixed (p7_11 x0) ⟨trivial, b0, trivial, b1, trivial, b2, trivial, b3, trivial, b4, trivial, b5, trivial, b6, trivial, rfl, rfl, rfl, rfl, trivial⟩
              · try simp only [if_neg b6] at h ⊢
                replace b6 := Bool.eq_false_iff.2 b6
                exact AtV.fin Tryz.func7 tabOk ext7Ok mixed (p7_12 x0) ⟨trivial, b0, trivial, b1, trivial, b2, trivial, b3, trivial, b4, trivial, b5, trivial, b6, rfl, rfl, rfl, rfl, trivial⟩
            · try simp only [if_neg b5] at h ⊢
              replace b5 := Bool.eq_false_iff.2 b5
              exact AtV.fin Tryz.func7 tabOk ext7Ok mixed (p7_13 x0) ⟨trivial, b0, trivial, b1, trivial, b2, trivial, b3, trivial, b4, trivial, b5, rfl, rfl, rfl, rfl, rfl, trivial⟩
          · try simp only [if_neg b4] at h ⊢
            replace b4 := Bool.eq_false_iff.2 b4
            exact AtV.fin Tryz.func7 tabOk ext7Ok mixed (p7_14 x0) ⟨trivial, b0, trivial, b1, trivial, b2, trivial, b3, trivial, b4, rfl, rfl, rfl, rfl, rfl, rfl, trivial⟩
      · try simp only [if_neg b2] at h ⊢
        replace b2 := Bool.eq_false_iff.2 b2
        by_cases b3 : (g35_0 x0.2.2.2.2.2.1) = true
        · try simp only [if_pos b3] at h ⊢
          by_cases b4 : (g36_0 x0.2.2.2.2.2.2.1) = true
          · try simp only [if_pos b4] at h ⊢
            by_cases b5 : (g37_0 x0.2.2.2.2.2.2.2.1) = true
            · try simp only [if_pos b5] at h ⊢
              exact AtV.fin Tryz.func7 tabOk ext7Ok mixed (p7_15 x0) ⟨trivial, b0, trivial, b1, trivial, b2, rfl, trivial, b3, trivial, b4, trivial, b5, trivial, rfl, rfl, rfl, rfl, trivial⟩
            · try simp only [if_neg b5] at h ⊢
              replace b5 := Bool.eq_false_iff.2 b5
              exact AtV.fin Tryz.func7 tabOk ext7Ok mixed (p7_16 x0) ⟨trivial, b0, trivial, b1, trivial, b2, rfl, trivial, b3, trivial, b4, trivial, b5, rfl, rfl, rfl, rfl, trivial⟩
          · try simp only [if_neg b4] at h ⊢
            replace b4 := Bool.eq_false_iff.2 b4
            exact AtV.fin Tryz.func7 tabOk ext7Ok mixed (p7_17 x0) ⟨trivial, b0, trivial, b1, trivial, b2, rfl, trivial, b3, trivial, b4, rfl, rfl, rfl, rfl, rfl, trivial⟩
        · try simp only [if_neg b3] at h ⊢
          replace b3 := Bool.eq_false_iff.2 b3
          exact AtV.fin Tryz.func7 tabOk ext7Ok mixed (p7_18 x0) ⟨trivial, b0, trivial, b1, trivial, b2, rfl, trivial, b3, rfl, rfl, rfl, rfl, rfl, rfl, trivial⟩
    · try simp only [if_neg b1] at h ⊢
      replace b1 := Bool.eq_false_iff.2 b1
      by_cases b2 : (g35_0 x0.2.2.2.2.2.1) = true
      · try simp only [if_pos b2] at h ⊢
        by_cases b3 : (g36_0 x0.2.2.2.2.2.2.1) = true
        · try simp only [if_pos b3] at h ⊢
          by_cases b4 : (g37_0 x0.2.2.2.2.2.2.2.1) = true
          · try simp only [if_pos b4] at h ⊢
            exact AtV.fin Tryz.func7 tabOk ext7Ok mixed (p7_19 x0) ⟨trivial, b0, trivial, b1, rfl, rfl, trivial, b2, trivial, b3, trivial, b4, trivial, rfl, rfl, rfl, rfl, trivial⟩
          · try simp only [if_neg b4] at h ⊢
            replace b4 := Bool.eq_false_iff.2 b4
            exact AtV.fin Tryz.func7 tabOk ext7Ok mixed (p7_20 x0) ⟨trivial, b0, trivial, b1, rfl, rfl, trivial, b2, trivial, b3, trivial, b4, rfl, rfl, rfl, rfl, trivial⟩
        · try simp only [if_neg b3] at h ⊢
          replace b3 := Bool.eq_false_iff.2 b3
          exact AtV.fin Tryz.func7 tabOk ext7Ok mixed (p7_21 x0) ⟨trivial, b0, trivial, b1, rfl, rfl, trivial, b2, trivial, b3, rfl, rfl, rfl, rfl, rfl, trivial⟩
      · try simp only [if_neg b2] at h ⊢
        replace b2 := Bool.eq_false_iff.2 b2
        exact AtV.fin Tryz.func7 tabOk ext7Ok mixed (p7_22 x0) ⟨trivial, b0, trivial, b1, rfl, rfl, trivial, b2, rfl, rfl, rfl, rfl, rfl, rfl, trivial⟩
  · try simp only [if_neg b0] at h ⊢
    replace b0 := Bool.eq_false_iff.2 b0
    by_cases b1 : (g35_0 x0.2.2.2.2.2.1) = true
    · try simp only [if_pos b1] at h ⊢
      by_cases b2 : (g36_0 x0.2.2.2.2.2.2.1) = true
      · try simp only [if_pos b2] at h ⊢
        by_cases b3 : (g37_0 x0.2.2.2.2.2.2.2.1) = true
        · try simp only [if_pos b3] at h ⊢
          exact AtV.fin Tryz.func7 tabOk ext7Ok mixed (p7_23 x0) ⟨trivial, b0, rfl, rfl, rfl, trivial, b1, trivial, b2, trivial, b3, trivial, rfl, rfl, rfl, rfl, trivial⟩
        · try simp only [if_neg b3] at h ⊢
          replace b3 := Bool.eq_false_iff.2 b3
          exact AtV.fin Tryz.func7 tabOk ext7Ok mixed (p7_24 x0) ⟨trivial, b0, rfl, rfl, rfl, trivial, b1, trivial, b2, trivial, b3, rfl, rfl, rfl, rfl, trivial⟩
      · try simp only [if_neg b2] at h ⊢
        replace b2 := Bool.eq_false_iff.2 b2
        exact AtV.fin Tryz.func7 tabOk ext7Ok mixed (p7_25 x0) ⟨trivial, b0, rfl, rfl, rfl, trivial, b1, trivial, b2, rfl, rfl, rfl, rfl, rfl, trivial⟩
    · try simp only [if_neg b1] at h ⊢
      replace b1 := Bool.eq_false_iff.2 b1
      exact AtV.fin Tryz.func7 tabOk ext7Ok mixed (p7_26 x0) ⟨trivial, b0, rfl, rfl, rfl, trivial, b1, rfl, rfl, rfl, rfl, rfl, rfl, trivial⟩

def S7 : Am.Spec := { sig := sig7, pre := fun ⟨x0, _⟩ => P7 x0, res := fun ⟨x0, _⟩ => [⟨Ty.bool, g7_0 x0⟩], kds := kds7 }
theorem con7 : Contract Tryz.prog 7 S7 := contract_of Tryz.func7 hb7 (Nat.le_of_ble_eq_true (by kernel_rfl)) (fun ⟨x0, _⟩ h _ K q => at7 x0 h K q)


end
end Go.Proofs.YtcakiedjgnhjcaaGreat
