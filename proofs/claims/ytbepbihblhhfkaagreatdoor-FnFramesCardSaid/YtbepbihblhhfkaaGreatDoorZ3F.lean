/- Several texts in one: the functions that this law reaches, and their laws. -/
import Derived.Test.YtbepbihblhhfkaaGreatDoorZ3A
import Derived.Test.YtbepbihblhhfkaaGreatDoorZ3B
import Derived.Test.YtbepbihblhhfkaaGreatDoorZ3C
import Derived.Test.YtbepbihblhhfkaaGreatDoorZ3D
import Derived.Test.YtbepbihblhhfkaaGreatDoorZ3E
import Derived.Lib.ItoaNum
import Derived.Lib.IndexAny
import Derived.Lib.IndexMore
import Derived.Lib.TrimByte
import Derived.Lib.ParseIntBCases
set_option linter.unusedVariables false
set_option linter.unusedSimpArgs false
set_option maxRecDepth 100000
namespace Go.Proofs.YtbepbihblhhfkaaGreatDoor
open Go Go.Am Go.Proofs
noncomputable section
def ext16 : Ext := [(20, S20), (42, S42)]
theorem ext16Ok : ExtOk Tryz.prog ext16 := ⟨⟨ca20, con20⟩, ⟨ca42, con42⟩, trivial⟩
noncomputable def b16 : Code := bodyOf Tryz.f16
theorem hb16 : Tryz.f16.body = some b16 := by kernel_rfl
def sig16 : List AT := [AT.v (Ty.sl YA3)]
def tys16 : List Ty := [Ty.sl YA0, Ty.int .i64]
def kds16 : List RK := []
def oks16 : List AT := owns sig16
def E16_5 (v14 : Int) (h0 : List TyB0) (x0 : List TyB1) : Env := [(4, PV.a (Atom.osl 0 Option.none)), (12, PV.a (Atom.sl YA3 x0)), (13, PV.a (Atom.val (Value.int .i64 (↑(List.length x0) : Int)))), (14, PV.a (Atom.val (Value.int .i64 v14)))]
def L16_5 (v14 : Int) (h0 : List TyB0) (x0 : List TyB1) : Heap := [Option.some (Arr.mk YA0 h0 false Option.none Option.none)]
mutual
def R16 : Nat → List TyB1 → List Dyn → Prop
  | 0, _, _ => False
  | n + 1, x0, ds => (if (!g20_0 x0) = true then (ds = [Dyn.mk (Ty.sl YA0) [], Dyn.mk (Ty.int .i64) 1]) else (R16_5 n (0) ([]) (x0) ds))
def R16_5 : Nat → Int → List TyB0 → List TyB1 → List Dyn → Prop
  | 0, _, _, _, _ => False
  | n + 1, v14, h0, x0, ds => (if (decide (v14 < (↑(List.length x0) : Int))) = true then ((0 ≤ v14) ∧ (v14 < (↑(List.length x0) : Int)) ∧ (if (!ByteArray.toList (List.getD x0 (Int.toNat v14) (ByteArray.empty, ByteArray.empty, ByteArray.empty, ())).1 == ByteArray.toList (ByteArray.mk #[99, 104, 101, 99, 107])) = true then ((InR .i64 (v14 + 1)) ∧ (R16_5 n (v14 + 1) (h0) (x0) ds)) else ((P42 (List.getD x0 (Int.toNat v14) (ByteArray.empty, ByteArray.empty, ByteArray.empty, ())).2.2.1) ∧ (if (!g42_1 (List.getD x0 (Int.toNat v14) (ByteArray.empty, ByteArray.empty, ByteArray.empty, ())).2.2.1) = true then (ds = [Dyn.mk (Ty.sl YA0) [], Dyn.mk (Ty.int .i64) 9]) else (if (!ByteArray.toList (g42_0 (List.getD x0 (Int.toNat v14) (ByteArray.empty, ByteArray.empty, ByteArray.empty, ())).2.2.1).1 == ByteArray.toList (List.getD x0 (Int.toNat v14) (ByteArray.empty, ByteArray.empty, ByteArray.empty, ())).2.1) = true then (ds = [Dyn.mk (Ty.sl YA0) [], Dyn.mk (Ty.int .i64) 6]) else (((List.length h0 + 1) * 48 ≤ 140737488355328) ∧ ((InR .i64 (v14 + 1)) ∧ (R16_5 n (v14 + 1) (h0 ++ [g42_0 (List.getD x0 (Int.toNat v14) (ByteArray.empty, ByteArray.empty, ByteArray.empty, ())).2.2.1]) (x0) ds)))))))) else (if (decide ((↑(List.length h0) : Int) > 16)) = true then (ds = [Dyn.mk (Ty.sl YA0) [], Dyn.mk (Ty.int .i64) 5]) else (ds = [Dyn.mk (Ty.sl YA0) h0, Dyn.mk (Ty.int .i64) 0])))
end
theorem snd16 : ∀ n, (∀ (x0 : List TyB1) ds, R16 n x0 ds → ∀ K q, AtV Tryz.prog 16 (PostR kds16 oks16 ds [] [] q K) 45 K q [] [.code b16] (entE 0 0 sig16 (x0, ())) (entL sig16 (x0, ()))) ∧ (∀ (v14 : Int) (h0 : List TyB0) (x0 : List TyB1) ds, R16_5 n v14 h0 x0 ds → ∀ K q, AtV Tryz.prog 16 (PostR kds16 oks16 ds [] [] q K) 45 K q [] (cutAt b16 5) (E16_5 v14 h0 x0) (L16_5 v14 h0 x0)) := by
  intro n
  induction n with
  | zero => exact ⟨fun _ _ h => by simp only [R16] at h, fun _ _ _ _ h => by simp only [R16_5] at h⟩
  | succ n ih =>
  obtain ⟨ih, ih5⟩ := ih
  refine ⟨?_, ?_⟩
  · intro x0 ds h K q
    rw [R16] at h
    by_cases b0 : (!g20_0 x0) = true
    · rw [if_pos b0] at h
      subst h
      exact AtV.ret Tryz.func16 tabOk ext16Ok mixed false [] tys16 [true] (a1 trivial (a1 b0 trivial)) (by kernel_rfl)
    · rw [if_neg b0] at h
      replace b0 := Bool.eq_false_iff.2 b0
      exact AtV.go tabOk ext16Ok mixed false [] [(4, Ty.cons Ty.str YA1)] [4, 12, 13, 14] [0] [false] (a1 trivial (a1 b0 trivial)) (ih5 _ _ _ _ h K q) (by kernel_rfl)
  · intro v14 h0 x0 ds h K q
    rw [R16_5] at h
    by_cases b0 : (decide (v14 < (↑(List.length x0) : Int))) = true
    · rw [if_pos b0] at h
      obtain ⟨s0, s1, h⟩ := h
      by_cases b1 : (!ByteArray.toList (List.getD x0 (Int.toNat v14) (ByteArray.empty, ByteArray.empty, ByteArray.empty, ())).1 == ByteArray.toList (ByteArray.mk #[99, 104, 101, 99, 107])) = true
      · rw [if_pos b1] at h
        obtain ⟨s2, h⟩ := h
        exact AtV.go tabOk ext16Ok mixed false [] [(4, Ty.cons Ty.str YA1)] [4, 12, 13, 14] [0] [true, true] (a1 b0 (a1 s0 (a1 s1 (a1 b1 (a1 s2 trivial))))) (ih5 _ _ _ _ h K q) (by kernel_rfl)
      · rw [if_neg b1] at h
        replace b1 := Bool.eq_false_iff.2 b1
        obtain ⟨s2, h⟩ := h
        by_cases b2 : (!g42_1 (List.getD x0 (Int.toNat v14) (ByteArray.empty, ByteArray.empty, ByteArray.empty, ())).2.2.1) = true
        · rw [if_pos b2] at h
          subst h
          exact AtV.ret Tryz.func16 tabOk ext16Ok mixed false [] tys16 [true, false, true] (a1 b0 (a1 s0 (a1 s1 (a1 b1 (a1 s2 (a1 b2 trivial)))))) (by kernel_rfl)
        · rw [if_neg b2] at h
          replace b2 := Bool.eq_false_iff.2 b2
          by_cases b3 : (!ByteArray.toList (g42_0 (List.getD x0 (Int.toNat v14) (ByteArray.empty, ByteArray.empty, ByteArray.empty, ())).2.2.1).1 == ByteArray.toList (List.getD x0 (Int.toNat v14) (ByteArray.empty, ByteArray.empty, ByteArray.empty, ())).2.1) = true
          · rw [if_pos b3] at h
            subst h
            exact AtV.ret Tryz.func16 tabOk ext16Ok mixed false [] tys16 [true, false, false, true] (a1 b0 (a1 s0 (a1 s1 (a1 b1 (a1 s2 (a1 b2 (a1 b3 trivial))))))) (by kernel_rfl)
          · rw [if_neg b3] at h
            replace b3 := Bool.eq_false_iff.2 b3
            obtain ⟨s3, h⟩ := h
            obtain ⟨s4, h⟩ := h
            exact AtV.go tabOk ext16Ok mixed false [] [(4, Ty.cons Ty.str YA1)] [4, 12, 13, 14] [0] [true, false, false, false] (a1 b0 (a1 s0 (a1 s1 (a1 b1 (a1 s2 (a1 b2 (a1 b3 (a1 s3 (a1 s4 trivial))))))))) (ih5 _ _ _ _ h K q) (by kernel_rfl)
    · rw [if_neg b0] at h
      replace b0 := Bool.eq_false_iff.2 b0
      by_cases b1 : (decide ((↑(List.length h0) : Int) > 16)) = true
      · rw [if_pos b1] at h
        subst h
        exact AtV.ret Tryz.func16 tabOk ext16Ok mixed false [] tys16 [false, true] (a1 b0 (a1 b1 trivial)) (by kernel_rfl)
      · rw [if_neg b1] at h
        replace b1 := Bool.eq_false_iff.2 b1
        subst h
        exact AtV.ret Tryz.func16 tabOk ext16Ok mixed false [] tys16 [false, false] (a1 b0 (a1 b1 trivial)) (by kernel_rfl)
def is16 (b : TyB1) : Bool := ByteArray.toList b.1 == ByteArray.toList (ByteArray.mk #[99, 104, 101, 99, 107])
def co16 : List TyB1 → List TyB0 → Int ⊕ List TyB0
  | [], h => .inr h
  | b :: r, h => if is16 b = false then co16 r h else if g42_1 b.2.2.1 = false then .inl 9 else if (ByteArray.toList (g42_0 b.2.2.1).1 == ByteArray.toList b.2.1) = false then .inl 6 else co16 r (h ++ [g42_0 b.2.2.1])
def out16 : Int ⊕ List TyB0 → List TyB0 × Int
  | .inl c => ([], c)
  | .inr h => if h.length > 16 then ([], 5) else (h, 0)
def all16 (x0 : List TyB1) : List TyB0 × Int := if g20_0 x0 = false then ([], 1) else out16 (co16 x0 [])
def g16_0 (x0 : List TyB1) : List TyB0 := (all16 x0).1
def g16_1 (x0 : List TyB1) : Int := (all16 x0).2
def P16 (x0 : List TyB1) : Prop := x0.length ≤ 1048576 ∧ ∀ b ∈ x0, P42 b.2.2.1
def res16 (p : List TyB0 × Int) : List Dyn := [⟨.sl (.cons .str (.cons (.int .i64) (.cons (.int .i64) (.cons (.int .i64) (.cons (.int .i64) .unit))))), p.1⟩, ⟨.int .i64, p.2⟩]
theorem run16 (x0 : List TyB1) (hp : P16 x0) : ∀ (k i : Nat) (h : List TyB0), i + k = x0.length → h.length ≤ i →
    R16_5 (k + 1) (i : Int) h x0 (res16 (out16 (co16 (x0.drop i) h))) := by
  obtain ⟨hl, hP⟩ := hp
  intro k
  induction k with
  | zero =>
    intro i h hi hh
    rw [R16_5, if_neg (by simp only [decide_eq_true_eq]; omega), List.drop_of_length_le (by omega)]
    unfold co16 out16
    by_cases hn : h.length > 16
    · rw [if_pos (by simp only [decide_eq_true_eq]; omega)]
      simp only [if_pos hn]; rfl
    · rw [if_neg (by simp only [decide_eq_true_eq]; omega)]
      simp only [if_neg hn]; rfl
  | succ k ih =>
    intro i h hi hh
    have hlt : i < x0.length := by omega
    have hup : InR .i64 ((i : Int) + 1) := by rw [i64_iff]; omega
    have e1 : (i : Int) + 1 = ((i + 1 : Nat) : Int) := by omega
    have hb := hP _ (mem_getD x0 i (ByteArray.empty, ByteArray.empty, ByteArray.empty, ()) hlt)
    rw [R16_5, if_pos (by simp only [decide_eq_true_eq]; omega)]
    simp only [Int.toNat_natCast]
    rw [drop_get x0 i (ByteArray.empty, ByteArray.empty, ByteArray.empty, ()) hlt]
    generalize x0.getD i (ByteArray.empty, ByteArray.empty, ByteArray.empty, ()) = b at *
    refine ⟨by omega, by omega, ?_⟩
    unfold co16
    have ei : (ByteArray.toList b.1 == ByteArray.toList (ByteArray.mk #[99, 104, 101, 99, 107])) = is16 b := rfl
    rw [ei]
    cases h1 : is16 b with
    | false =>
      rw [if_pos (show (!false) = true from rfl), if_pos (show false = false from rfl)]
      exact ⟨hup, by rw [e1]; exact ih (i + 1) h (by omega) (by omega)⟩
    | true =>
      rw [if_neg (show ¬ (!true) = true by decide), if_neg (show ¬ true = false by decide)]
      refine ⟨hb, ?_⟩
      cases h2 : g42_1 b.2.2.1 with
      | false =>
        rw [if_pos (show (!false) = true from rfl), if_pos (show false = false from rfl)]; rfl
      | true =>
        rw [if_neg (show ¬ (!true) = true by decide), if_neg (show ¬ true = false by decide)]
        cases h3 : (ByteArray.toList (g42_0 b.2.2.1).1 == ByteArray.toList b.2.1) with
        | false =>
          rw [if_pos (show (!false) = true from rfl), if_pos (show false = false from rfl)]; rfl
        | true =>
          rw [if_neg (show ¬ (!true) = true by decide), if_neg (show ¬ true = false by decide)]
          exact ⟨by omega, hup, by rw [e1]; exact ih (i + 1) (h ++ [g42_0 b.2.2.1]) (by omega) (by simp; omega)⟩
theorem top16 (x0 : List TyB1) (hp : P16 x0) : ∃ n, R16 n x0 (res16 (all16 x0)) := by
  refine ⟨(x0.length + 1) + 1, ?_⟩
  rw [R16]
  unfold all16
  cases h1 : g20_0 x0 with
  | false => rw [if_pos (show (!false) = true from rfl), if_pos (show false = false from rfl)]; rfl
  | true =>
    rw [if_neg (show ¬ (!true) = true by decide), if_neg (show ¬ true = false by decide)]
    exact run16 x0 hp x0.length 0 [] (by omega) (by simp)
def S16 : Am.Spec := { sig := sig16, pre := fun ⟨x0, _⟩ => P16 x0, res := fun ⟨x0, _⟩ => [⟨.sl (.cons .str (.cons (.int .i64) (.cons (.int .i64) (.cons (.int .i64) (.cons (.int .i64) .unit))))), g16_0 x0⟩, ⟨.int .i64, g16_1 x0⟩] }
theorem con16 : Contract Tryz.prog 16 S16 := contract_of Tryz.func16 hb16 (Nat.le_of_ble_eq_true (by kernel_rfl)) (fun ⟨x0, _⟩ h hwf K q => by
  obtain ⟨n, hn⟩ := top16 x0 h
  exact (snd16 n).1 x0 _ hn K q)
end
noncomputable section
def ext71 : Ext := []
theorem ext71Ok : ExtOk Tryz.prog ext71 := trivial
noncomputable def b71 : Code := bodyOf Tryz.f71
theorem hb71 : Tryz.f71.body = some b71 := by kernel_rfl
def sig71 : List AT := [AT.v (Ty.int .i64), AT.v (Ty.int .i64), AT.v (Ty.int .i64)]
def tys71 : List Ty := [Ty.bool]
def kds71 : List RK := []
def oks71 : List AT := owns sig71
def P71 (x0 : Int) (x1 : Int) (x2 : Int) : Prop := True
def g71_0 (x0 : Int) (x1 : Int) (x2 : Int) : Bool := (if (decide (x0 ≥ x1)) = true then decide (x0 ≤ x2) else false)
theorem at71 (x0 : Int) (x1 : Int) (x2 : Int) (h : P71 x0 x1 x2) (K : Ctx) (q : Nat → Value) : AtV Tryz.prog 71 (PostR kds71 oks71 [⟨Ty.bool, g71_0 x0 x1 x2⟩] [] [] q K) 15 K q [] [.code b71] (entE 0 0 sig71 (x0, x1, x2, ())) (entL sig71 (x0, x1, x2, ())) := by
  unfold P71 at h
  unfold g71_0
  by_cases b0 : (decide (x0 ≥ x1)) = true
  · try simp only [if_pos b0] at h ⊢
    exact AtV.ret Tryz.func71 tabOk ext71Ok mixed false [] tys71 [true] (a1 b0 trivial) (by kernel_rfl)
  · try simp only [if_neg b0] at h ⊢
    replace b0 := Bool.eq_false_iff.2 b0
    exact AtV.ret Tryz.func71 tabOk ext71Ok mixed false [] tys71 [false] (a1 b0 trivial) (by kernel_rfl)
def S71 : Am.Spec := { sig := sig71, pre := fun ⟨x0, x1, x2, _⟩ => P71 x0 x1 x2, res := fun ⟨x0, x1, x2, _⟩ => [⟨Ty.bool, g71_0 x0 x1 x2⟩], kds := kds71 }
theorem con71 : Contract Tryz.prog 71 S71 := contract_of Tryz.func71 hb71 (Nat.le_of_ble_eq_true (by kernel_rfl)) (fun ⟨x0, x1, x2, _⟩ h _ K q => at71 x0 x1 x2 h K q)
end
noncomputable section
def ext72 : Ext := [(71, S71)]
theorem ext72Ok : ExtOk Tryz.prog ext72 := ⟨⟨ca71, con71⟩, trivial⟩
noncomputable def b72 : Code := bodyOf Tryz.f72
theorem hb72 : Tryz.f72.body = some b72 := by kernel_rfl
def sig72 : List AT := [AT.v (Ty.int .i64)]
def tys72 : List Ty := [Ty.bool]
def kds72 : List RK := []
def oks72 : List AT := owns sig72
def P72 (x0 : Int) : Prop := True
def g72_0 (x0 : Int) : Bool := g71_0 x0 0 100000
theorem at72 (x0 : Int) (h : P72 x0) (K : Ctx) (q : Nat → Value) : AtV Tryz.prog 72 (PostR kds72 oks72 [⟨Ty.bool, g72_0 x0⟩] [] [] q K) 5 K q [] [.code b72] (entE 0 0 sig72 (x0, ())) (entL sig72 (x0, ())) := by
  unfold P72 at h
  unfold g72_0
  exact AtV.ret Tryz.func72 tabOk ext72Ok mixed false [] tys72 [] (a1 trivial trivial) (by kernel_rfl)
def S72 : Am.Spec := { sig := sig72, pre := fun ⟨x0, _⟩ => P72 x0, res := fun ⟨x0, _⟩ => [⟨Ty.bool, g72_0 x0⟩], kds := kds72 }
theorem con72 : Contract Tryz.prog 72 S72 := contract_of Tryz.func72 hb72 (Nat.le_of_ble_eq_true (by kernel_rfl)) (fun ⟨x0, _⟩ h _ K q => at72 x0 h K q)
end
noncomputable section
def ext73 : Ext := [(71, S71)]
theorem ext73Ok : ExtOk Tryz.prog ext73 := ⟨⟨ca71, con71⟩, trivial⟩
noncomputable def b73 : Code := bodyOf Tryz.f73
theorem hb73 : Tryz.f73.body = some b73 := by kernel_rfl
def sig73 : List AT := [AT.v (Ty.int .i64)]
def tys73 : List Ty := [Ty.bool]
def kds73 : List RK := []
def oks73 : List AT := owns sig73
def P73 (x0 : Int) : Prop := True
def g73_0 (x0 : Int) : Bool := g71_0 x0 0 1000000
theorem at73 (x0 : Int) (h : P73 x0) (K : Ctx) (q : Nat → Value) : AtV Tryz.prog 73 (PostR kds73 oks73 [⟨Ty.bool, g73_0 x0⟩] [] [] q K) 5 K q [] [.code b73] (entE 0 0 sig73 (x0, ())) (entL sig73 (x0, ())) := by
  unfold P73 at h
  unfold g73_0
  exact AtV.ret Tryz.func73 tabOk ext73Ok mixed false [] tys73 [] (a1 trivial trivial) (by kernel_rfl)
def S73 : Am.Spec := { sig := sig73, pre := fun ⟨x0, _⟩ => P73 x0, res := fun ⟨x0, _⟩ => [⟨Ty.bool, g73_0 x0⟩], kds := kds73 }
theorem con73 : Contract Tryz.prog 73 S73 := contract_of Tryz.func73 hb73 (Nat.le_of_ble_eq_true (by kernel_rfl)) (fun ⟨x0, _⟩ h _ K q => at73 x0 h K q)
end
noncomputable section
def ext43 : Ext := [(70, S70), (71, S71), (72, S72), (73, S73)]
theorem ext43Ok : ExtOk Tryz.prog ext43 := ⟨⟨ca70, con70⟩, ⟨ca71, con71⟩, ⟨ca72, con72⟩, ⟨ca73, con73⟩, trivial⟩
noncomputable def b43 : Code := bodyOf Tryz.f43
theorem hb43 : Tryz.f43.body = some b43 := by kernel_rfl
def sig43 : List AT := [AT.p YA0]
def tys43 : List Ty := [Ty.bool]
def kds43 : List RK := []
def oks43 : List AT := owns sig43
def P43 (x0 : ByteArray × Int × Int × Int × Int × Unit) : Prop := True
def g43_0 (x0 : ByteArray × Int × Int × Int × Int × Unit) : Bool := (if (g70_0 x0.1) = true then (if (g71_0 x0.2.1 1 100000) = true then (if (g71_0 x0.2.2.1 1 1000000) = true then (if (g72_0 x0.2.2.2.1) = true then g73_0 x0.2.2.2.2.1 else false) else false) else false) else false)
theorem at43 (x0 : ByteArray × Int × Int × Int × Int × Unit) (h : P43 x0) (K : Ctx) (q : Nat → Value) : AtV Tryz.prog 43 (PostR kds43 oks43 [⟨Ty.bool, g43_0 x0⟩] [] [] q K) 36 K q [] [.code b43] (entE 0 0 sig43 (x0, ())) (entL sig43 (x0, ())) := by
  unfold P43 at h
  unfold g43_0
  by_cases b0 : (g70_0 x0.1) = true
  · try simp only [if_pos b0] at h ⊢
    by_cases b1 : (g71_0 x0.2.1 1 100000) = true
    · try simp only [if_pos b1] at h ⊢
      by_cases b2 : (g71_0 x0.2.2.1 1 1000000) = true
      · try simp only [if_pos b2] at h ⊢
        by_cases b3 : (g72_0 x0.2.2.2.1) = true
        · try simp only [if_pos b3] at h ⊢
          exact AtV.ret Tryz.func43 tabOk ext43Ok mixed false [] tys43 [true, true, true, true] (a1 trivial (a1 b0 (a1 trivial (a1 b1 (a1 trivial (a1 b2 (a1 trivial (a1 b3 (a1 trivial trivial))))))))) (by kernel_rfl)
        · try simp only [if_neg b3] at h ⊢
          replace b3 := Bool.eq_false_iff.2 b3
          exact AtV.ret Tryz.func43 tabOk ext43Ok mixed false [] tys43 [true, true, true, false] (a1 trivial (a1 b0 (a1 trivial (a1 b1 (a1 trivial (a1 b2 (a1 trivial (a1 b3 trivial)))))))) (by kernel_rfl)
      · try simp only [if_neg b2] at h ⊢
        replace b2 := Bool.eq_false_iff.2 b2
        exact AtV.ret Tryz.func43 tabOk ext43Ok mixed false [] tys43 [true, true, false, false] (a1 trivial (a1 b0 (a1 trivial (a1 b1 (a1 trivial (a1 b2 (a1 (rfl : false = false) trivial))))))) (by kernel_rfl)
    · try simp only [if_neg b1] at h ⊢
      replace b1 := Bool.eq_false_iff.2 b1
      exact AtV.ret Tryz.func43 tabOk ext43Ok mixed false [] tys43 [true, false, false, false] (a1 trivial (a1 b0 (a1 trivial (a1 b1 (a1 (rfl : false = false) (a1 (rfl : false = false) trivial)))))) (by kernel_rfl)
  · try simp only [if_neg b0] at h ⊢
    replace b0 := Bool.eq_false_iff.2 b0
    exact AtV.ret Tryz.func43 tabOk ext43Ok mixed false [] tys43 [false, false, false, false] (a1 trivial (a1 b0 (a1 (rfl : false = false) (a1 (rfl : false = false) (a1 (rfl : false = false) trivial))))) (by kernel_rfl)
def S43 : Am.Spec := { sig := sig43, pre := fun ⟨x0, _⟩ => P43 x0, res := fun ⟨x0, _⟩ => [⟨Ty.bool, g43_0 x0⟩], kds := kds43 }
theorem con43 : Contract Tryz.prog 43 S43 := contract_of Tryz.func43 hb43 (Nat.le_of_ble_eq_true (by kernel_rfl)) (fun ⟨x0, _⟩ h _ K q => at43 x0 h K q)
end
noncomputable section
def ext17 : Ext := [(43, S43), (44, S44)]
theorem ext17Ok : ExtOk Tryz.prog ext17 := ⟨⟨ca43, con43⟩, ⟨ca44, con44⟩, trivial⟩
noncomputable def b17 : Code := bodyOf Tryz.f17
theorem hb17 : Tryz.f17.body = some b17 := by kernel_rfl
def sig17 : List AT := [AT.v YA0]
def tys17 : List Ty := [Ty.str]
def kds17 : List RK := []
def oks17 : List AT := owns sig17
def P17 (x0 : ByteArray × Int × Int × Int × Int × Unit) : Prop := (if (!g43_0 x0) = true then True else ((P44 x0) ∧ True))
def g17_0 (x0 : ByteArray × Int × Int × Int × Int × Unit) : ByteArray := (if (!g43_0 x0) = true then ByteArray.mk #[] else g44_0 x0)
theorem at17 (x0 : ByteArray × Int × Int × Int × Int × Unit) (h : P17 x0) (K : Ctx) (q : Nat → Value) : AtV Tryz.prog 17 (PostR kds17 oks17 [⟨Ty.str, g17_0 x0⟩] [] [] q K) 6 K q [] [.code b17] (entE 0 0 sig17 (x0, ())) (entL sig17 (x0, ())) := by
  unfold P17 at h
  unfold g17_0
  by_cases b0 : (!g43_0 x0) = true
  · try simp only [if_pos b0] at h ⊢
    exact AtV.ret Tryz.func17 tabOk ext17Ok mixed false [] tys17 [true] (a1 trivial (a1 b0 trivial)) (by kernel_rfl)
  · try simp only [if_neg b0] at h ⊢
    replace b0 := Bool.eq_false_iff.2 b0
    obtain ⟨s0, h⟩ := h
    exact AtV.ret Tryz.func17 tabOk ext17Ok mixed false [] tys17 [false] (a1 trivial (a1 b0 (a1 s0 trivial))) (by kernel_rfl)
def S17 : Am.Spec := { sig := sig17, pre := fun ⟨x0, _⟩ => P17 x0, res := fun ⟨x0, _⟩ => [⟨Ty.str, g17_0 x0⟩], kds := kds17 }
theorem con17 : Contract Tryz.prog 17 S17 := contract_of Tryz.func17 hb17 (Nat.le_of_ble_eq_true (by kernel_rfl)) (fun ⟨x0, _⟩ h _ K q => at17 x0 h K q)
end
def isD (b : UInt8) : Prop := 48 ≤ b.toNat ∧ b.toNat ≤ 57
def dval : List UInt8 → Nat → Nat
  | [], n => n
  | b :: r, n => dval r (10 * n + (b.toNat - 48))
theorem dval_append : ∀ (l : List UInt8) (b : UInt8) (n : Nat), dval (l ++ [b]) n = 10 * dval l n + (b.toNat - 48)
  | [], _, _ => rfl
  | c :: r, b, n => dval_append r b _
theorem dsign_nat {a : Nat} (h : a < 10) : (UInt8.ofNat (48 + a)).toNat = 48 + a := by rw [UInt8.toNat_ofNat']; omega
theorem dec_facts (n : Nat) : (∀ b ∈ Lib.decDigits n, isD b) ∧ dval (Lib.decDigits n) 0 = n ∧ 0 < (Lib.decDigits n).length ∧ (1 ≤ n → ((Lib.decDigits n).getD 0 0).toNat ≠ 48) := by
  induction n using Nat.strongRecOn with
  | _ n ih =>
    by_cases h : n < 10
    · rw [Lib.decDigits, dif_pos h]
      have e := dsign_nat h
      refine ⟨fun b hb => ?_, ?_, by simp, fun h1 => ?_⟩
      · rw [List.mem_singleton.1 hb]; unfold isD; omega
      · show 10 * 0 + ((UInt8.ofNat (48 + n)).toNat - 48) = n; omega
      · show (UInt8.ofNat (48 + n)).toNat ≠ 48; omega
    · rw [Lib.decDigits, dif_neg h]
      obtain ⟨i1, i2, i3, i4⟩ := ih (n / 10) (by omega)
      have e := dsign_nat (a := n % 10) (by omega)
      refine ⟨fun b hb => ?_, ?_, by simp, fun h1 => ?_⟩
      · rcases List.mem_append.1 hb with hb | hb
        · exact i1 b hb
        · rw [List.mem_singleton.1 hb]; unfold isD; omega
      · rw [dval_append, i2, e]; omega
      · have i4 := i4 (by omega)
        cases hd : Lib.decDigits (n / 10) with
        | nil => rw [hd] at i3; simp at i3
        | cons c r => rw [hd] at i4; exact i4
theorem dec_len : ∀ (k n : Nat), n < 10 ^ (k + 1) → (Lib.decDigits n).length ≤ k + 1
  | 0, n, h => by rw [Lib.decDigits, dif_pos (by simpa using h)]; simp
  | k + 1, n, h => by
    rw [Lib.decDigits]
    split
    · simp
    · have := dec_len k (n / 10) (by rw [Nat.pow_succ] at h; omega)
      simp; omega
def pz : Nat → Nat → List UInt8
  | 0, _ => []
  | d + 1, n => pz d (n / 10) ++ [UInt8.ofNat (48 + n % 10)]
theorem pz_len : ∀ d n, (pz d n).length = d
  | 0, _ => rfl
  | d + 1, n => by rw [pz, List.length_append, pz_len d]; rfl
theorem pz_zero : ∀ d, pz d 0 = List.replicate d 48
  | 0 => rfl
  | d + 1 => by
    rw [pz, Nat.zero_div, pz_zero d, List.replicate_succ']
    rfl
theorem dec_zeros : ∀ (d n : Nat), 1 ≤ d → n < 10 ^ d → List.replicate (d - (Lib.decDigits n).length) 48 ++ Lib.decDigits n = pz d n
  | 0, _, h, _ => by omega
  | d + 1, n, _, h => by
    rw [pz]
    by_cases hs : n < 10
    · rw [Lib.decDigits, dif_pos hs, show n / 10 = 0 by omega, show n % 10 = n by omega, pz_zero]
      rfl
    · rw [Nat.pow_succ] at h
      have hd : 1 ≤ d := by
        rcases Nat.eq_zero_or_pos d with rfl | hd
        · simp at h; omega
        · exact hd
      have ih := dec_zeros d (n / 10) hd (by omega)
      rw [Lib.decDigits, dif_neg hs, List.length_append, List.length_singleton, Nat.add_sub_add_right, ← List.append_assoc, ih]
theorem pz_all : ∀ (d n : Nat), ∀ b ∈ pz d n, isD b
  | 0, _, b, hb => by cases hb
  | d + 1, n, b, hb => by
    rw [pz] at hb
    rcases List.mem_append.1 hb with hb | hb
    · exact pz_all d _ b hb
    · rw [List.mem_singleton.1 hb]
      have := dsign_nat (a := n % 10) (by omega)
      unfold isD
      omega
theorem pz_val : ∀ (d n : Nat), n < 10 ^ d → ∀ m, dval (pz d n) m = m * 10 ^ d + n
  | 0, n, h, m => by
    obtain rfl : n = 0 := by simpa using h
    show m = _
    simp
  | d + 1, n, h, m => by
    rw [pz, dval_append, Nat.pow_succ] at *
    rw [pz_val d (n / 10) (by omega), dsign_nat (by omega), Nat.mul_add, ← Nat.mul_assoc]
    rw [show 10 * m * 10 ^ d = m * (10 ^ d * 10) by rw [Nat.mul_comm 10 m, Nat.mul_assoc, Nat.mul_comm 10]]
    omega
theorem bvn (a : Nat) (h : a < 9223372036854775808) : (BitVec.ofInt 64 (a : Int)).toNat = a := by
  rw [BitVec.toNat_ofInt]
  omega
theorem wrn (a : Nat) (h : a < 9223372036854775808) : IntKind.wrap IntKind.i64 (a : Int) = (a : Int) := wrap_of_inR (by rw [i64_iff]; omega)
theorem bit_bound {s : Int} (h : 0 ≤ s ∧ s ≤ 65535) : 0 ≤ bit99 s ∧ bit99 s ≤ 65535 := by
  obtain ⟨a, rfl⟩ := Int.eq_ofNat_of_zero_le h.1
  unfold bit99
  have e : (a : Int) * 2 = ((a * 2 : Nat) : Int) := by omega
  have e6 : BitVec.ofInt 64 65535 = BitVec.ofInt 64 ((65535 : Nat) : Int) := rfl
  have e7 : BitVec.ofInt 64 4129 = BitVec.ofInt 64 ((4129 : Nat) : Int) := rfl
  rw [e, wrn _ (by omega), e6, e7]
  have h1 : (a * 2) &&& 65535 < 65536 := Nat.lt_of_le_of_lt Nat.and_le_right (by decide)
  have h2 : ((a * 2) &&& 65535) ^^^ 4129 < 2 ^ 16 := Nat.xor_lt_two_pow h1 (by decide)
  split
  · rw [BitVec.toNat_and, bvn (a * 2) (by omega), bvn 65535 (by omega), wrn (a * 2 &&& 65535) (by omega), BitVec.toNat_xor, bvn (a * 2 &&& 65535) (by omega), bvn 4129 (by omega), wrn (a * 2 &&& 65535 ^^^ 4129) (by omega)]
    omega
  · rename_i hc
    have hc' : ¬ ((a * 2 : Nat) : Int) > 65535 := fun hh => hc (decide_eq_true hh)
    omega
theorem bits_bound : ∀ (k : Nat) {s : Int}, 0 ≤ s ∧ s ≤ 65535 → 0 ≤ bits99 k s ∧ bits99 k s ≤ 65535
  | 0, _, h => h
  | k + 1, _, h => bits_bound k (bit_bound h)
theorem byte_bound {s c : Int} (h : 0 ≤ s ∧ s ≤ 65535) (hc : 0 ≤ c ∧ c ≤ 255) : 0 ≤ byte99 s c ∧ byte99 s c ≤ 65535 := by
  refine bits_bound 8 ?_
  obtain ⟨a, rfl⟩ := Int.eq_ofNat_of_zero_le h.1
  obtain ⟨b, rfl⟩ := Int.eq_ofNat_of_zero_le hc.1
  have e : (b : Int) * 256 = ((b * 256 : Nat) : Int) := by omega
  have h2 : a ^^^ (b * 256) < 2 ^ 16 := Nat.xor_lt_two_pow (by omega) (by omega)
  rw [e, wrn (b * 256) (by omega), BitVec.toNat_xor, bvn a (by omega), bvn (b * 256) (by omega), wrn (a ^^^ (b * 256)) (by omega)]
  omega
theorem crc_bound (x : ByteArray) {s : Int} (h : 0 ≤ s ∧ s ≤ 65535) : 0 ≤ g99_0 x s ∧ g99_0 x s ≤ 65535 := by
  unfold g99_0
  have hb := bytesOf_range x
  revert hb
  generalize bytesOf x = l
  revert s
  induction l with
  | nil => intro s h _; exact h
  | cons c r ih =>
    intro s h hb
    rw [List.foldl_cons]
    have hc := hb c (List.mem_cons_self ..)
    exact ih (byte_bound h ⟨hc.1, hc.2⟩) fun b hb' => hb b (List.mem_cons_of_mem _ hb')
theorem crc_eq (x : ByteArray) {s : Int} (h : 0 ≤ s ∧ s ≤ 65535) : g51_0 x s = g99_0 x s := by
  unfold g51_0
  rw [if_neg (by
    have c1 : s ≥ 0 := h.1
    unfold g30_0
    simp [c1, h.2])]
  have e : byte51 = byte99 := by
    funext s c
    unfold byte51 byte99
    have : ∀ (k : Nat) (t : Int), bits51 k t = bits99 k t := by
      intro k
      induction k with
      | zero => intro t; rfl
      | succ k ih => intro t; exact ih _
    exact this 8 _
  rw [e]
  rfl
theorem f5_list : ∀ (k : Nat) (l : List UInt8), l.length ≤ 5 → 5 ≤ l.length + k → f598 k ⟨⟨l⟩⟩ = ⟨⟨List.replicate (5 - l.length) 48 ++ l⟩⟩
  | 0, l, h1, h2 => by
    rw [show 5 - l.length = 0 by omega]
    rfl
  | k + 1, l, h1, h2 => by
    unfold f598
    have es : (ByteArray.mk ⟨l⟩).size = l.length := rfl
    rw [es]
    split
    · have e : ByteArray.mk #[48] ++ ByteArray.mk ⟨l⟩ = ⟨⟨48 :: l⟩⟩ := by
        apply ByteArray.ext
        apply Array.ext'
        simp [ByteArray.data_append]
      rw [e, f5_list k (48 :: l) (by simp; omega) (by simp; omega)]
      congr 2
      rw [List.length_cons, show 5 - l.length = (5 - (l.length + 1)) + 1 by omega, List.replicate_succ']
      simp
    · rw [show 5 - l.length = 0 by omega]
      rfl
theorem dec_nat (n : Nat) : g64_0 (n : Int) = ⟨⟨Lib.decDigits n⟩⟩ := by
  show numB _ = _
  unfold numB Lib.itoa
  rw [if_neg (by omega), Int.toNat_natCast]
theorem five_pz {n : Nat} (h : n ≤ 65535) : g98_0 (n : Int) = ⟨⟨pz 5 n⟩⟩ := by
  unfold g98_0
  have hl := dec_len 4 n (by omega)
  rw [dec_nat, f5_list 5 _ (by omega) (by omega), dec_zeros 5 n (by decide) (by omega)]
theorem rep_pz {n : Nat} (h : n ≤ 65535) : g52_0 (ByteArray.mk #[48]) (5 - (((g22_0 (n : Int)).size : Nat) : Int)) ++ g22_0 (n : Int) = ⟨⟨pz 5 n⟩⟩ ∧ (((g22_0 (n : Int)).size : Nat) : Int) ≤ 5 ∧ 1 ≤ (((g22_0 (n : Int)).size : Nat) : Int) := by
  have e : g22_0 (n : Int) = ⟨⟨Lib.decDigits n⟩⟩ := dec_nat n
  have hs : (ByteArray.mk ⟨Lib.decDigits n⟩).size = (Lib.decDigits n).length := rfl
  have hl := dec_len 4 n (by omega)
  have h0 := (dec_facts n).2.2.1
  rw [e, hs]
  refine ⟨?_, by omega, by omega⟩
  have hc : (5 : Int) - ((Lib.decDigits n).length : Int) = ((5 - (Lib.decDigits n).length : Nat) : Int) := by omega
  rw [hc]
  apply ByteArray.ext
  apply Array.ext'
  have hr : Lib.repeatL (List.replicate 1 48) (5 - (Lib.decDigits n).length) = List.replicate (5 - (Lib.decDigits n).length) (48 : UInt8) := by
    rw [Lib.repeatL_replicate, Nat.mul_one]
  unfold g52_0
  rw [Int.toNat_natCast, ByteArray.data_append, Array.toList_append]
  show Lib.repeatL [48] _ ++ Lib.decDigits n = _
  have h48 : ([48] : List UInt8) = List.replicate 1 48 := rfl
  rw [h48, hr, dec_zeros 5 n (by decide) (by omega)]
def crcN (r : ByteArray) : Nat := (g99_0 r 65535).toNat
theorem crcN_le (r : ByteArray) : crcN r ≤ 65535 := by
  have := crc_bound r (s := 65535) (by decide)
  unfold crcN; omega
theorem crc_s (r : ByteArray) : g99_0 r 65535 = (crcN r : Int) := by
  have := crc_bound r (s := 65535) (by decide)
  unfold crcN; omega
theorem crc_i (r : ByteArray) : g51_0 r 65535 = (crcN r : Int) := by
  rw [crc_eq r (by decide), crc_s]
def restB (b : TyB1) : List UInt8 := b.1.data.toList ++ 32 :: b.2.1.data.toList ++ 32 :: b.2.2.1.data.toList
theorem rest_eq (b : TyB1) : Prod.fst b ++ ByteArray.mk #[32] ++ Prod.fst (Prod.snd b) ++ ByteArray.mk #[32] ++ Prod.fst (Prod.snd (Prod.snd b)) = ⟨⟨restB b⟩⟩ := by
  apply ByteArray.ext
  apply Array.ext'
  simp [ByteArray.data_append, restB]
theorem line_eq (b : TyB1) : g24_0 b = ⟨⟨pz 5 (crcN ⟨⟨restB b⟩⟩) ++ 32 :: restB b⟩⟩ := by
  unfold g24_0
  rw [rest_eq, crc_i, (rep_pz (crcN_le _)).1]
  apply ByteArray.ext
  apply Array.ext'
  simp [ByteArray.data_append]
theorem rep_size {n : Nat} (h : n ≤ 65535) : (g52_0 (ByteArray.mk #[48]) (5 - (((g22_0 (n : Int)).size : Nat) : Int))).size + (g22_0 (n : Int)).size = 5 := by
  have := congrArg ByteArray.size (rep_pz h).1
  rw [ByteArray.size_append] at this
  have e : (ByteArray.mk ⟨pz 5 n⟩).size = (pz 5 n).length := rfl
  rw [e, pz_len] at this
  exact this
theorem line_pre (b : TyB1) (h1 : b.1.size ≤ 1048576) (h2 : b.2.1.size ≤ 1048576) (h3 : b.2.2.1.size ≤ 1048576) : P24 b := by
  unfold P24
  have e : g51_0 (Prod.fst b ++ ByteArray.mk #[32] ++ Prod.fst (Prod.snd b) ++ ByteArray.mk #[32] ++ Prod.fst (Prod.snd (Prod.snd b))) 65535 = (crcN ⟨⟨restB b⟩⟩ : Int) := by rw [rest_eq, crc_i]
  rw [e]
  have hn := crcN_le ⟨⟨restB b⟩⟩
  generalize crcN ⟨⟨restB b⟩⟩ = n at *
  have r := rep_size hn
  obtain ⟨_, r2, r3⟩ := rep_pz hn
  have i32 : (ByteArray.mk #[32]).size = 1 := rfl
  have i48 : (((ByteArray.mk #[48]).size : Nat) : Int) = 1 := rfl
  simp only [ByteArray.size_append, i32]
  refine ⟨by omega, by omega, by omega, by omega, ⟨rfl, trivial⟩, by rw [i64_iff]; omega, ⟨by omega, by rw [i48]; omega⟩, by omega, by omega, by omega, trivial⟩
theorem line_size (b : TyB1) : (g24_0 b).size = b.1.size + b.2.1.size + b.2.2.1.size + 8 := by
  rw [line_eq]
  have e : (ByteArray.mk ⟨pz 5 (crcN ⟨⟨restB b⟩⟩) ++ 32 :: restB b⟩).size = (pz 5 (crcN ⟨⟨restB b⟩⟩) ++ 32 :: restB b).length := rfl
  have e1 : b.1.data.toList.length = b.1.size := rfl
  have e2 : b.2.1.data.toList.length = b.2.1.size := rfl
  have e3 : b.2.2.1.data.toList.length = b.2.2.1.size := rfl
  rw [e]
  unfold restB
  simp only [List.length_append, List.length_cons, pz_len, e1, e2, e3]
  omega
theorem line_both (b : TyB1) : g65_0 b = g24_0 b ++ ByteArray.mk #[10] := by
  rw [line_eq]
  unfold g65_0
  rw [rest_eq, crc_s, five_pz (crcN_le _)]
  apply ByteArray.ext
  apply Array.ext'
  simp [ByteArray.data_append]
theorem line_spre (b : TyB1) (h1 : b.1.size ≤ 1048576) (h2 : b.2.1.size ≤ 1048576) (h3 : b.2.2.1.size ≤ 1048576) : P65 b := by
  unfold P65
  rw [rest_eq, crc_s, five_pz (crcN_le _)]
  have i32 : (ByteArray.mk #[32]).size = 1 := rfl
  have i10 : (ByteArray.mk #[10]).size = 1 := rfl
  have s5 : (ByteArray.mk ⟨pz 5 (crcN ⟨⟨restB b⟩⟩)⟩).size = 5 := by
    show (pz 5 _).length = 5
    rw [pz_len]
  have sr : (ByteArray.mk ⟨restB b⟩).size = b.1.size + b.2.1.size + b.2.2.1.size + 2 := by
    have e1 : b.1.data.toList.length = b.1.size := rfl
    have e2 : b.2.1.data.toList.length = b.2.1.size := rfl
    have e3 : b.2.2.1.data.toList.length = b.2.2.1.size := rfl
    show (restB b).length = _
    unfold restB
    simp only [List.length_append, List.length_cons, e1, e2, e3]
    omega
  simp only [ByteArray.size_append, i32, s5, sr]
  exact ⟨by omega, by omega, by omega, by omega, by omega, by omega, by omega, trivial⟩
theorem name_eq (s : ByteArray) : g80_0 s = g70_0 s := by
  have hs : ∀ c, g108_0 c = (decide (97 ≤ c) && decide (c ≤ 122)) := fun c => by
    unfold g108_0
    by_cases h1 : (97 : Int) ≤ c <;> simp [h1]
  have hd : ∀ c, g109_0 c = (decide (48 ≤ c) && decide (c ≤ 57)) := fun c => by
    unfold g109_0
    by_cases h1 : (48 : Int) ≤ c <;> simp [h1]
  unfold g80_0 g70_0
  have hl := bytesOf_length s
  by_cases h1 : 1 ≤ s.size
  · cases hb : bytesOf s with
    | nil => rw [hb] at hl; simp at hl; omega
    | cons c r =>
      have hr : allI ok80 1 r = r.all fun b => g108_0 b || g109_0 b := by
        rw [← allI_plain (fun b => g108_0 b || g109_0 b) r 1]
        refine allI_congr r 1 fun j x hj => ?_
        have : (j == 0) = false := by simp; omega
        simp only [ok80, this, hs, hd, Bool.not_false, Bool.true_and]
      have h0 : ok80 0 c = g108_0 c := by simp [ok80, hs]
      simp only [allI, hr, h0, List.all_cons, List.getD_cons_zero]
      cases g108_0 c <;> simp
  · simp [h1]
theorem index_one (c : UInt8) : ∀ s : List UInt8, Lib.index s [c] = Lib.indexByte s c
  | [] => rfl
  | b :: l => by
    have e : (List.isPrefixOf [c] (b :: l)) = (b == c) := by
      simp only [List.isPrefixOf, Bool.and_true]
      exact Bool.beq_comm
    rw [Lib.index, Lib.indexByte, index_one c l, e]
theorem contains_one (s : List UInt8) (c : UInt8) : Lib.contains s [c] = s.contains c := by
  rw [Lib.contains_iff_indexByte, Lib.contains, index_one]
theorem contains_nl (s : ByteArray) : (!g81_0 s (ByteArray.mk #[10])) = (bytesOf s).all fun b => !(b == 10) := by
  unfold g81_0
  rw [show (ByteArray.mk #[10]).data.toList = [10] from rfl, contains_one]
  show (!s.data.toList.contains 10) = ((s.data.toList.map fun b => (b.toNat : Int)).all fun b => !(b == 10))
  induction s.data.toList with
  | nil => rfl
  | cons c r ih =>
    rw [List.contains_cons, Bool.not_or, ih, List.map_cons, List.all_cons]
    congr 2
    by_cases h : c = 10
    · subst h; rfl
    · have h1 : ((10 : UInt8) == c) = false := by simp; exact fun e => h e.symm
      have h2 : ((c.toNat : Int) == 10) = false := by
        rw [beq_eq_false_iff_ne]
        intro e
        exact h (UInt8.toNat_inj.1 (by show c.toNat = 10; omega))
      rw [h1, h2]
theorem block_eq (x : ByteArray × ByteArray × ByteArray × Unit) : g48_0 x = g62_0 x := by
  obtain ⟨a, b, t, u⟩ := x
  unfold g48_0 g62_0
  simp only [name_eq, ← contains_nl]
  have hc : decide ((t.size : Int) ≤ 400) = decide (t.size ≤ 400) := by
    congr 1; exact propext ⟨fun h => by omega, fun h => by omega⟩
  rw [hc]
  cases g70_0 a <;> cases g70_0 b <;> cases decide (t.size ≤ 400) <;> cases g81_0 t (ByteArray.mk #[10]) <;> rfl
theorem bit_val (a : Nat) (ha : a ≤ 65535) : bit99 (a : Int) = if a * 2 > 65535 then (((a * 2 - 65536) ^^^ 4129 : Nat) : Int) else ((a * 2 : Nat) : Int) := by
  unfold bit99
  have e : (a : Int) * 2 = ((a * 2 : Nat) : Int) := by omega
  have e6 : BitVec.ofInt 64 65535 = BitVec.ofInt 64 ((65535 : Nat) : Int) := rfl
  have e7 : BitVec.ofInt 64 4129 = BitVec.ofInt 64 ((4129 : Nat) : Int) := rfl
  rw [e, wrn _ (by omega), e6, e7]
  have hm : (a * 2) &&& 65535 = (a * 2) % 65536 := Nat.and_two_pow_sub_one_eq_mod (a * 2) 16
  have h1 : (a * 2) &&& 65535 < 65536 := Nat.lt_of_le_of_lt Nat.and_le_right (by decide)
  have h2 : ((a * 2) &&& 65535) ^^^ 4129 < 2 ^ 16 := Nat.xor_lt_two_pow h1 (by decide)
  by_cases hc : a * 2 > 65535
  · rw [if_pos hc, if_pos (decide_eq_true (by omega))]
    rw [BitVec.toNat_and, bvn (a * 2) (by omega), bvn 65535 (by omega), wrn (a * 2 &&& 65535) (by omega), BitVec.toNat_xor, bvn (a * 2 &&& 65535) (by omega), bvn 4129 (by omega), wrn (a * 2 &&& 65535 ^^^ 4129) (by omega), hm]
    have : a * 2 % 65536 = a * 2 - 65536 := by omega
    rw [this]
  · rw [if_neg hc, if_neg (by simp only [decide_eq_true_eq]; omega)]
theorem xor_same {a b k : Nat} (h : a ^^^ k = b ^^^ k) : a = b := by
  have := congrArg (fun x => x ^^^ k) h
  simpa [Nat.xor_assoc] using this
theorem bit_injN {a b : Nat} (ha : a ≤ 65535) (hb : b ≤ 65535) (h : bit99 (a : Int) = bit99 (b : Int)) : a = b := by
  rw [bit_val a ha, bit_val b hb] at h
  have odd : ∀ x y : Nat, (2 * x) ^^^ 4129 ≠ 2 * y := fun x y e => by
    have := congrArg (fun z => z.testBit 0) e
    simp [Nat.testBit_xor] at this
  by_cases h1 : a * 2 > 65535 <;> by_cases h2 : b * 2 > 65535
  · rw [if_pos h1, if_pos h2] at h
    have := xor_same (Int.ofNat.inj h)
    omega
  · rw [if_pos h1, if_neg h2] at h
    have h := Int.ofNat.inj h
    exact absurd (show (2 * (a - 32768)) ^^^ 4129 = 2 * b by rw [show 2 * (a - 32768) = a * 2 - 65536 by omega, h]; omega) (odd _ _)
  · rw [if_neg h1, if_pos h2] at h
    have h := Int.ofNat.inj h
    exact absurd (show (2 * (b - 32768)) ^^^ 4129 = 2 * a by rw [show 2 * (b - 32768) = b * 2 - 65536 by omega, ← h]; omega) (odd _ _)
  · rw [if_neg h1, if_neg h2] at h
    have := Int.ofNat.inj h
    omega
theorem bit_inj {s t : Int} (hs : 0 ≤ s ∧ s ≤ 65535) (ht : 0 ≤ t ∧ t ≤ 65535) (h : bit99 s = bit99 t) : s = t := by
  obtain ⟨a, rfl⟩ := Int.eq_ofNat_of_zero_le hs.1
  obtain ⟨b, rfl⟩ := Int.eq_ofNat_of_zero_le ht.1
  rw [bit_injN (by omega) (by omega) h]
theorem bits_inj : ∀ (k : Nat) {s t : Int}, 0 ≤ s ∧ s ≤ 65535 → 0 ≤ t ∧ t ≤ 65535 → bits99 k s = bits99 k t → s = t
  | 0, _, _, _, _, h => h
  | k + 1, _, _, hs, ht, h => bit_inj hs ht (bits_inj k (bit_bound hs) (bit_bound ht) h)
theorem byte_val (a b : Nat) (ha : a ≤ 65535) (hb : b ≤ 255) : byte99 (a : Int) (b : Int) = bits99 8 ((a ^^^ (b * 256) : Nat) : Int) ∧ a ^^^ (b * 256) ≤ 65535 := by
  have e : (b : Int) * 256 = ((b * 256 : Nat) : Int) := by omega
  have h2 : a ^^^ (b * 256) < 2 ^ 16 := Nat.xor_lt_two_pow (by omega) (by omega)
  unfold byte99
  rw [e, wrn (b * 256) (by omega), BitVec.toNat_xor, bvn a (by omega), bvn (b * 256) (by omega), wrn (a ^^^ (b * 256)) (by omega)]
  exact ⟨rfl, by omega⟩
theorem byte_inj {a c b d : Nat} (ha : a ≤ 65535) (hc : c ≤ 65535) (hb : b ≤ 255) (hd : d ≤ 255) (h : byte99 (a : Int) (b : Int) = byte99 (c : Int) (d : Int)) : a ^^^ (b * 256) = c ^^^ (d * 256) := by
  obtain ⟨e1, l1⟩ := byte_val a b ha hb
  obtain ⟨e2, l2⟩ := byte_val c d hc hd
  rw [e1, e2] at h
  have h3 := bits_inj 8 (s := ((a ^^^ (b * 256) : Nat) : Int)) (t := ((c ^^^ (d * 256) : Nat) : Int)) ⟨by omega, by omega⟩ ⟨by omega, by omega⟩ h
  omega
theorem fold_inj : ∀ (l : List UInt8) {s t : Int}, 0 ≤ s ∧ s ≤ 65535 → 0 ≤ t ∧ t ≤ 65535 → (l.map fun b => (b.toNat : Int)).foldl byte99 s = (l.map fun b => (b.toNat : Int)).foldl byte99 t → s = t
  | [], _, _, _, _, h => h
  | b :: r, s, t, hs, ht, h => by
    have hb : b.toNat ≤ 255 := by have := b.toNat_lt; omega
    rw [List.map_cons, List.foldl_cons, List.foldl_cons] at h
    have h1 := fold_inj r (byte_bound hs ⟨by omega, by omega⟩) (byte_bound ht ⟨by omega, by omega⟩) h
    obtain ⟨a, rfl⟩ := Int.eq_ofNat_of_zero_le hs.1
    obtain ⟨c, rfl⟩ := Int.eq_ofNat_of_zero_le ht.1
    rw [xor_same (byte_inj (by omega) (by omega) hb hb h1)]
theorem crc_change (l1 l2 : List UInt8) (x y : UInt8) (h : g99_0 ⟨⟨l1 ++ x :: l2⟩⟩ 65535 = g99_0 ⟨⟨l1 ++ y :: l2⟩⟩ 65535) : x = y := by
  have hx : x.toNat ≤ 255 := by have := x.toNat_lt; omega
  have hy : y.toNat ≤ 255 := by have := y.toNat_lt; omega
  unfold g99_0 at h
  have e : ∀ z : UInt8, bytesOf ⟨⟨l1 ++ z :: l2⟩⟩ = l1.map (fun b => (b.toNat : Int)) ++ (z.toNat : Int) :: l2.map (fun b => (b.toNat : Int)) := fun z => by
    show (l1 ++ z :: l2).map _ = _
    rw [List.map_append, List.map_cons]
  rw [e, e, List.foldl_append, List.foldl_append, List.foldl_cons, List.foldl_cons] at h
  have hs := crc_bound ⟨⟨l1⟩⟩ (s := 65535) (by decide)
  have es : g99_0 ⟨⟨l1⟩⟩ 65535 = (l1.map (fun b => (b.toNat : Int))).foldl byte99 65535 := rfl
  rw [es] at hs
  generalize (l1.map (fun b => (b.toNat : Int))).foldl byte99 65535 = s at h hs
  have h1 := fold_inj l2 (byte_bound hs ⟨by omega, by omega⟩) (byte_bound hs ⟨by omega, by omega⟩) h
  obtain ⟨a, rfl⟩ := Int.eq_ofNat_of_zero_le hs.1
  have h2 := byte_inj (by omega) (by omega) hx hy h1
  rw [Nat.xor_comm a, Nat.xor_comm a] at h2
  have := xor_same h2
  exact UInt8.toNat_inj.1 (by omega)
theorem cut_at {p : List UInt8} (q : List UInt8) (h : (32 : UInt8) ∉ p) : g58_0 ⟨⟨p ++ 32 :: q⟩⟩ (ByteArray.mk #[32]) = ⟨⟨p⟩⟩ ∧ g58_1 ⟨⟨p ++ 32 :: q⟩⟩ (ByteArray.mk #[32]) = ⟨⟨q⟩⟩ := by
  have hc : Lib.cut (ByteArray.mk ⟨p ++ 32 :: q⟩).data.toList (ByteArray.mk #[32]).data.toList = (p, q, true) := cut_hit 32 q h
  unfold g58_0 g58_1
  rw [hc]
  exact ⟨rfl, rfl⟩
theorem ext_of (l : List UInt8) (a b : Nat) : ByteArray.extract ⟨⟨l⟩⟩ a b = ⟨⟨(l.drop a).take (b - a)⟩⟩ := Lib.extract_mk l a b
theorem ifT2 {c : Prop} [Decidable c] {Q : Prop} (h : ¬ c → Q) : if c then True else Q := by
  by_cases hc : c
  · rw [if_pos hc]; trivial
  · rw [if_neg hc]; exact h hc
theorem cut_size (t s : ByteArray) : (g58_0 t s).size ≤ t.size ∧ (g58_1 t s).size ≤ t.size := by
  obtain ⟨l1, l2⟩ := cutLen58 t.data.toList s.data.toList
  have e : t.data.toList.length = t.size := rfl
  have a1 : (g58_0 t s).size = (Lib.cut t.data.toList s.data.toList).1.length := by
    show (List.toArray _).size = _
    rw [List.size_toArray]
  have a2 : (g58_1 t s).size = (Lib.cut t.data.toList s.data.toList).2.1.length := by
    show (List.toArray _).size = _
    rw [List.size_toArray]
  omega
theorem parse_pre (x : ByteArray) (h : x.size ≤ 1048576) : P31 x := by
  unfold P31
  refine ifT2 fun h1 => ?_
  have h1' : ¬ (x.size : Int) < 6 := fun hh => h1 (decide_eq_true hh)
  have hr : (ByteArray.extract x 6 (Int.toNat ((x.size : Nat) : Int))).size ≤ 1048576 := by rw [ByteArray.size_extract]; omega
  generalize ByteArray.extract x 6 (Int.toNat ((x.size : Nat) : Int)) = rs at *
  obtain ⟨k1, k2⟩ := cut_size rs (ByteArray.mk #[32])
  obtain ⟨k3, k4⟩ := cut_size (g58_1 rs (ByteArray.mk #[32])) (ByteArray.mk #[32])
  rw [crc_i]
  have hn := crcN_le rs
  generalize crcN rs = n at *
  have r := rep_size hn
  obtain ⟨_, r2, r3⟩ := rep_pz hn
  have i48 : (((ByteArray.mk #[48]).size : Nat) : Int) = 1 := rfl
  refine ⟨by omega, ifT2 fun _ => ⟨by omega, (show rs.size < 4294967281 by omega), (show (g58_1 rs (ByteArray.mk #[32])).size < 4294967281 by omega), by omega, ⟨rfl, trivial⟩, by omega, by rw [i64_iff]; omega, ⟨by omega, by rw [i48]; omega⟩, by omega, ifT2 fun _ => ⟨pre48 _, ifT2 fun _ => ⟨line_pre _ (by show (g58_0 rs (ByteArray.mk #[32])).size ≤ _; omega) (by show (g58_0 (g58_1 rs (ByteArray.mk #[32])) (ByteArray.mk #[32])).size ≤ _; omega) (by show (g58_1 (g58_1 rs (ByteArray.mk #[32])) (ByteArray.mk #[32])).size ≤ _; omega), trivial⟩⟩⟩⟩
theorem pz_inj {m n : Nat} (hm : m ≤ 65535) (hn : n ≤ 65535) (h : pz 5 m = pz 5 n) : m = n := by
  have a := pz_val 5 m (by omega) 0
  have b := pz_val 5 n (by omega) 0
  rw [h, b] at a
  omega
theorem name_free {x : ByteArray} (h : g70_0 x = true) {c : UInt8} (hc : c.toNat < 48) : c ∉ x.data.toList := fun hm => by
  unfold g70_0 at h
  rw [Bool.and_eq_true] at h
  have := List.all_eq_true.1 h.2 (c.toNat : Int) (List.mem_map.2 ⟨c, hm, rfl⟩)
  unfold g108_0 g109_0 at this
  rw [if_neg (by simp only [decide_eq_true_eq]; omega), if_neg (by simp only [decide_eq_true_eq]; omega)] at this
  cases this
theorem name_size {x : ByteArray} (h : g70_0 x = true) : x.size ≤ 10 := by
  unfold g70_0 at h
  simp only [Bool.and_eq_true, decide_eq_true_eq] at h
  omega
theorem one_parts {b : TyB1} (h : g62_0 b = true) : (g70_0 b.1 = true ∧ g70_0 b.2.1 = true) ∧ (10 : UInt8) ∉ b.2.2.1.data.toList ∧ b.2.2.1.size ≤ 400 := by
  unfold g62_0 at h
  simp only [Bool.and_eq_true, decide_eq_true_eq] at h
  obtain ⟨⟨⟨h1, h2⟩, h3⟩, h4⟩ := h
  refine ⟨⟨h2, h3⟩, fun hm => ?_, h4⟩
  have := List.all_eq_true.1 h1 10 (List.mem_map.2 ⟨10, hm, rfl⟩)
  cases this
def lineL (b : TyB1) : List UInt8 := pz 5 (crcN ⟨⟨restB b⟩⟩) ++ 32 :: restB b
theorem line_mk (b : TyB1) : g24_0 b = ⟨⟨lineL b⟩⟩ := line_eq b
theorem lineL_len (b : TyB1) : (lineL b).length = 6 + (restB b).length := by
  unfold lineL
  rw [List.length_append, pz_len, List.length_cons]
  omega
theorem line_free {b : TyB1} (h : g62_0 b = true) : (10 : UInt8) ∉ lineL b := by
  obtain ⟨⟨h1, h2⟩, h3, _⟩ := one_parts h
  have a1 := name_free h1 (c := 10) (by decide)
  have a2 := name_free h2 (c := 10) (by decide)
  intro hm
  unfold lineL restB at hm
  simp only [List.mem_append, List.mem_cons] at hm
  have hz : (10 : UInt8) ∉ pz 5 (crcN ⟨⟨restB b⟩⟩) := fun hm => by
    have := pz_all _ _ _ hm
    unfold isD at this
    exact absurd this.1 (by decide)
  have h32 : ¬ (10 : UInt8) = 32 := by decide
  unfold restB at hz
  simp only [h32, false_or] at hm
  rcases hm with hm | hm | hm
  · exact hz hm
  · rcases hm with hm | hm
    · exact a1 hm
    · exact a2 hm
  · exact h3 hm
theorem head_parts {l r : List UInt8} (hl : l.length = 5) : ByteArray.extract ⟨⟨l ++ 32 :: r⟩⟩ 6 (l ++ 32 :: r).length = ⟨⟨r⟩⟩ ∧ ByteArray.extract ⟨⟨l ++ 32 :: r⟩⟩ 0 5 = ⟨⟨l⟩⟩ ∧ (l ++ 32 :: r).getD 5 0 = 32 := by
  refine ⟨?_, ?_, ?_⟩
  · rw [ext_of, show l ++ 32 :: r = (l ++ [32]) ++ r by simp, List.drop_left' (by simp [hl])]
    congr 2
    exact List.take_of_length_le (by simp; omega)
  · rw [ext_of, List.drop_zero, List.take_left' (by omega)]
  · rw [List.getD_eq_getElem?_getD, List.getElem?_append_right (by omega), hl]
    rfl
theorem read_line {b : TyB1} (h : g62_0 b = true) : g31_0 ⟨⟨lineL b⟩⟩ = b ∧ g31_1 ⟨⟨lineL b⟩⟩ = 0 := by
  obtain ⟨⟨h1, h2⟩, h3, _⟩ := one_parts h
  have a1 := name_free h1 (c := 32) (by decide)
  have a2 := name_free h2 (c := 32) (by decide)
  have hn := crcN_le ⟨⟨restB b⟩⟩
  obtain ⟨e6, e0, e5⟩ := head_parts (r := restB b) (pz_len 5 (crcN ⟨⟨restB b⟩⟩))
  have hs : (ByteArray.mk ⟨lineL b⟩).size = (lineL b).length := rfl
  have hlen := lineL_len b
  have e6' : ByteArray.extract ⟨⟨lineL b⟩⟩ 6 (lineL b).length = ⟨⟨restB b⟩⟩ := e6
  have e0' : ByteArray.extract ⟨⟨lineL b⟩⟩ 0 5 = ⟨⟨pz 5 (crcN ⟨⟨restB b⟩⟩)⟩⟩ := e0
  have e5' : (lineL b).getD 5 0 = 32 := e5
  have hd : (ByteArray.mk ⟨lineL b⟩).data.toList = lineL b := rfl
  have hb : restB b = b.1.data.toList ++ 32 :: (b.2.1.data.toList ++ 32 :: b.2.2.1.data.toList) := by simp [restB]
  have k := cut_at (b.2.1.data.toList ++ 32 :: b.2.2.1.data.toList) a1
  rw [← hb] at k
  have k2 := cut_at b.2.2.1.data.toList a2
  have c1 : decide (((lineL b).length : Int) < 6) = false := decide_eq_false (by omega)
  have c2 : ((((32 : UInt8).toNat : Nat) : Int) != 32) = false := rfl
  have hbb : ((⟨⟨b.1.data.toList⟩⟩, ⟨⟨b.2.1.data.toList⟩⟩, ⟨⟨b.2.2.1.data.toList⟩⟩, ()) : TyB1) = b := rfl
  unfold g31_0 g31_1
  simp only [hs, Int.toNat_natCast, hd, e6', e0', e5', c1, c2, crc_i, (rep_pz hn).1, k.1, k.2, k2.1, k2.2, hbb, block_eq, h, line_mk, Bool.false_eq_true, if_false, beq_self_eq_true, Bool.not_true, and_self]
theorem read_ok {x : List UInt8} (h : g31_1 ⟨⟨x⟩⟩ = 0) : ∃ r, x = pz 5 (crcN ⟨⟨r⟩⟩) ++ 32 :: r := by
  have hs : (ByteArray.mk ⟨x⟩).size = x.length := rfl
  have hd : (ByteArray.mk ⟨x⟩).data.toList = x := rfl
  unfold g31_1 at h
  rw [hs, hd, Int.toNat_natCast] at h
  by_cases h1 : x.length < 6
  · rw [if_pos (decide_eq_true (by omega))] at h; exact absurd h (by decide)
  rw [if_neg (by simp only [decide_eq_true_eq]; omega)] at h
  by_cases h2 : ((((x.getD 5 0).toNat : Nat) : Int) != 32) = true
  · rw [if_pos h2] at h; exact absurd h (by decide)
  rw [if_neg h2] at h
  have h2' : x.getD 5 0 = 32 := by
    simp only [bne_iff_ne, ne_eq, Decidable.not_not] at h2
    exact UInt8.toNat_inj.1 (by show (x.getD 5 0).toNat = 32; omega)
  have e6 : ByteArray.extract ⟨⟨x⟩⟩ 6 x.length = ⟨⟨x.drop 6⟩⟩ := by
    rw [ext_of, List.take_of_length_le (by rw [List.length_drop]; omega)]
  rw [e6, crc_i, (rep_pz (crcN_le _)).1, ext_of, List.drop_zero] at h
  by_cases h3 : (!ByteArray.toList (ByteArray.mk ⟨x.take (5 - 0)⟩) == ByteArray.toList ⟨⟨pz 5 (crcN ⟨⟨x.drop 6⟩⟩)⟩⟩) = true
  · rw [if_pos h3] at h; exact absurd h (by decide)
  have h3' : (ByteArray.mk ⟨x.take (5 - 0)⟩) = ⟨⟨pz 5 (crcN ⟨⟨x.drop 6⟩⟩)⟩⟩ := by
    rw [Bool.not_eq_true, Bool.not_eq_false'] at h3
    exact (bytes_eq _ _).1 h3
  have h3'' : x.take 5 = pz 5 (crcN ⟨⟨x.drop 6⟩⟩) := congrArg (fun y : ByteArray => y.data.toList) h3'
  refine ⟨x.drop 6, ?_⟩
  have e : x.drop 5 = 32 :: x.drop 6 := by
    have e := drop_get x 5 0 (by omega)
    rw [h2'] at e
    exact e
  rw [← h3'', ← e, List.take_append_drop]
theorem change_bad (b : TyB1) (p : Nat) (v : UInt8) (hp : p < (lineL b).length) (hv : v ≠ (lineL b).getD p 0) : g31_1 ⟨⟨(lineL b).set p v⟩⟩ ≠ 0 := fun h => by
  obtain ⟨r, hr⟩ := read_ok h
  have hl := pz_len 5 (crcN ⟨⟨restB b⟩⟩)
  have hl2 := pz_len 5 (crcN ⟨⟨r⟩⟩)
  have hlen := lineL_len b
  have hg : ((lineL b).set p v).getD p 0 = v := by
    rw [List.getD_eq_getElem?_getD, List.getElem?_set_self hp]; rfl
  unfold lineL at hr hv
  by_cases h1 : p < 5
  · rw [List.set_append_left _ _ (by omega)] at hr
    obtain ⟨e1, e2⟩ := List.append_inj hr (by rw [List.length_set, hl, hl2])
    have e2 : restB b = r := (List.cons.inj e2).2
    rw [← e2] at e1
    apply hv
    rw [List.getD_eq_getElem?_getD, List.getElem?_append_left (by omega), ← List.getD_eq_getElem?_getD]
    rw [← e1, List.getD_eq_getElem?_getD, List.getElem?_set_self (by omega)]
    rfl
  · rw [List.set_append_right _ _ (by omega), hl] at hr
    obtain ⟨e1, e2⟩ := List.append_inj hr (by rw [hl, hl2])
    by_cases h2 : p = 5
    · subst h2
      have e2 : v :: restB b = 32 :: r := e2
      apply hv
      rw [(List.cons.inj e2).1, List.getD_eq_getElem?_getD, List.getElem?_append_right (by omega), hl]
      rfl
    · have e3 : p - 5 = (p - 6) + 1 := by omega
      rw [e3, List.set_cons_succ] at e2
      have e2 : (restB b).set (p - 6) v = r := (List.cons.inj e2).2
      have e4 := pz_inj (crcN_le _) (crcN_le _) e1
      have hq : p - 6 < (restB b).length := by omega
      have s1 : restB b = (restB b).take (p - 6) ++ (restB b).getD (p - 6) 0 :: (restB b).drop (p - 6 + 1) := by
        rw [← drop_get _ _ _ hq, List.take_append_drop]
      have s2 : r = (restB b).take (p - 6) ++ v :: (restB b).drop (p - 6 + 1) := by
        rw [← e2, List.set_eq_take_append_cons_drop, if_pos hq]
      have := crc_change ((restB b).take (p - 6)) ((restB b).drop (p - 6 + 1)) ((restB b).getD (p - 6) 0) v (by
        have e7 : g99_0 ⟨⟨restB b⟩⟩ 65535 = g99_0 ⟨⟨r⟩⟩ 65535 := by rw [crc_s, crc_s, e4]
        rw [← s1, ← s2]
        exact e7)
      apply hv
      rw [← this, List.getD_eq_getElem?_getD, List.getD_eq_getElem?_getD, List.getElem?_append_right (by omega), hl, e3]
      rfl
theorem getD_left {α : Type} (a b : List α) (i : Nat) (d : α) (h : i < a.length) : (a ++ b).getD i d = a.getD i d := by
  rw [List.getD_eq_getElem?_getD, List.getD_eq_getElem?_getD, List.getElem?_append_left h]
theorem getD_right {α : Type} (a b : List α) (i : Nat) (d : α) (h : a.length ≤ i) : (a ++ b).getD i d = b.getD (i - a.length) d := by
  rw [List.getD_eq_getElem?_getD, List.getD_eq_getElem?_getD, List.getElem?_append_right h]
def enc : List (List UInt8) → List UInt8
  | [] => []
  | l :: r => l ++ 10 :: enc r
theorem split_enc : ∀ (ls : List (List UInt8)), (∀ l ∈ ls, (10 : UInt8) ∉ l) → splitC 10 (enc ls) = ls ++ [[]]
  | [], _ => rfl
  | l :: r, h => by
    rw [enc, splitC_hit 10 (enc r) (h l (List.mem_cons_self ..)), split_enc r fun m hm => h m (List.mem_cons_of_mem _ hm)]
    rfl
theorem count_free {l : List UInt8} (h : (10 : UInt8) ∉ l) : l.count 10 = 0 := List.count_eq_zero.2 h
theorem enc_at : ∀ (ls : List (List UInt8)) (i : Nat) (v : UInt8), (∀ l ∈ ls, (10 : UInt8) ∉ l) → i < (enc ls).length → (enc ls).getD i 0 ≠ 10 →
    ∃ j p, j < ls.length ∧ p < (ls.getD j []).length ∧ (enc ls).getD i 0 = (ls.getD j []).getD p 0 ∧ (enc ls).set i v = enc (ls.set j ((ls.getD j []).set p v)) ∧ ((enc ls).take i).count 10 = j
  | [], i, v, _, h, _ => by simp [enc] at h
  | l :: r, i, v, hf, h, hn => by
    have hl := hf l (List.mem_cons_self ..)
    by_cases h1 : i < l.length
    · refine ⟨0, i, by simp, by simpa using h1, ?_, ?_, ?_⟩
      · show (l ++ 10 :: enc r).getD i 0 = l.getD i 0
        rw [getD_left _ _ _ _ h1]
      · show (l ++ 10 :: enc r).set i v = l.set i v ++ 10 :: enc r
        rw [List.set_append_left _ _ h1]
      · show ((l ++ 10 :: enc r).take i).count 10 = 0
        rw [List.take_append_of_le_length (by omega)]
        exact count_free fun hm => hl (List.mem_of_mem_take hm)
    · by_cases h2 : i = l.length
      · subst h2
        exfalso
        apply hn
        show (l ++ 10 :: enc r).getD l.length 0 = 10
        rw [getD_right _ _ _ _ (Nat.le_refl _), Nat.sub_self]
        rfl
      · have h3 : i - l.length - 1 < (enc r).length := by
          simp only [enc, List.length_append, List.length_cons] at h
          omega
        have e1 : i - l.length = (i - l.length - 1) + 1 := by omega
        have eg : (enc (l :: r)).getD i 0 = (enc r).getD (i - l.length - 1) 0 := by
          show (l ++ 10 :: enc r).getD i 0 = _
          rw [getD_right _ _ _ _ (by omega), e1]
          rfl
        obtain ⟨j, p, a1, a2, a3, a4, a5⟩ := enc_at r (i - l.length - 1) v (fun m hm => hf m (List.mem_cons_of_mem _ hm)) h3 (by rw [← eg]; exact hn)
        refine ⟨j + 1, p, by simpa using a1, by simpa using a2, by rw [eg, a3]; rfl, ?_, ?_⟩
        · show (l ++ 10 :: enc r).set i v = l ++ 10 :: enc (r.set j ((r.getD j []).set p v))
          rw [List.set_append_right _ _ (by omega), e1, List.set_cons_succ, a4]
        · show ((l ++ 10 :: enc r).take i).count 10 = j + 1
          rw [List.take_append, e1, List.take_succ_cons, List.take_of_length_le (by omega), List.count_append, count_free hl, List.count_cons_self, a5]
          omega
theorem nan (s : ByteArray) : g94_0 s = false := by simp [g94_0]
theorem cmp_str (a b : ByteArray) : g60_0 a b = if Op.bytesLess (ByteArray.toList a) (ByteArray.toList b) = true then -1 else if (ByteArray.toList a == ByteArray.toList b) = true then 0 else 1 := by
  unfold g60_0
  simp only [nan, Bool.false_eq_true, if_false]
  cases Op.bytesLess (ByteArray.toList a) (ByteArray.toList b) <;> cases (ByteArray.toList a == ByteArray.toList b) <;> rfl
theorem before_cmp (a b : ByteArray × ByteArray × ByteArray × Unit) : (!decide (g32_0 a b ≥ 0)) = g63_0 a b := by
  unfold g32_0 g63_0
  simp only [g59_0, cmp_str]
  cases Op.bytesLess (ByteArray.toList a.1) (ByteArray.toList b.1) <;> cases (ByteArray.toList a.1 == ByteArray.toList b.1) <;> cases Op.bytesLess (ByteArray.toList a.2.1) (ByteArray.toList b.2.1) <;> cases (ByteArray.toList a.2.1 == ByteArray.toList b.2.1) <;> decide
theorem blocks_eq (x : List TyB1) : g20_0 x = g37_0 x := by
  unfold g20_0 g37_0
  congr 1
  refine allI_congr x 0 fun j y _ => ?_
  unfold ok20 ok37
  rw [block_eq, before_cmp]
theorem cmp_lt (a b : TyB1) : decide (g32_0 a b < 0) = g63_0 a b := by
  rw [← before_cmp]
  by_cases h : g32_0 a b < 0
  · have : ¬ g32_0 a b ≥ 0 := by omega
    simp [h]
  · have : g32_0 a b ≥ 0 := by omega
    simp [h, this]
theorem cmp_eq (a b : TyB1) : (g32_0 a b == 0) = true ↔ twins a b := by
  unfold twins g32_0
  simp only [g59_0, cmp_str]
  rw [← bytes_eq, ← bytes_eq]
  have irr : ∀ s t : ByteArray, (ByteArray.toList s == ByteArray.toList t) = true → Op.bytesLess (ByteArray.toList s) (ByteArray.toList t) = false := fun s t h => by
    rw [(bytes_eq s t).1 h]; exact bl_irrefl _
  cases h1 : (ByteArray.toList a.1 == ByteArray.toList b.1) with
  | true =>
    rw [irr _ _ h1]
    cases h2 : (ByteArray.toList a.2.1 == ByteArray.toList b.2.1) with
    | true => rw [irr _ _ h2]; decide
    | false => cases Op.bytesLess (ByteArray.toList a.2.1) (ByteArray.toList b.2.1) <;> decide
  | false => cases Op.bytesLess (ByteArray.toList a.1) (ByteArray.toList b.1) <;> simp
theorem bsearch_at (p : Nat → Bool) (k N : Nat) (hk : ∀ i, i < N → p i = decide (i < k)) : ∀ (m i j : Nat), j - i < m → i ≤ k → k ≤ j → j ≤ N → bsearch p m i j = k
  | 0, i, j, h, _, _, _ => by omega
  | m + 1, i, j, h, h1, h2, h3 => by
    simp only [bsearch]
    split
    · rw [hk _ (by omega)]
      split
      · rename_i h4
        simp only [decide_eq_true_eq] at h4
        exact bsearch_at p k N hk m _ _ (by omega) (by omega) h2 h3
      · rename_i h4
        simp only [decide_eq_true_eq] at h4
        exact bsearch_at p k N hk m _ _ (by omega) h1 (by omega) (by omega)
    · omega
theorem placeS (x : List TyB1) (t : TyB1) (hs : Srt x) :
    k126c32 x t ≤ x.length ∧
    (∀ i, i < k126c32 x t → g63_0 (x.getD i (ByteArray.empty, ByteArray.empty, ByteArray.empty, ())) t = true) ∧
    (∀ i, k126c32 x t ≤ i → i < x.length → g63_0 (x.getD i (ByteArray.empty, ByteArray.empty, ByteArray.empty, ())) t = false) := by
  have hp : ∀ i, p126c32 x t i = g63_0 (x.getD i (ByteArray.empty, ByteArray.empty, ByteArray.empty, ())) t := fun i => cmp_lt _ _
  obtain ⟨k, hk1, hk2⟩ := cut_atS (p126c32 x t) x.length (fun i j hij hj h => by
    rw [hp] at h ⊢
    exact before_trans (hs i j hij hj) h)
  have e : k126c32 x t = k := bsearch_at _ k x.length hk2 _ _ _ (by omega) (by omega) hk1 (Nat.le_refl _)
  rw [e]
  refine ⟨hk1, fun i hi => ?_, fun i hi hl => ?_⟩
  · rw [← hp, hk2 i (by omega)]; simpa using hi
  · rw [← hp, hk2 i hl]; simpa using hi
theorem put_eq (x : List TyB1) (t : TyB1) (hs : Srt x) : g61_0 x t = g76_0 x t ∧ Srt (g76_0 x t) := by
  obtain ⟨p1, p2, p3⟩ := placeS x t hs
  have e := put_at x t hs _ p1 p2 p3
  have eb : g96_1 x t = true ↔ k126c32 x t < x.length ∧ twins (x.getD (k126c32 x t) (ByteArray.empty, ByteArray.empty, ByteArray.empty, ())) t := by
    unfold g96_1 g126c32_1 f126c32
    by_cases h : k126c32 x t < x.length
    · rw [if_pos h, cmp_eq]; exact ⟨fun hh => ⟨h, hh⟩, fun hh => hh.2⟩
    · rw [if_neg h]; exact ⟨fun hh => (by cases hh), fun hh => absurd hh.1 h⟩
  have e0 : g96_0 x t = ((k126c32 x t : Nat) : Int) := rfl
  generalize k126c32 x t = K at *
  rw [e]
  constructor
  · show (if g96_1 x t = true then x.set (g96_0 x t).toNat t else g97_0 x (g96_0 x t) [t]) = _
    rw [e0]
    by_cases h : K < x.length ∧ twins (x.getD K (ByteArray.empty, ByteArray.empty, ByteArray.empty, ())) t
    · rw [if_pos (eb.2 h), if_pos h, Int.toNat_natCast, List.set_eq_take_append_cons_drop, if_pos h.1]
    · rw [if_neg (fun hh => h (eb.1 hh)), if_neg h]
      unfold g97_0
      rw [Int.toNat_natCast]
      rfl
  · have low : ∀ y ∈ x.take K, g63_0 y t = true := fun y hy => by
      obtain ⟨i, hi, _, rfl⟩ := mem_take_get hy
      exact p2 i hi
    split
    · rename_i h
      refine srt_join (srt_take hs K) (srt_drop hs _) low (fun y hy => ?_)
      obtain ⟨i, hi, hl, rfl⟩ := mem_drop_get hy
      exact before_right h.2 (hs K i (by omega) hl)
    · rename_i h
      refine srt_join (srt_take hs K) (srt_drop hs _) low (fun y hy => ?_)
      obtain ⟨i, hi, hl, rfl⟩ := mem_drop_get hy
      refine before_tri (p3 i hi hl) (fun ht => ?_)
      rcases Nat.lt_or_ge K i with hlt | hge
      · have := before_left ht (hs K i hlt hl)
        rw [p3 K (Nat.le_refl _) (by omega)] at this
        cases this
      · have : i = K := by omega
        subst this
        exact h ⟨hl, ht⟩
theorem srt_cross {a c : List TyB1} (h : Srt (a ++ c)) : ∀ y ∈ a, ∀ z ∈ c, g63_0 y z = true := fun y hy z hz => by
  obtain ⟨i, hi, rfl⟩ := List.mem_iff_getElem.1 hy
  obtain ⟨j, hj, rfl⟩ := List.mem_iff_getElem.1 hz
  have := h i (a.length + j) (by omega) (by rw [List.length_append]; omega)
  rw [getD_left _ _ _ _ hi, getD_right _ _ _ _ (by omega), Nat.add_sub_cancel_left, getD_lt a i _ hi, getD_lt c j _ hj] at this
  exact this
theorem srt_left {a c : List TyB1} (h : Srt (a ++ c)) : Srt a := by
  have := srt_take h a.length
  rwa [List.take_left' rfl] at this
theorem ok_pre {a c : List TyB1} (h : g37_0 (a ++ c) = true) : g37_0 a = true :=
  ok_of_srt (fun y hy => ok_one h y (List.mem_append_left _ hy)) (srt_left (ok_srt h)) (by have := (sorted _ h).1; rw [List.length_append] at this; omega)
theorem put_end {x : List TyB1} {t : TyB1} (h : g37_0 (x ++ [t]) = true) : g35_1 x t = 0 ∧ g35_0 x t = x ++ [t] := by
  have hs := ok_srt h
  have hl := (sorted _ h).1
  rw [List.length_append, List.length_singleton] at hl
  obtain ⟨e, _⟩ := put_eq x t (srt_left hs)
  have e2 := put_at x t (srt_left hs) x.length (Nat.le_refl _) (fun i hi => srt_cross hs _ (mem_getD x i (ByteArray.empty, ByteArray.empty, ByteArray.empty, ()) hi) t (by simp)) (fun i h1 h2 => absurd h2 (by omega))
  rw [if_neg (fun hh => absurd hh.1 (Nat.lt_irrefl _)), List.take_length, List.drop_length] at e2
  have ht := ok_one h t (by simp)
  unfold g35_1 g35_0
  rw [blocks_eq, block_eq, ok_pre h, ht, e, e2]
  have hn : ¬ ((x ++ [t]).length : Int) > 32 := by rw [List.length_append, List.length_singleton]; omega
  rw [decide_eq_false hn]
  exact ⟨rfl, rfl⟩
def lineM (b : TyB1) : ByteArray := ⟨⟨lineL b⟩⟩
theorem salvage_run : ∀ (l h : List TyB1), g37_0 (h ++ l) = true → (l.map lineM).foldl st9 h = h ++ l
  | [], h, _ => by simp
  | b :: r, h, hk => by
    have hk2 : g37_0 ((h ++ [b]) ++ r) = true := by simpa using hk
    obtain ⟨p1, p2⟩ := put_end (ok_pre hk2)
    obtain ⟨r1, r2⟩ := read_line (ok_one hk b (by simp))
    have e : st9 h (lineM b) = h ++ [b] := by
      unfold st9 lineM
      rw [r1, r2, if_neg (fun hh => hh rfl), p1, if_pos rfl, p2]
    rw [List.map_cons, List.foldl_cons, e, salvage_run r (h ++ [b]) hk2]
    simp
theorem dm_ok : ∀ (l : List TyB1) (i : Nat), (∀ b ∈ l, g62_0 b = true) → dm8 i (l.map lineM) = []
  | [], _, _ => rfl
  | b :: r, i, h => by
    rw [List.map_cons]
    unfold dm8
    have r2 := (read_line (h b (by simp))).2
    have e : (g31_1 (lineM b) != 0) = false := by unfold lineM; rw [r2]; rfl
    rw [dm_ok r (i + 1) fun z hz => h z (List.mem_cons_of_mem _ hz), e]
    simp
def hdrL (x : List TyB1) : List UInt8 := [97, 114, 99, 104, 105, 118, 101, 32] ++ Lib.decDigits x.length
theorem hdr_free (x : List TyB1) : (10 : UInt8) ∉ hdrL x := fun h => by
  unfold hdrL at h
  rcases List.mem_append.1 h with h | h
  · revert h; decide
  · have := (dec_facts x.length).1 _ h
    unfold isD at this
    exact absurd this.1 (by decide)
theorem save_fold : ∀ (l : List TyB1) (o : List UInt8), l.foldl (fun o b => o ++ g65_0 b) (ByteArray.mk ⟨o⟩) = ⟨⟨o ++ enc (l.map lineL)⟩⟩
  | [], o => by simp [enc]
  | b :: r, o => by
    have e : ByteArray.mk ⟨o⟩ ++ g65_0 b = ⟨⟨o ++ (lineL b ++ [10])⟩⟩ := by
      rw [line_both, line_mk]
      apply ByteArray.ext
      apply Array.ext'
      simp [ByteArray.data_append]
    rw [List.foldl_cons, e, save_fold r]
    simp [enc]
theorem save_enc (x : List TyB1) : g38_0 x = ⟨⟨enc (hdrL x :: x.map lineL)⟩⟩ := by
  have e : hd38 x = ⟨⟨hdrL x ++ [10]⟩⟩ := by
    unfold hd38
    rw [dec_nat]
    apply ByteArray.ext
    apply Array.ext'
    simp [ByteArray.data_append, hdrL]
  unfold g38_0
  rw [e, save_fold]
  simp [enc]
theorem ended_enc (ls : List (List UInt8)) (h : ∀ l ∈ ls, (10 : UInt8) ∉ l) : g54_0 ⟨⟨enc ls⟩⟩ (ByteArray.mk #[10]) = ls.map (fun l => (⟨⟨l⟩⟩ : ByteArray)) ++ [⟨⟨[]⟩⟩] ∧ g33_0 ⟨⟨enc ls⟩⟩ = ls.map (fun l => (⟨⟨l⟩⟩ : ByteArray)) ∧ g33_1 ⟨⟨enc ls⟩⟩ = ⟨⟨[]⟩⟩ := by
  have e : g54_0 ⟨⟨enc ls⟩⟩ (ByteArray.mk #[10]) = ls.map (fun l => (⟨⟨l⟩⟩ : ByteArray)) ++ [⟨⟨[]⟩⟩] := by
    have e := splitB_one 10 ⟨⟨enc ls⟩⟩
    have e2 : splitC 10 (ByteArray.mk ⟨enc ls⟩).data.toList = ls ++ [[]] := split_enc ls h
    rw [e2] at e
    refine Eq.trans e ?_
    unfold bss
    rw [List.map_append]
    rfl
  refine ⟨e, ?_, ?_⟩
  · unfold g33_0
    rw [e, List.drop_zero]
    exact List.take_left' (by simp)
  · unfold g33_1
    rw [e, getD_right _ _ _ _ (by simp)]
    have : (((ls.map (fun l => (⟨⟨l⟩⟩ : ByteArray)) ++ [ByteArray.mk ⟨[]⟩]).length : Int) - 1).toNat - (ls.map (fun l => (⟨⟨l⟩⟩ : ByteArray))).length = 0 := by
      simp
    rw [this]
    rfl
theorem enc_len : ∀ (ls : List (List UInt8)) (n : Nat), (∀ l ∈ ls, l.length ≤ n) → (enc ls).length ≤ ls.length * (n + 1) ∧ ls.length ≤ (enc ls).length
  | [], _, _ => ⟨Nat.zero_le _, Nat.le_refl _⟩
  | l :: r, n, h => by
    obtain ⟨h1, h2⟩ := enc_len r n fun m hm => h m (List.mem_cons_of_mem _ hm)
    have h0 := h l (by simp)
    rw [enc, List.length_append, List.length_cons, List.length_cons, Nat.succ_mul]
    omega
theorem lines_ok {x : List TyB1} (hk : g37_0 x = true) : (∀ l ∈ hdrL x :: x.map lineL, (10 : UInt8) ∉ l ∧ l.length ≤ 500) ∧ x.length ≤ 32 := by
  have hl := (sorted _ hk).1
  refine ⟨fun l hl2 => ?_, hl⟩
  rcases List.mem_cons.1 hl2 with rfl | hl2
  · refine ⟨hdr_free x, ?_⟩
    unfold hdrL
    have := dec_len 4 x.length (by omega)
    rw [List.length_append]
    simp only [List.length_cons, List.length_nil]
    omega
  · obtain ⟨b, hb, rfl⟩ := List.mem_map.1 hl2
    have h1 := ok_one hk b hb
    obtain ⟨⟨n1, n2⟩, _, n3⟩ := one_parts h1
    refine ⟨line_free h1, ?_⟩
    rw [lineL_len]
    have e1 : b.1.data.toList.length = b.1.size := rfl
    have e2 : b.2.1.data.toList.length = b.2.1.size := rfl
    have e3 : b.2.2.1.data.toList.length = b.2.2.1.size := rfl
    have s1 := name_size n1
    have s2 := name_size n2
    unfold restB
    simp only [List.length_append, List.length_cons, e1, e2, e3]
    omega
def txtL (x : List TyB1) : List UInt8 := enc (hdrL x :: x.map lineL)
theorem txt_len {x : List TyB1} (hk : g37_0 x = true) : 1 ≤ (txtL x).length ∧ (txtL x).length ≤ 20000 := by
  obtain ⟨h1, h2⟩ := lines_ok hk
  obtain ⟨h3, h4⟩ := enc_len _ 500 fun l hl => (h1 l hl).2
  unfold txtL
  simp only [List.length_cons, List.length_map] at h3 h4
  omega
theorem save_law {x : List TyB1} (hk : g37_0 x = true) : P11 x ∧ g11_0 x = ⟨⟨txtL x⟩⟩ := by
  unfold P11 g11_0
  rw [hk]
  have hl := (sorted _ hk).1
  refine ⟨?_, save_enc x⟩
  rw [if_neg (show ¬ (!true) = true by decide)]
  refine ⟨⟨by omega, fun b hb => ?_⟩, trivial⟩
  obtain ⟨⟨n1, n2⟩, _, n3⟩ := one_parts (ok_one hk b hb)
  have s1 := name_size n1
  have s2 := name_size n2
  refine ⟨line_spre b (by omega) (by omega) (by omega), ?_⟩
  rw [line_both, ByteArray.size_append, line_size]
  have i10 : (ByteArray.mk #[10]).size = 1 := rfl
  omega
theorem text_pre (x : ByteArray) (ls : List (List UInt8)) (e : x = ⟨⟨enc ls⟩⟩) (h : ∀ l ∈ ls, (10 : UInt8) ∉ l) (hn : (enc ls).length ≤ 20000) : P8 x ∧ P9 x := by
  subst e
  obtain ⟨e1, e2, e3⟩ := ended_enc ls h
  have hs : (ByteArray.mk ⟨enc ls⟩).size = (enc ls).length := rfl
  have hlen : ls.length ≤ (enc ls).length ∧ ∀ l ∈ ls, l.length ≤ (enc ls).length := by
    clear e1 e2 e3 hs hn h
    induction ls with
    | nil => exact ⟨Nat.le_refl _, fun l hl => by cases hl⟩
    | cons a r ih =>
      rw [enc, List.length_append, List.length_cons, List.length_cons]
      refine ⟨by omega, fun l hl => ?_⟩
      rcases List.mem_cons.1 hl with rfl | hl
      · omega
      · have := ih.2 l hl; omega
  have hP : P33 ⟨⟨enc ls⟩⟩ := by
    unfold P33
    rw [e1]
    simp only [List.length_append, List.length_map, List.length_singleton]
    exact ⟨⟨by omega, Nat.le_refl 1⟩, by rw [i64_iff]; omega, by omega, by omega, by omega, by omega, trivial⟩
  have hb : ∀ w ∈ ls.map (fun l => (⟨⟨l⟩⟩ : ByteArray)), P31 w := fun w hw => by
    obtain ⟨l, hl, rfl⟩ := List.mem_map.1 hw
    have := hlen.2 l hl
    exact parse_pre _ (by show l.length ≤ _; omega)
  refine ⟨⟨hP, ?_, ?_⟩, ⟨hP, ?_, ?_⟩⟩
  · rw [e2, List.length_map]; omega
  · rw [e2]; exact hb
  · unfold ls9; rw [e2, List.length_map]; omega
  · unfold ls9; rw [e2]; exact hb
theorem r8_at {x : List Int} (hw : Wf (.sl (.int .u8)) x) (i m : Int) (hi : 0 ≤ i) (h1 : 2 ≤ m) (h2 : m ≤ 1000000) : P13 x i m ∧ 0 ≤ g13_0 x i m ∧ g13_0 x i m ≤ m - 1 := by
  unfold P13 g13_0
  have c1 : decide (m ≤ 1) = false := decide_eq_false (by omega)
  by_cases c2 : i ≥ (x.length : Int)
  · simp only [c1, decide_eq_true c2, Bool.false_eq_true, if_false, if_true]
    exact ⟨trivial, by omega, by omega⟩
  · have hb := (u8_iff _).1 (hw.2 _ (mem_getD x i.toNat 0 (by omega)))
    have t1 := Int.tmod_nonneg (a := x.getD i.toNat 0) m hb.1
    have t2 := Int.tmod_lt_of_pos (x.getD i.toNat 0) (b := m) (by omega)
    simp only [c1, decide_eq_false c2, Bool.false_eq_true, if_false]
    exact ⟨⟨hi, by omega, by rw [i64_iff]; omega, by omega, by rw [i64_iff]; omega, trivial⟩, t1, by omega⟩
theorem r8_wide {x : List Int} (hw : Wf (.sl (.int .u8)) x) (n : Int) (h1 : 1 ≤ n) (h2 : n ≤ 1000000) : P12 x 0 n ∧ 0 ≤ g12_0 x 0 n ∧ g12_0 x 0 n < n := by
  obtain ⟨p, a1, a2⟩ := r8_at hw 0 256 (by decide) (by decide) (by decide)
  obtain ⟨q, b1, b2⟩ := r8_at hw (0 + 1) 256 (by decide) (by decide) (by decide)
  unfold P12 g12_0
  generalize g13_0 x 0 256 = a at *
  generalize g13_0 x (0 + 1) 256 = b at *
  have t1 := Int.tmod_nonneg (a := 256 * a + b) n (by omega)
  have t2 := Int.tmod_lt_of_pos (256 * a + b) (b := n) (by omega)
  exact ⟨⟨p, by rw [i64_iff]; omega, by rw [i64_iff]; omega, q, by rw [i64_iff]; omega, by omega, by rw [i64_iff]; omega, trivial⟩, t1, t2⟩
theorem flip_byte (o : UInt8) {m : Int} (h1 : 1 ≤ m) (h2 : m ≤ 255) : ∃ v : UInt8, v ≠ o ∧ IntKind.wrap .u8 (((BitVec.ofInt 8 ((o.toNat : Nat) : Int) ^^^ BitVec.ofInt 8 m).toNat : Nat) : Int) = ((v.toNat : Nat) : Int) := by
  have ho : o.toNat < 256 := o.toNat_lt
  obtain ⟨k, rfl⟩ := Int.eq_ofNat_of_zero_le (show 0 ≤ m by omega)
  have e1 : (BitVec.ofInt 8 ((o.toNat : Nat) : Int)).toNat = o.toNat := by
    rw [BitVec.toNat_ofInt]; omega
  have e2 : (BitVec.ofInt 8 (k : Int)).toNat = k := by
    rw [BitVec.toNat_ofInt]; omega
  rw [BitVec.toNat_xor, e1, e2]
  have hlt : o.toNat ^^^ k < 2 ^ 8 := Nat.xor_lt_two_pow (by omega) (by omega)
  have ev : (UInt8.ofNat (o.toNat ^^^ k)).toNat = o.toNat ^^^ k := by
    rw [UInt8.toNat_ofNat']; omega
  refine ⟨UInt8.ofNat (o.toNat ^^^ k), fun h => ?_, ?_⟩
  · have h := congrArg UInt8.toNat h
    rw [ev, Nat.xor_comm] at h
    have : k = 0 := xor_same (k := o.toNat) (by rw [h, Nat.zero_xor])
    omega
  · rw [ev]
    exact wrap_of_inR ((u8_iff _).2 ⟨by omega, by omega⟩)
theorem bytesStr_mk (xs : List Int) : bytesStr xs = ⟨⟨xs.map fun n => UInt8.ofNat n.toNat⟩⟩ := by
  have key : ∀ (xs : List Int) (l : List UInt8), xs.foldl (fun r n => ByteArray.push r (UInt8.ofNat n.toNat)) (ByteArray.mk ⟨l⟩) = ⟨⟨l ++ xs.map fun n => UInt8.ofNat n.toNat⟩⟩ := by
    intro xs
    induction xs with
    | nil => intro l; simp
    | cons a r ih =>
      intro l
      rw [List.foldl_cons]
      have e : (ByteArray.mk ⟨l⟩).push (UInt8.ofNat a.toNat) = ⟨⟨l ++ [UInt8.ofNat a.toNat]⟩⟩ := by
        apply ByteArray.ext
        apply Array.ext'
        simp [ByteArray.push]
      rw [e, ih]
      simp
  have := key xs []
  rw [List.nil_append] at this
  exact this
theorem bytes_len (T : List UInt8) : (bytesOf (ByteArray.mk ⟨T⟩)).length = T.length := bytesOf_length _
theorem bytes_at (T : List UInt8) (i : Nat) : (bytesOf (ByteArray.mk ⟨T⟩)).getD i 0 = ((T.getD i 0).toNat : Int) := (byte_get _ i).symm
theorem bytes_set (T : List UInt8) (i : Nat) (v : UInt8) : bytesStr ((bytesOf (ByteArray.mk ⟨T⟩)).set i ((v.toNat : Nat) : Int)) = ⟨⟨T.set i v⟩⟩ := by
  rw [bytesStr_mk]
  have e : bytesOf (ByteArray.mk ⟨T⟩) = T.map fun b => ((b.toNat : Nat) : Int) := rfl
  have e2 : ∀ b : UInt8, UInt8.ofNat (((b.toNat : Nat) : Int)).toNat = b := fun b => by
    rw [Int.toNat_natCast]; exact UInt8.ofNat_toNat
  rw [e, List.map_set, List.map_map, e2]
  congr 2
  congr 1
  conv => rhs; rw [← List.map_id T]
  exact List.map_congr_left fun b _ => e2 b
theorem dval_lt : ∀ (l : List UInt8) (m : Nat), (∀ b ∈ l, isD b) → dval l m < (m + 1) * 10 ^ l.length
  | [], m, _ => by simp [dval]
  | b :: r, m, hd => by
    have hb : isD b := hd b (List.mem_cons_self ..)
    unfold isD at hb
    have ih := dval_lt r (10 * m + (b.toNat - 48)) (fun c hc => hd c (List.mem_cons_of_mem _ hc))
    show dval r (10 * m + (b.toNat - 48)) < _
    rw [List.length_cons, Nat.pow_succ]
    have h1 : (10 * m + (b.toNat - 48) + 1) * 10 ^ r.length ≤ (10 * (m + 1)) * 10 ^ r.length := Nat.mul_le_mul_right _ (by omega)
    have h2 : (10 * (m + 1)) * 10 ^ r.length = (m + 1) * (10 ^ r.length * 10) := by
      rw [Nat.mul_comm 10 (m + 1), Nat.mul_assoc, Nat.mul_comm 10]
    omega
theorem dval_le : ∀ (l : List UInt8) (m : Nat), m ≤ dval l m
  | [], m => Nat.le_refl _
  | b :: r, m => by
    have := dval_le r (10 * m + (b.toNat - 48))
    show m ≤ dval r (10 * m + (b.toNat - 48))
    omega
def N18 (n : Int) : Prop := -1000000000000000000 < n ∧ n < 1000000000000000000
theorem n18_len {n : Nat} : (Lib.decDigits n).length ≤ 18 ↔ n < 1000000000000000000 := by
  constructor
  · intro h
    obtain ⟨d1, d2, _⟩ := dec_facts n
    have := dval_lt (Lib.decDigits n) 0 d1
    rw [d2] at this
    have hp : 10 ^ (Lib.decDigits n).length ≤ 10 ^ 18 := Nat.pow_le_pow_right (by decide) h
    have e : (10 : Nat) ^ 18 = 1000000000000000000 := by decide
    rw [e] at hp
    omega
  · intro h
    exact dec_len 17 n (by omega)
theorem numB_neg {n : Int} (h : n < 0) : numB n = ⟨⟨45 :: Lib.decDigits n.natAbs⟩⟩ := by unfold numB Lib.itoa; rw [if_pos h]
theorem numB_pos {n : Int} (h : ¬ n < 0) : numB n = ⟨⟨Lib.decDigits n.toNat⟩⟩ := by unfold numB Lib.itoa; rw [if_neg h]
theorem dec_head {n : Nat} : ∃ b r, Lib.decDigits n = b :: r ∧ isD b ∧ (b.toNat = 48 → r = []) := by
  obtain ⟨d1, d2, d3, d4⟩ := dec_facts n
  have hz : Lib.decDigits 0 = [48] := by rw [Lib.decDigits, dif_pos (by decide)]; rfl
  cases hd : Lib.decDigits n with
  | nil => rw [hd] at d3; simp at d3
  | cons b r =>
    refine ⟨b, r, rfl, ?_, fun h48 => ?_⟩
    · rw [hd] at d1; exact d1 b (List.mem_cons_self ..)
    · rcases Nat.eq_zero_or_pos n with rfl | hn
      · rw [hz] at hd; cases hd; rfl
      · have := d4 hn
        rw [hd] at this
        exact absurd h48 this
theorem uint_dval : ∀ (l : List UInt8) (m : Nat), (∀ b ∈ l, isD b) → dval l m < 1000000000000000000 → Lib.parseUintM 18446744073709551615 m l = .ok (dval l m)
  | [], _, _, _ => rfl
  | b :: r, m, hd, h => by
    have hb : isD b := hd b (List.mem_cons_self ..)
    unfold isD at hb
    have hle := dval_le r (10 * m + (b.toNat - 48))
    have h' : dval r (10 * m + (b.toNat - 48)) < 1000000000000000000 := h
    unfold Lib.parseUintM
    rw [if_pos hb, if_neg (by omega), if_neg (by omega), Nat.mul_comm m 10]
    exact uint_dval r _ (fun c hc => hd c (List.mem_cons_of_mem _ hc)) h'
theorem uint_dec {n : Nat} (h : n < 1000000000000000000) : Lib.parseUintB 64 (Lib.decDigits n) = .ok n := by
  obtain ⟨d1, d2, d3, _⟩ := dec_facts n
  unfold Lib.parseUintB
  rw [if_neg (fun e => by rw [e] at d3; simp at d3)]
  have e : (2 : Nat) ^ 64 - 1 = 18446744073709551615 := by decide
  have := uint_dval (Lib.decDigits n) 0 d1 (by rw [d2]; exact h)
  rw [d2] at this
  rw [e]; exact this
theorem parse_dec {n : Int} (h : N18 n) : Lib.parseIntB 64 (numB n).data.toList = .ok n := by
  obtain ⟨h1, h2⟩ := h
  have e63 : (2 : Nat) ^ (64 - 1) = 9223372036854775808 := by decide
  by_cases hn : n < 0
  · rw [numB_neg hn]
    show Lib.parseIntB 64 (45 :: Lib.decDigits n.natAbs) = _
    rw [Lib.parseIntB_minus, uint_dec (by omega), e63]
    unfold Lib.signedC
    simp only
    rw [if_neg (by omega)]
    congr 1
    omega
  · rw [numB_pos hn]
    show Lib.parseIntB 64 (Lib.decDigits n.toNat) = _
    have hu := uint_dec (n := n.toNat) (by omega)
    obtain ⟨b, r, hd, hb, _⟩ := dec_head (n := n.toNat)
    unfold isD at hb
    rw [hd] at hu ⊢
    rw [Lib.parseIntB_plain _ _ _ (by omega) (by omega), hu, e63]
    unfold Lib.signlessC
    simp only
    rw [if_neg (by omega)]
    congr 1
    omega
theorem trim_dec {n : Int} : (g29_0 (numB n) ⟨#[45]⟩).size = (Lib.decDigits n.natAbs).length := by
  unfold g29_0
  show (Lib.trimPrefix (numB n).data.toList [45]).length = _
  unfold Lib.trimPrefix Lib.hasPrefix
  by_cases hn : n < 0
  · rw [numB_neg hn]
    rfl
  · rw [numB_pos hn]
    obtain ⟨b, r, hd, hb, _⟩ := dec_head (n := n.toNat)
    unfold isD at hb
    have hne : (45 : UInt8) ≠ b := fun e => by rw [← e] at hb; exact absurd hb (by decide)
    have e : n.natAbs = n.toNat := by omega
    rw [e, hd]
    have : ([45] : List UInt8).isPrefixOf (b :: r) = false := by simp [List.isPrefixOf, hne]
    show (if ([45] : List UInt8).isPrefixOf (b :: r) = true then _ else (b :: r)).length = _
    rw [this]
    rfl
theorem rd_i1 {n : Int} (h : N18 n) : g28_0 (numB n) = n ∧ g28_1 (numB n) = true := by
  have hl := (n18_len (n := n.natAbs)).2 (by unfold N18 at h; omega)
  have h0 := (dec_facts n.natAbs).2.2.1
  have e : rd28 (numB n) = some n := by
    unfold rd28 long28
    rw [trim_dec, if_neg (by rw [Bool.or_eq_true, decide_eq_true_eq, decide_eq_true_eq]; omega), parse_dec h]
    simp
  unfold g28_0 g28_1
  rw [e]
  exact ⟨rfl, rfl⟩
theorem num_free {n : Int} {k : UInt8} (h1 : ¬ isD k) (h2 : k ≠ 45) : k ∉ (numB n).data.toList := by
  intro hm
  by_cases hn : n < 0
  · rw [numB_neg hn] at hm
    rcases List.mem_cons.1 hm with h | h
    · exact h2 h
    · exact h1 ((dec_facts _).1 _ h)
  · rw [numB_pos hn] at hm
    exact h1 ((dec_facts _).1 _ hm)
theorem app_list (a b : ByteArray) : (a ++ b).data.toList = a.data.toList ++ b.data.toList := by
  rw [ByteArray.data_append, Array.toList_append]
theorem splitC_end (c : UInt8) : ∀ p : List UInt8, splitC c (p ++ [c]) = splitC c p ++ [[]]
  | [] => by simp [splitC]
  | a :: p => by
    have ih := splitC_end c p
    by_cases h : a = c
    · rw [List.cons_append, splitC, if_pos h, splitC, if_pos h, ih]; rfl
    · rw [List.cons_append, splitC, if_neg h, splitC, if_neg h, ih]
      cases hs : splitC c p with
      | nil => exact absurd hs (splitC_ne c p)
      | cons r rs => rfl
theorem bss_len (ls : List (List UInt8)) : (bss ls).length = ls.length := by unfold bss; rw [List.length_map]
theorem suf_iff (l : List UInt8) : g26_0 ⟨⟨l⟩⟩ (ByteArray.mk #[10]) = true ↔ ∃ p, l = p ++ [10] := by
  unfold g26_0 g53_0
  have hs : (ByteArray.mk ⟨l⟩).size = l.length := rfl
  have h1 : (ByteArray.mk #[10]).size = 1 := rfl
  rw [hs, h1]
  rcases List.eq_nil_or_concat l with rfl | ⟨q, b, rfl⟩
  · rw [if_neg (by decide)]
    constructor
    · intro h; cases h
    · rintro ⟨p, hp⟩; simp at hp
  · rw [List.concat_eq_append, if_pos (by simp only [decide_eq_true_eq, List.length_append, List.length_singleton]; omega)]
    have e1 : Int.toNat (((q ++ [b]).length : Nat) - (1 : Nat) : Int) = q.length := by rw [List.length_append, List.length_singleton]; omega
    have e2 : Int.toNat (((q ++ [b]).length : Nat) : Int) = q.length + 1 := by rw [List.length_append, List.length_singleton]; omega
    have e3 : ByteArray.extract ⟨⟨q ++ [b]⟩⟩ q.length (q.length + 1) = ⟨⟨[b]⟩⟩ := by
      have := Lib.extract_mk (q ++ [b]) q.length (q.length + 1)
      rw [List.drop_left, Nat.add_sub_cancel_left] at this
      exact this
    rw [e1, e2, e3, bytes_eq]
    constructor
    · intro h
      have : b = 10 := by simpa using h
      exact ⟨q, by rw [this]⟩
    · rintro ⟨p, hp⟩
      have := List.append_inj_right' hp rfl
      rw [this]
theorem trim10 (p : List UInt8) : g55_0 ⟨⟨p ++ [10]⟩⟩ (ByteArray.mk #[10]) = ⟨⟨p⟩⟩ := by
  unfold g55_0
  show (⟨(Lib.trimSuffix (p ++ [10]) [10]).toArray⟩ : ByteArray) = _
  have h : Lib.hasSuffix (p ++ [10]) [10] = true := by
    unfold Lib.hasSuffix
    rw [List.isSuffixOf_iff_suffix]
    exact ⟨p, rfl⟩
  unfold Lib.trimSuffix
  rw [if_pos h]
  simp
theorem text_end {p : List UInt8} : g27_0 ⟨⟨p ++ [10]⟩⟩ = bss (splitC 10 p) := by
  unfold g27_0
  rw [if_neg, trim10]
  · exact splitB_one 10 ⟨⟨p⟩⟩
  · intro hh
    have := congrArg (fun b : ByteArray => b.data.toList.length) ((bytes_eq _ _).1 hh)
    simp at this
theorem sizeC (c : UInt8) : ∀ (l p : List UInt8), p ∈ splitC c l → p.length ≤ l.length := fun l p hp => by
  have e := splitB_one c ⟨⟨l⟩⟩
  have hm : (⟨⟨p⟩⟩ : ByteArray) ∈ bss (splitC c l) := List.mem_map.2 ⟨p, hp, rfl⟩
  have h2 : (⟨⟨p⟩⟩ : ByteArray) ∈ Lib.splitB ⟨#[c]⟩ 0 (Lib.countB ⟨⟨l⟩⟩ ⟨#[c]⟩) ⟨⟨l⟩⟩ := by rw [e]; exact hm
  exact splitB_part _ _ _ _ _ h2
theorem trim_hdr (x : List TyB1) : g29_0 ⟨⟨hdrL x⟩⟩ (ByteArray.mk #[97, 114, 99, 104, 105, 118, 101, 32]) = ⟨⟨Lib.decDigits x.length⟩⟩ := by
  unfold g29_0
  show (⟨(Lib.trimPrefix ([97, 114, 99, 104, 105, 118, 101, 32] ++ Lib.decDigits x.length) [97, 114, 99, 104, 105, 118, 101, 32]).toArray⟩ : ByteArray) = _
  have h : Lib.hasPrefix ([97, 114, 99, 104, 105, 118, 101, 32] ++ Lib.decDigits x.length) [97, 114, 99, 104, 105, 118, 101, 32] = true := by
    unfold Lib.hasPrefix
    rw [List.isPrefixOf_iff_prefix]
    exact ⟨_, rfl⟩
  unfold Lib.trimPrefix
  rw [if_pos h]
  rfl
theorem first_nl : ∀ {a b x y : List UInt8}, (10 : UInt8) ∉ a → (10 : UInt8) ∉ b → a ++ 10 :: x = b ++ 10 :: y → a = b ∧ x = y
  | [], [], x, y, _, _, h => ⟨rfl, (List.cons.inj h).2⟩
  | [], c :: b, x, y, _, hb, h => absurd (by have := (List.cons.inj h).1; rw [← this]; exact List.mem_cons_self ..) hb
  | c :: a, [], x, y, ha, _, h => absurd (by have := (List.cons.inj h).1; rw [this]; exact List.mem_cons_self ..) ha
  | c :: a, d :: b, x, y, ha, hb, h => by
    obtain ⟨h1, h2⟩ := List.cons.inj h
    obtain ⟨e1, e2⟩ := first_nl (a := a) (b := b) (fun hm => ha (List.mem_cons_of_mem _ hm)) (fun hm => hb (List.mem_cons_of_mem _ hm)) h2
    exact ⟨by rw [h1, e1], e2⟩
theorem enc_count : ∀ (ls : List (List UInt8)), (∀ l ∈ ls, (10 : UInt8) ∉ l) → (enc ls).count 10 = ls.length
  | [], _ => rfl
  | l :: r, h => by
    rw [enc, List.count_append, List.count_cons_self, count_free (h l (by simp)), enc_count r fun m hm => h m (List.mem_cons_of_mem _ hm), List.length_cons]
    omega
theorem enc_split : ∀ (ls : List (List UInt8)) (t : List UInt8), splitC 10 t = ls ++ [[]] → t = enc ls ∧ ∀ l ∈ ls, (10 : UInt8) ∉ l := by
  intro ls t h
  have hf : ∀ l ∈ ls, (10 : UInt8) ∉ l := fun l hl => splitC_free_mem 10 t l (by rw [h]; exact List.mem_append_left _ hl)
  refine ⟨?_, hf⟩
  have h1 := splitC_join 10 t
  have h2 := splitC_join 10 (enc ls)
  rw [h] at h1
  rw [split_enc ls hf] at h2
  rw [← h1, h2]
def hdrN (n : Nat) : List UInt8 := [97, 114, 99, 104, 105, 118, 101, 32] ++ Lib.decDigits n
theorem hdrN_free (n : Nat) : (10 : UInt8) ∉ hdrN n := fun h => by
  unfold hdrN at h
  rcases List.mem_append.1 h with h | h
  · revert h; decide
  · have := (dec_facts n).1 _ h
    unfold isD at this
    exact absurd this.1 (by decide)
theorem hdrN_inj {m n : Nat} (h : hdrN m = hdrN n) : m = n := by
  unfold hdrN at h
  have h := List.append_cancel_left h
  have a := (dec_facts m).2.1
  rw [h, (dec_facts n).2.1] at a
  exact a.symm
theorem hdrN_len {n : Nat} (h : n < 100) : (hdrN n).length = if n < 10 then 9 else 10 := by
  unfold hdrN
  rw [List.length_append]
  by_cases h1 : n < 10
  · rw [if_pos h1, Lib.decDigits, dif_pos h1]; rfl
  · rw [if_neg h1, Lib.decDigits, dif_neg h1, Lib.decDigits, dif_pos (by omega)]; rfl
theorem hdrN_mono {m n : Nat} (h : m ≤ n) (hn : n < 100) : (hdrN m).length ≤ (hdrN n).length := by
  rw [hdrN_len hn, hdrN_len (by omega)]
  split
  · split <;> omega
  · split <;> omega
theorem load_ok {t : List UInt8} (h : g7_2 ⟨⟨t⟩⟩ = 0) : ∃ (n : Nat) (R : List (List UInt8)), n ≤ 32 ∧ R.length = n ∧ t = enc (hdrN n :: R) ∧ (∀ l ∈ R, (10 : UInt8) ∉ l ∧ g31_1 ⟨⟨l⟩⟩ = 0) := by
  have ld_ok : ∀ (ws : List ByteArray) (i : Nat) (a : List TyB1) (o : List TyB1), ld7 ws i a = .inr o → o.length = a.length + ws.length ∧ ∀ w ∈ ws, g31_1 w = 0 := by
    intro ws
    induction ws with
    | nil =>
      intro i a o h
      unfold ld7 at h
      cases h
      exact ⟨rfl, fun w hw => by cases hw⟩
    | cons w r ih =>
      intro i a o h
      unfold ld7 at h
      split at h
      · cases h
      · rename_i h1
        split at h
        · cases h
        · obtain ⟨i1, i2⟩ := ih _ _ _ h
          rw [List.length_append, List.length_singleton] at i1
          refine ⟨by rw [List.length_cons]; omega, fun z hz => ?_⟩
          rcases List.mem_cons.1 hz with rfl | hz
          · exact Classical.byContradiction h1
          · exact i2 z hz
  unfold g7_2 all7 at h
  split at h
  · exact absurd h (by decide)
  rename_i hs
  split at h
  · exact absurd h (by decide)
  rename_i hok
  have hok : ok7 ⟨⟨t⟩⟩ = true := by simpa using hok
  have hs : g26_0 ⟨⟨t⟩⟩ (ByteArray.mk #[10]) = true := by simpa using hs
  cases hl : ld7 ((ls7 ⟨⟨t⟩⟩).drop 1) 0 [] with
  | inl p =>
    rw [hl] at h
    exfalso
    have bad : ∀ (ws : List ByteArray) (i : Nat) (a : List TyB1) (p : Int × Int), ld7 ws i a = .inl p → p.2 ≠ 0 := by
      intro ws
      induction ws with
      | nil => intro i a p h; unfold ld7 at h; cases h
      | cons w r ih =>
        intro i a p h
        unfold ld7 at h
        split at h
        · rename_i h1; cases h; exact h1
        · split at h
          · cases h; exact fun hh => absurd hh (by show ¬ (7 : Int) = 0; decide)
          · exact ih _ _ _ h
    exact bad _ _ _ _ hl h
  | inr o =>
    rw [hl] at h
    unfold out7 at h
    simp only at h
    split at h
    case isFalse => exact absurd h (by decide)
    rename_i hn
    obtain ⟨l1, l2⟩ := ld_ok _ _ _ _ hl
    unfold ok7 at hok
    simp only [Bool.and_eq_true] at hok
    obtain ⟨⟨_, hw⟩, hh⟩ := hok
    have hw : 0 ≤ num7 ⟨⟨t⟩⟩ ∧ num7 ⟨⟨t⟩⟩ ≤ 32 := by
      unfold g30_0 at hw
      split at hw
      · rename_i h1; exact ⟨of_decide_eq_true h1, of_decide_eq_true hw⟩
      · cases hw
    have hh := (bytes_eq _ _).1 hh
    obtain ⟨n, en⟩ := Int.eq_ofNat_of_zero_le hw.1
    rw [en] at hh hn hw
    have eh : (hd7 ⟨⟨t⟩⟩).data.toList = hdrN n := by
      rw [hh, ByteArray.data_append, Array.toList_append]
      show _ ++ (numB (n : Int)).data.toList = _
      rw [numB_list]
      unfold Lib.itoa hdrN
      rw [if_neg (by omega), Int.toNat_natCast]
    obtain ⟨q, eq⟩ := (suf_iff t).1 hs
    obtain ⟨L, hL⟩ : ∃ L, splitC 10 q = L := ⟨_, rfl⟩
    have eL : splitC 10 t = L ++ [[]] := by rw [eq, splitC_end, hL]
    obtain ⟨e1, e2⟩ := enc_split L t eL
    have ew : ls7 ⟨⟨t⟩⟩ = L.map fun l => (⟨⟨l⟩⟩ : ByteArray) := by
      unfold ls7
      rw [eq, text_end, hL]
      rfl
    clear hL
    cases L with
    | nil =>
      exfalso
      unfold hd7 at eh
      rw [ew] at eh
      have := congrArg List.length eh
      unfold hdrN at this
      rw [List.length_append] at this
      have e0 : ((List.map (fun l => (⟨⟨l⟩⟩ : ByteArray)) []).getD 0 ByteArray.empty).data.toList.length = 0 := rfl
      rw [e0] at this
      simp at this
      omega
    | cons H R =>
      have eH : H = hdrN n := by
        unfold hd7 at eh
        rw [ew] at eh
        exact eh
      rw [ew] at l1 l2
      have l1 : o.length = R.length := by simpa using l1
      refine ⟨n, R, by omega, by omega, by rw [e1, eH], fun l hl => ⟨e2 l (List.mem_cons_of_mem _ hl), l2 _ ?_⟩⟩
      exact List.mem_map.2 ⟨l, hl, rfl⟩
theorem enc_end : ∀ (l : List UInt8) (r : List (List UInt8)), ∃ q, enc (l :: r) = q ++ [10]
  | l, [] => ⟨l, by simp [enc]⟩
  | l, m :: r => by
    obtain ⟨q, hq⟩ := enc_end m r
    refine ⟨l ++ 10 :: q, ?_⟩
    have e : enc (l :: m :: r) = l ++ 10 :: enc (m :: r) := rfl
    rw [e, hq]
    simp
theorem text_enc (l : List UInt8) (r : List (List UInt8)) (h : ∀ m ∈ l :: r, (10 : UInt8) ∉ m) : g26_0 ⟨⟨enc (l :: r)⟩⟩ (ByteArray.mk #[10]) = true ∧ g27_0 ⟨⟨enc (l :: r)⟩⟩ = (l :: r).map fun l => (⟨⟨l⟩⟩ : ByteArray) := by
  obtain ⟨q, hq⟩ := enc_end l r
  refine ⟨(suf_iff _).2 ⟨q, hq⟩, ?_⟩
  have h2 := split_enc (l :: r) h
  rw [hq, splitC_end] at h2
  have h2 := List.append_cancel_right h2
  rw [hq, text_end, h2]
  rfl
theorem ld_run : ∀ (l h : List TyB1) (i : Nat), g37_0 (h ++ l) = true → ld7 (l.map lineM) i h = .inr (h ++ l)
  | [], h, i, _ => by rw [List.append_nil]; rfl
  | b :: r, h, i, hk => by
    have hk2 : g37_0 ((h ++ [b]) ++ r) = true := by simpa using hk
    obtain ⟨r1, r2⟩ := read_line (ok_one hk b (by simp))
    have ho : ord7 h b = false := by
      unfold ord7
      by_cases h0 : 0 < h.length
      · have hs := ok_srt (ok_pre hk2)
        have hb := srt_cross hs _ (mem_getD h (h.length - 1) (ByteArray.empty, ByteArray.empty, ByteArray.empty, ()) (by omega)) b (by simp)
        rw [← cmp_lt, decide_eq_true_eq] at hb
        rw [decide_eq_false (show ¬ g32_0 (h.getD (h.length - 1) (ByteArray.empty, ByteArray.empty, ByteArray.empty, ())) b ≥ 0 by omega), Bool.and_false]
      · rw [decide_eq_false h0, Bool.false_and]
    rw [List.map_cons]
    unfold ld7
    have e1 : g31_1 (lineM b) = 0 := r2
    have e0 : g31_0 (lineM b) = b := r1
    rw [e1, e0, if_neg (fun hh => hh rfl), ho, if_neg (by decide), ld_run r (h ++ [b]) (i + 1) hk2]
    simp
theorem load_back {x : List TyB1} (hk : g37_0 x = true) : all7 ⟨⟨txtL x⟩⟩ = (x, 0, 0) := by
  obtain ⟨hf, hl⟩ := lines_ok hk
  obtain ⟨t1, t2⟩ := text_enc (hdrL x) (x.map lineL) (fun l h => (hf l h).1)
  have els : ls7 ⟨⟨txtL x⟩⟩ = ⟨⟨hdrL x⟩⟩ :: x.map lineM := by
    unfold ls7 txtL
    rw [t2, List.map_cons, List.map_map]
    rfl
  have ehd : hd7 ⟨⟨txtL x⟩⟩ = ⟨⟨hdrL x⟩⟩ := by
    unfold hd7
    rw [els]
    rfl
  have hnum : numB (x.length : Int) = ⟨⟨Lib.decDigits x.length⟩⟩ := by
    unfold numB Lib.itoa
    rw [if_neg (by omega), Int.toNat_natCast]
  have etp : tp7 ⟨⟨txtL x⟩⟩ = numB (x.length : Int) := by
    unfold tp7
    rw [ehd, hnum]
    exact trim_hdr x
  obtain ⟨d0, d1⟩ := rd_i1 (n := (x.length : Int)) ⟨by omega, by omega⟩
  have enum : num7 ⟨⟨txtL x⟩⟩ = (x.length : Int) := by unfold num7; rw [etp, d0]
  have hw : g30_0 (x.length : Int) 0 32 = true := by
    unfold g30_0
    rw [if_pos (by simp only [decide_eq_true_eq]; omega)]
    simp only [decide_eq_true_eq]; omega
  have hh : (ByteArray.mk #[97, 114, 99, 104, 105, 118, 101, 32] ++ g22_0 (x.length : Int)) = ⟨⟨hdrL x⟩⟩ := by
    have : g22_0 (x.length : Int) = numB (x.length : Int) := rfl
    rw [this, hnum]
    apply ByteArray.ext
    apply Array.ext'
    simp [ByteArray.data_append, hdrL]
  have eok : ok7 ⟨⟨txtL x⟩⟩ = true := by
    unfold ok7
    rw [etp, d1, enum, hw, ehd, hh, (bytes_eq _ _).2 rfl]
    rfl
  have hsf : g26_0 ⟨⟨txtL x⟩⟩ (ByteArray.mk #[10]) = true := t1
  unfold all7
  rw [hsf, if_neg (by decide), eok, if_neg (by decide), els, List.drop_succ_cons, List.drop_zero, ld_run x [] 0 hk, enum]
  unfold out7
  simp
theorem load_pre (t : List UInt8) (h : t.length ≤ 1000000) : P7 ⟨⟨t⟩⟩ := by
  have hz : (ByteArray.mk ⟨t⟩).size = t.length := rfl
  have pH : P26 ⟨⟨t⟩⟩ (ByteArray.mk #[10]) := by
    unfold P26 P53
    have h1 : (ByteArray.mk #[10]).size = 1 := rfl
    rw [hz, h1]
    refine ⟨?_, trivial⟩
    split
    · rename_i h
      have h' := of_decide_eq_true h
      exact ⟨by rw [i64_iff]; omega, by omega, by omega, trivial⟩
    · trivial
  have ptl : P27 ⟨⟨t⟩⟩ := by
    unfold P27
    refine ifT2 fun _ => ⟨⟨?_, Nat.le_refl 1⟩, trivial⟩
    show (List.toArray _).size < _
    rw [List.size_toArray]
    have e : (ByteArray.mk ⟨t⟩).data.toList.length = t.length := rfl
    unfold Lib.trimSuffix
    split
    · rw [List.length_take]; omega
    · omega
  have parts : ∀ (s : List UInt8), s.length ≤ t.length → (bss (splitC 10 s)).length ≤ t.length + 1 ∧ ∀ w ∈ bss (splitC 10 s), w.size ≤ t.length := fun s hs => by
    refine ⟨?_, fun w hw => ?_⟩
    · rw [bss_len, splitC_length]
      have : s.count (10 : UInt8) ≤ s.length := List.count_le_length
      omega
    · obtain ⟨q, hq, rfl⟩ := List.mem_map.1 hw
      have := sizeC 10 s q hq
      show q.length ≤ _
      omega
  have els : ∃ s : List UInt8, s.length ≤ t.length ∧ (ls7 ⟨⟨t⟩⟩ = bss (splitC 10 s) ∨ ls7 ⟨⟨t⟩⟩ = []) := by
    unfold ls7 g27_0
    by_cases he : (ByteArray.toList (ByteArray.mk ⟨t⟩) == ByteArray.toList (ByteArray.mk #[])) = true
    · rw [if_pos he]; exact ⟨[], Nat.zero_le _, .inr rfl⟩
    · rw [if_neg he]
      refine ⟨Lib.trimSuffix t [10], ?_, .inl ?_⟩
      · unfold Lib.trimSuffix
        split
        · rw [List.length_take]; omega
        · exact Nat.le_refl _
      · exact splitB_one 10 _
  obtain ⟨s, hs, e⟩ := els
  obtain ⟨p1, p2⟩ := parts s hs
  have hlen : (ls7 ⟨⟨t⟩⟩).length ≤ t.length + 1 ∧ ∀ w ∈ ls7 ⟨⟨t⟩⟩, w.size ≤ t.length := by
    rcases e with e | e
    · rw [e]; exact ⟨p1, p2⟩
    · rw [e]; exact ⟨Nat.zero_le _, fun w hw => by cases hw⟩
  have hhd : (hd7 ⟨⟨t⟩⟩).size ≤ 1048576 := by
    unfold hd7
    by_cases h0 : 0 < (ls7 ⟨⟨t⟩⟩).length
    · have := hlen.2 _ (mem_getD _ 0 ByteArray.empty h0)
      omega
    · rw [List.getD_eq_getElem?_getD, List.getElem?_eq_none (by omega)]
      exact Nat.zero_le _
  refine ⟨pH, ptl, fun hsf => ?_, by omega, hhd, fun w hw => parse_pre w (by have := hlen.2 w hw; omega)⟩
  obtain ⟨q, hq⟩ := (suf_iff t).1 hsf
  unfold ls7
  rw [hq, text_end, bss_len, splitC_length]
  omega
theorem count_one (a : UInt8) (l : List UInt8) : (a :: l).count 10 = l.count 10 + if a = 10 then 1 else 0 := by
  rw [List.count_cons]
  by_cases h : a = 10
  · rw [if_pos h, if_pos (by rw [h]; rfl)]
  · rw [if_neg h, if_neg (by simpa using h)]
theorem set_count (t : List UInt8) (i : Nat) (v : UInt8) (h : i < t.length) : (t.set i v).count 10 + (if t.getD i 0 = 10 then 1 else 0) = t.count 10 + if v = 10 then 1 else 0 := by
  have e1 : t = t.take i ++ t.getD i 0 :: t.drop (i + 1) := by rw [← drop_get t i 0 h, List.take_append_drop]
  have e2 : t.set i v = t.take i ++ v :: t.drop (i + 1) := by rw [List.set_eq_take_append_cons_drop, if_pos h]
  have e3 : t.count 10 = (t.take i ++ t.getD i 0 :: t.drop (i + 1)).count 10 := by rw [← e1]
  rw [e2, e3, List.count_append, List.count_append, count_one, count_one]
  generalize (if t.getD i 0 = 10 then 1 else 0) = a
  generalize (if v = 10 then 1 else 0) = b
  omega
theorem load_bad {x : List TyB1} (hk : g37_0 x = true) {i : Nat} {v : UInt8} (hi : i < (txtL x).length) (hv : v ≠ (txtL x).getD i 0) : g7_2 ⟨⟨(txtL x).set i v⟩⟩ ≠ 0 := fun h => by
  obtain ⟨n, R, hn, hR, et, hr⟩ := load_ok h
  obtain ⟨hf, hl⟩ := lines_ok hk
  have hH : hdrL x = hdrN x.length := rfl
  have hfx : ∀ l ∈ hdrL x :: x.map lineL, (10 : UInt8) ∉ l := fun l h => (hf l h).1
  have c1 : (txtL x).count 10 = x.length + 1 := by unfold txtL; rw [enc_count (hdrL x :: x.map lineL) hfx, List.length_cons, List.length_map]
  have hfr : ∀ l ∈ hdrN n :: R, (10 : UInt8) ∉ l := fun l hl => by
    rcases List.mem_cons.1 hl with rfl | hl
    · exact hdrN_free n
    · exact (hr l hl).1
  have c2 : ((txtL x).set i v).count 10 = n + 1 := by rw [et, enc_count (hdrN n :: R) hfr, List.length_cons, hR]
  have c3 := set_count (txtL x) i v hi
  rw [c1, c2] at c3
  have eT : txtL x = hdrN x.length ++ 10 :: enc (x.map lineL) := rfl
  have eR : enc (hdrN n :: R) = hdrN n ++ 10 :: enc R := rfl
  rw [eR] at et
  by_cases a1 : i < (hdrN x.length).length
  · -- in the header
    have hset : (txtL x).set i v = (hdrN x.length).set i v ++ 10 :: enc (x.map lineL) := by rw [eT, List.set_append_left _ _ a1]
    have hget : (txtL x).getD i 0 = (hdrN x.length).getD i 0 := by rw [eT, getD_left _ _ _ _ a1]
    have hg10 : (txtL x).getD i 0 ≠ 10 := by
      rw [hget]
      intro e
      exact hdrN_free x.length (by rw [← e]; exact mem_getD _ i 0 a1)
    rw [if_neg hg10] at c3
    by_cases hv10 : v = 10
    · rw [if_pos hv10] at c3
      have e2 : (hdrN x.length).set i v = (hdrN x.length).take i ++ 10 :: (hdrN x.length).drop (i + 1) := by rw [List.set_eq_take_append_cons_drop, if_pos a1, hv10]
      rw [hset, e2, List.append_assoc, List.cons_append] at et
      obtain ⟨e3, _⟩ := first_nl (fun hm => hdrN_free x.length (List.mem_of_mem_take hm)) (hdrN_free n) et
      have := congrArg List.length e3
      rw [List.length_take] at this
      have hm := hdrN_mono (m := x.length) (n := n) (by omega) (by omega)
      omega
    · rw [if_neg hv10] at c3
      have hfree : (10 : UInt8) ∉ (hdrN x.length).set i v := fun hm => by
        rcases List.mem_or_eq_of_mem_set hm with hm | hm
        · exact hdrN_free _ hm
        · exact hv10 hm.symm
      rw [hset] at et
      obtain ⟨e3, _⟩ := first_nl hfree (hdrN_free n) et
      have hnn : n = x.length := by omega
      rw [hnn] at e3
      apply hv
      rw [hget, ← e3, List.getD_eq_getElem?_getD, List.getElem?_set_self a1]
      rfl
  · by_cases a2 : i = (hdrN x.length).length
    · -- its newline
      subst a2
      have hget : (txtL x).getD (hdrN x.length).length 0 = 10 := by rw [eT, getD_right _ _ _ _ (Nat.le_refl _), Nat.sub_self]; rfl
      rw [hget] at hv
      rw [if_pos hget, if_neg hv] at c3
      have hset : (txtL x).set (hdrN x.length).length v = hdrN x.length ++ v :: enc (x.map lineL) := by rw [eT, List.set_append_right _ _ (Nat.le_refl _), Nat.sub_self]; rfl
      rw [hset] at et
      have hlen : (hdrN n).length ≤ (hdrN x.length).length := hdrN_mono (by omega) (by omega)
      have hat := congrArg (fun l => l.getD (hdrN n).length 0) et
      rw [getD_right (hdrN n) _ _ _ (Nat.le_refl _), Nat.sub_self] at hat
      have hat : (hdrN x.length ++ v :: enc (x.map lineL)).getD (hdrN n).length 0 = 10 := hat
      rcases Nat.lt_or_ge (hdrN n).length (hdrN x.length).length with hlt | hge
      · rw [getD_left _ _ _ _ hlt] at hat
        exact hdrN_free x.length (by rw [← hat]; exact mem_getD _ _ 0 hlt)
      · have he : (hdrN n).length = (hdrN x.length).length := by omega
        rw [he, getD_right _ _ _ _ (Nat.le_refl _), Nat.sub_self] at hat
        exact hv hat
    · -- in a line
      have hge : (hdrN x.length).length + 1 ≤ i := by omega
      have ei : i - (hdrN x.length).length = (i - (hdrN x.length).length - 1) + 1 := by omega
      have hset : (txtL x).set i v = hdrN x.length ++ 10 :: (enc (x.map lineL)).set (i - (hdrN x.length).length - 1) v := by
        rw [eT, List.set_append_right _ _ (by omega), ei, List.set_cons_succ, Nat.add_sub_cancel]
      rw [hset] at et
      obtain ⟨e3, e4⟩ := first_nl (hdrN_free x.length) (hdrN_free n) et
      have hnn := hdrN_inj e3
      rw [← hnn] at c3
      have h0 : (txtL x).getD i 0 ≠ 10 := fun e => by
        rw [if_pos e] at c3
        rw [e] at hv
        rw [if_neg hv] at c3
        omega
      have h1 : v ≠ 10 := fun e => by
        rw [if_neg h0, if_pos e] at c3
        omega
      have hfl : ∀ l ∈ x.map lineL, (10 : UInt8) ∉ l := fun l h => hfx l (List.mem_cons_of_mem _ h)
      have hget : (txtL x).getD i 0 = (enc (x.map lineL)).getD (i - (hdrN x.length).length - 1) 0 := by
        rw [eT, getD_right _ _ _ _ (by omega), ei]; rfl
      have hlt : i - (hdrN x.length).length - 1 < (enc (x.map lineL)).length := by
        rw [eT, List.length_append, List.length_cons] at hi
        omega
      obtain ⟨j, p, b1, b2, b3, b4, _⟩ := enc_at (x.map lineL) (i - (hdrN x.length).length - 1) v hfl hlt (by rw [← hget]; exact h0)
      have hjl : j < x.length := by simpa using b1
      have hg : (x.map lineL).getD j [] = lineL (x.getD j (ByteArray.empty, ByteArray.empty, ByteArray.empty, ())) := by
        rw [List.getD_eq_getElem?_getD, List.getElem?_map, List.getD_eq_getElem?_getD, List.getElem?_eq_getElem hjl]
        rfl
      rw [hg] at b2 b3 b4
      have hbad := change_bad (x.getD j (ByteArray.empty, ByteArray.empty, ByteArray.empty, ())) p v b2 (by rw [← b3, ← hget]; exact hv)
      rw [b4] at e4
      have hfs : ∀ l ∈ (x.map lineL).set j ((lineL (x.getD j (ByteArray.empty, ByteArray.empty, ByteArray.empty, ()))).set p v), (10 : UInt8) ∉ l := fun l hl => by
        rcases List.mem_or_eq_of_mem_set hl with hl | rfl
        · exact hfl l hl
        · intro hm
          rcases List.mem_or_eq_of_mem_set hm with hm | hm
          · exact line_free (ok_one hk _ (mem_getD x j (ByteArray.empty, ByteArray.empty, ByteArray.empty, ()) hjl)) hm
          · exact h1 hm.symm
      have s1 := split_enc _ hfs
      rw [e4, split_enc R (fun l hl => (hr l hl).1)] at s1
      have s1 := List.append_cancel_right s1
      refine hbad (hr _ ?_).2
      rw [s1]
      exact List.mem_iff_getElem.2 ⟨j, by rw [List.length_set]; exact b1, by rw [List.getElem_set_self]⟩
def V12 (n : Int) : Prop := -1000000000000 ≤ n ∧ n ≤ 1000000000000
theorem v18 {n : Int} (h : V12 n) : N18 n := by unfold V12 at h; exact ⟨by omega, by omega⟩
theorem in12 {n : Int} : g71_0 n (-1000000000000) 1000000000000 = true ↔ V12 n := by
  unfold g71_0 V12
  by_cases c1 : n ≥ -1000000000000
  · have c1' : -1000000000000 ≤ n := c1
    by_cases c2 : n ≤ 1000000000000 <;> simp [c1, c2]
  · have c1' : ¬ -1000000000000 ≤ n := c1
    simp [c1, c1']
theorem val12 {n : Int} : g105_0 n = true ↔ V12 n := in12
theorem list_bad (l : List Int) : g103c104_0 l = l.any fun n => !g105_0 n := any129c104 l
theorem list_text {l : List Int} (h0 : l ≠ []) (h1 : l.length ≤ 64) (h2 : ∀ n ∈ l, V12 n) : g68_0 l = g106_0 (l.map numB) (ByteArray.mk #[44]) := by
  have e : (l.map g22_0) = l.map numB := rfl
  unfold g68_0
  rw [if_neg (by omega), e, if_neg, if_neg (fun h => h0 (List.eq_nil_of_length_eq_zero h))]
  rw [list_bad]
  intro h
  obtain ⟨n, hn, hb⟩ := List.any_eq_true.1 h
  rw [val12.2 (h2 n hn)] at hb
  cases hb
theorem join_two (p q : List UInt8) (r : List (List UInt8)) (k : UInt8) : [k].intercalate (p :: q :: r) = p ++ k :: [k].intercalate (q :: r) := by
  simp [List.intercalate]
theorem split_join (k : UInt8) : ∀ (ps : List (List UInt8)), ps ≠ [] → (∀ p ∈ ps, k ∉ p) → splitC k ([k].intercalate ps) = ps
  | [], h, _ => absurd rfl h
  | [p], _, h => by
    have : [k].intercalate [p] = p := by simp [List.intercalate]
    rw [this, splitC_free k (h p (List.mem_cons_self ..))]
  | p :: q :: r, _, h => by
    rw [join_two, splitC_hit k _ (h p (List.mem_cons_self ..)), split_join k (q :: r) (by simp) fun x hx => h x (List.mem_cons_of_mem _ hx)]
theorem join_list (l : List ByteArray) : (g106_0 l (ByteArray.mk #[44])).data.toList = [44].intercalate (l.map fun x => x.data.toList) := rfl
theorem split44 (x : ByteArray) : g54_0 x (ByteArray.mk #[44]) = bss (splitC 44 x.data.toList) := splitB_one 44 x
theorem bl_asym {x y : List UInt8} (h : Op.bytesLess x y = true) : Op.bytesLess y x = false := by
  cases h2 : Op.bytesLess y x with
  | false => rfl
  | true =>
    have := bl_trans x y x h h2
    rw [bl_irrefl] at this
    cases this
theorem le_not (a b : ByteArray) : (!(Op.bytesLess (ByteArray.toList a) (ByteArray.toList b) || ByteArray.toList a == ByteArray.toList b)) = Op.bytesLess (ByteArray.toList b) (ByteArray.toList a) := by
  generalize ByteArray.toList a = x
  generalize ByteArray.toList b = y
  cases h1 : Op.bytesLess x y with
  | true => rw [bl_asym h1]; rfl
  | false =>
    cases h2 : (x == y) with
    | true =>
      have : x = y := by simpa using h2
      subst this
      rw [bl_irrefl]; rfl
    | false =>
      cases h3 : Op.bytesLess y x with
      | true => rfl
      | false =>
        have := bl_tri x y h1 h3
        subst this
        simp at h2
theorem wnC {x a b : Int} : g30_0 x a b = true ↔ a ≤ x ∧ x ≤ b := by
  unfold g30_0
  by_cases h : x ≥ a
  · rw [if_pos (decide_eq_true h), decide_eq_true_eq]; omega
  · rw [if_neg (by simp only [decide_eq_true_eq]; exact h)]
    constructor
    · intro hh; cases hh
    · intro hh; omega
theorem four_back {a b c d : Int} (ha : V12 a) (hb : V12 b) (hc : V12 c) (hd : V12 d) : g107_0 (g68_0 [a, b, c, d]) = [a, b, c, d] ∧ (g68_0 [a, b, c, d]).size ≤ 100 ∧ (10 : UInt8) ∉ (g68_0 [a, b, c, d]).data.toList := by
  have hall : ∀ n ∈ [a, b, c, d], V12 n := fun n hn => by
    simp only [List.mem_cons, List.mem_nil_iff, or_false] at hn
    rcases hn with rfl | rfl | rfl | rfl
    · exact ha
    · exact hb
    · exact hc
    · exact hd
  have ht := list_text (l := [a, b, c, d]) (by simp) (by simp) hall
  obtain ⟨t, et⟩ : ∃ t, g68_0 [a, b, c, d] = t := ⟨_, rfl⟩
  rw [et] at ht ⊢
  have hj : t.data.toList = [44].intercalate ([a, b, c, d].map fun n => (numB n).data.toList) := by
    rw [ht, join_list, List.map_map]
    rfl
  have hb1 : t.data.toList = (numB a).data.toList ++ 44 :: ((numB b).data.toList ++ 44 :: ((numB c).data.toList ++ 44 :: (numB d).data.toList)) := by
    rw [hj]
    simp [List.intercalate]
  have fr : ∀ n : Int, (44 : UInt8) ∉ (numB n).data.toList := fun n => num_free (by unfold isD; decide) (by decide)
  have fr10 : ∀ n : Int, (10 : UInt8) ∉ (numB n).data.toList := fun n => num_free (by unfold isD; decide) (by decide)
  have hw : ws107 t = [numB a, numB b, numB c, numB d] := by
    unfold ws107
    rw [split44, hj, split_join 44 _ (by simp) (fun p hp => by
      obtain ⟨n, _, rfl⟩ := List.mem_map.1 hp
      exact fr n)]
    rfl
  have hn : nums107 t = [a, b, c, d] := by
    unfold nums107
    rw [hw, List.map_cons, List.map_cons, List.map_cons, List.map_cons, List.map_nil, (rd_i1 (v18 ha)).1, (rd_i1 (v18 hb)).1, (rd_i1 (v18 hc)).1, (rd_i1 (v18 hd)).1]
  have hsz : t.size = (numB a).size + 1 + (numB b).size + 1 + (numB c).size + 1 + (numB d).size := by
    show t.data.size = _
    rw [← Array.length_toList, hb1]
    simp only [List.length_append, List.length_cons]
    show (numB a).size + ((numB b).size + ((numB c).size + ((numB d).size + 1) + 1) + 1) = _
    omega
  have z1 := numB_size a (by unfold V12 at ha; omega) (by unfold V12 at ha; omega)
  have z2 := numB_size b (by unfold V12 at hb; omega) (by unfold V12 at hb; omega)
  have z3 := numB_size c (by unfold V12 at hc; omega) (by unfold V12 at hc; omega)
  have z4 := numB_size d (by unfold V12 at hd; omega) (by unfold V12 at hd; omega)
  refine ⟨?_, by omega, ?_⟩
  · unfold g107_0 all107
    have hne : t ≠ ByteArray.mk #[45] := fun e => by
      have hm : (44 : UInt8) ∈ t.data.toList := by rw [hb1]; simp
      rw [e] at hm
      exact absurd hm (by decide)
    rw [if_neg hne, hn, if_pos et]
    rfl
  · rw [hb1]
    have h44 : ¬ (10 : UInt8) = 44 := by decide
    simp only [List.mem_append, List.mem_cons, h44, false_or, not_or]
    exact ⟨fr10 a, fr10 b, fr10 c, fr10 d⟩
theorem chk_in {x : TyB0} (h : g67_0 x = true) : g70_0 x.1 = true ∧ (1 ≤ x.2.1 ∧ x.2.1 ≤ 100000) ∧ (1 ≤ x.2.2.1 ∧ x.2.2.1 ≤ 1000000) ∧ (0 ≤ x.2.2.2.1 ∧ x.2.2.2.1 ≤ 100000) ∧ (0 ≤ x.2.2.2.2.1 ∧ x.2.2.2.2.1 ≤ 1000000) := by
  unfold g67_0 at h
  split at h
  · rename_i h0
    split at h
    · rename_i h1
      split at h
      · rename_i h2
        split at h
        · rename_i h3
          rw [name_eq] at h0
          exact ⟨h0, wnC.1 h1, wnC.1 h2, wnC.1 h3, wnC.1 h⟩
        · cases h
      · cases h
    · cases h
  · cases h
theorem check_back {x : TyB0} (h : g67_0 x = true) : P41 x ∧ (g41_0 x).size ≤ 400 ∧ (10 : UInt8) ∉ (g41_0 x).data.toList ∧ P42 (g41_0 x) ∧ g42_1 (g41_0 x) = true ∧ g42_0 (g41_0 x) = x := by
  obtain ⟨hn, h1, h2, h3, h4⟩ := chk_in h
  obtain ⟨id, a, b, c, d, _⟩ := x
  simp only at hn h1 h2 h3 h4
  have hf := name_free hn (c := 32) (by decide)
  have hf10 := name_free hn (c := 10) (by decide)
  have hz := name_size hn
  obtain ⟨l0, lz, l10⟩ := four_back (a := a) (b := b) (c := c) (d := d) ⟨by omega, by omega⟩ ⟨by omega, by omega⟩ ⟨by omega, by omega⟩ ⟨by omega, by omega⟩
  obtain ⟨l, el⟩ : ∃ l, g68_0 [a, b, c, d] = l := ⟨_, rfl⟩
  rw [el] at l0 lz l10
  obtain ⟨t, et⟩ : ∃ t, g41_0 (id, a, b, c, d, ()) = t := ⟨_, rfl⟩
  have hv : t = id ++ ByteArray.mk #[32] ++ l := by
    rw [← et]
    unfold g41_0
    rw [if_neg (by rw [h]; simp)]
    simp only [el]
  have hbt : t.data.toList = id.data.toList ++ 32 :: l.data.toList := by
    rw [hv]; simp only [app_list, List.append_assoc]; rfl
  have hs1 : (ByteArray.mk #[32]).size = 1 := rfl
  have hts : t.size ≤ 200 := by rw [hv, ByteArray.size_append, ByteArray.size_append]; omega
  have hc : Lib.cut t.data.toList (ByteArray.mk #[32]).data.toList = (id.data.toList, l.data.toList, true) := by rw [hbt]; exact cut_hit 32 _ hf
  have c0 : g58_0 t (ByteArray.mk #[32]) = id := by unfold g58_0; rw [hc]
  have c1 : g58_1 t (ByteArray.mk #[32]) = l := by unfold g58_1; rw [hc]
  have e2 : g69_2 t 4 = true := by unfold g69_2; rw [c1, l0]; rfl
  have e1 : g69_1 t 4 = [a, b, c, d] := by unfold g69_1; rw [c1, l0]
  have e0 : g69_0 t 4 = id := c0
  have pT : P41 (id, a, b, c, d, ()) := by
    unfold P41
    rw [if_neg (by rw [h]; simp)]
    simp only [el, ByteArray.size_append]
    exact ⟨by omega, by omega, trivial⟩
  have g0 : List.getD [a, b, c, d] 0 0 = a := rfl
  have g1 : List.getD [a, b, c, d] 1 0 = b := rfl
  have g2 : List.getD [a, b, c, d] 2 0 = c := rfl
  have g3 : List.getD [a, b, c, d] 3 0 = d := rfl
  rw [et]
  refine ⟨pT, by omega, ?_, ?_, ?_, ?_⟩
  · rw [hbt]
    have h32 : ¬ (10 : UInt8) = 32 := by decide
    simp only [List.mem_append, List.mem_cons, h32, false_or, not_or]
    exact ⟨hf10, l10⟩
  · unfold P42 P69
    rw [e2, e1, e0, c1, g0, g1, g2, g3, if_neg (by decide)]
    exact ⟨⟨(show t.size < 4294967281 by omega), (show l.size ≤ 1048576 by omega), trivial⟩, (by show (0 : Int) < 4; decide), (by show (1 : Int) < 4; decide), (by show (2 : Int) < 4; decide), (by show (3 : Int) < 4; decide), pT, trivial⟩
  · unfold g42_1
    rw [e2, e1, e0, g0, g1, g2, g3, et, if_neg (by decide), if_neg (by rw [beq_self_eq_true]; decide)]
  · unfold g42_0
    rw [e2, e1, e0, g0, g1, g2, g3, et, if_neg (by decide), if_neg (by rw [beq_self_eq_true]; decide)]
def Asc (w : List TyB0) : Prop := (w.map fun x => x.1).Pairwise fun a b => Op.bytesLess (ByteArray.toList a) (ByteArray.toList b) = true
theorem asc_at {w : List TyB0} (h : Asc w) (i j : Nat) (hij : i < j) (hj : j < w.length) : Op.bytesLess (ByteArray.toList (w.getD i (ByteArray.empty, (0 : Int), (0 : Int), (0 : Int), (0 : Int), ())).1) (ByteArray.toList (w.getD j (ByteArray.empty, (0 : Int), (0 : Int), (0 : Int), (0 : Int), ())).1) = true := by
  unfold Asc at h
  rw [List.pairwise_map] at h
  have := List.pairwise_iff_getElem.1 h i j (by omega) hj hij
  rw [List.getD_eq_getElem?_getD, List.getD_eq_getElem?_getD, List.getElem?_eq_getElem (by omega), List.getElem?_eq_getElem hj]
  exact this
theorem asc_valid {w : List TyB0} (h : Asc w) (h1 : ∀ x ∈ w, g67_0 x = true) (hl : w.length ≤ 16) : g40_0 w = true := by
  unfold g40_0
  rw [decide_eq_true hl, Bool.and_true]
  have key : ∀ (l : List TyB0) (k : Nat), (∀ i, i < l.length → ok40 w (k + i) (l.getD i (ByteArray.empty, (0 : Int), (0 : Int), (0 : Int), (0 : Int), ())) = true) → allI (ok40 w) k l = true := by
    intro l
    induction l with
    | nil => intro k _; rfl
    | cons x r ih =>
      intro k hk
      rw [allI, Bool.and_eq_true]
      refine ⟨hk 0 (by simp), ih (k + 1) fun i hi => ?_⟩
      have := hk (i + 1) (by simpa using hi)
      rw [List.getD_cons_succ, show k + (i + 1) = k + 1 + i by omega] at this
      exact this
  refine key w 0 fun i hi => ?_
  rw [Nat.zero_add]
  unfold ok40
  rw [h1 _ (mem_getD w i (ByteArray.empty, (0 : Int), (0 : Int), (0 : Int), (0 : Int), ()) hi), Bool.true_and, le_not]
  cases i with
  | zero => rfl
  | succ i =>
    rw [Nat.add_sub_cancel, asc_at h i (i + 1) (by omega) hi, Bool.or_true]
theorem blk_ok {w : List TyB0} (h : Asc w) (h1 : ∀ x ∈ w, g67_0 x = true) (hl : w.length ≤ 16) : g37_0 (w.map blk15) = true := by
  refine ok_of_srt (fun y hy => ?_) (fun i j hij hj => ?_) (by rw [List.length_map]; omega)
  · obtain ⟨x, hx, rfl⟩ := List.mem_map.1 hy
    have hv := h1 x hx
    obtain ⟨hn, _⟩ := chk_in hv
    obtain ⟨_, b1, b2, _⟩ := check_back hv
    unfold blk15 g62_0
    have hk : g70_0 (ByteArray.mk #[99, 104, 101, 99, 107]) = true := by rfl
    simp only [hk, hn, Bool.and_true, Bool.and_eq_true, decide_eq_true_eq]
    refine ⟨?_, b1⟩
    rw [List.all_eq_true]
    intro z hz
    obtain ⟨u, hu, rfl⟩ := List.mem_map.1 hz
    have : u ≠ 10 := fun e => b2 (by rw [← e]; exact hu)
    have hne : ¬ ((u.toNat : Nat) : Int) = 10 := fun e => this (UInt8.toNat_inj.1 (by show u.toNat = 10; omega))
    simpa using hne
  · rw [List.length_map] at hj
    have e : ∀ k, k < w.length → (w.map blk15).getD k (ByteArray.empty, ByteArray.empty, ByteArray.empty, ()) = blk15 (w.getD k (ByteArray.empty, (0 : Int), (0 : Int), (0 : Int), (0 : Int), ())) := fun k hk => by
      rw [List.getD_eq_getElem?_getD, List.getElem?_map, List.getD_eq_getElem?_getD, List.getElem?_eq_getElem hk]
      rfl
    rw [e i (by omega), e j hj]
    have ha := asc_at h i j hij hj
    have hno : Op.bytesLess (ByteArray.toList (ByteArray.mk #[99, 104, 101, 99, 107])) (ByteArray.toList (ByteArray.mk #[99, 104, 101, 99, 107])) = false := bl_irrefl _
    unfold blk15 g63_0
    simp only [hno, beq_self_eq_true, Bool.false_eq_true, if_false, if_true]
    exact ha
theorem co_run : ∀ (l h : List TyB0), (∀ x ∈ l, g67_0 x = true) → co16 (l.map blk15) h = .inr (h ++ l)
  | [], h, _ => by rw [List.append_nil]; rfl
  | x :: r, h, hv => by
    obtain ⟨_, _, _, _, r1, r0⟩ := check_back (hv x (by simp))
    rw [List.map_cons]
    unfold co16
    have e1 : is16 (blk15 x) = true := by
      unfold is16 blk15
      exact beq_self_eq_true _
    have e2 : (blk15 x).2.2.1 = g41_0 x := rfl
    have e3 : (blk15 x).2.1 = x.1 := rfl
    rw [e1, e2, e3, r1, r0, beq_self_eq_true, if_neg (by decide), if_neg (by decide), if_neg (by decide), co_run r (h ++ [x]) fun y hy => hv y (List.mem_cons_of_mem _ hy)]
    simp
theorem checks_back {w : List TyB0} (h : Asc w) (h1 : ∀ x ∈ w, g67_0 x = true) (hl : w.length ≤ 16) : P15 w ∧ g15_1 w = 0 ∧ P16 (g15_0 w) ∧ g16_1 (g15_0 w) = 0 ∧ g16_0 (g15_0 w) = w := by
  have hv := asc_valid h h1 hl
  have e0 : g15_0 w = w.map blk15 := by unfold g15_0; rw [if_pos hv]
  have e1 : g15_1 w = 0 := by unfold g15_1; rw [if_pos hv]
  have ea : all16 (w.map blk15) = (w, 0) := by
    unfold all16
    rw [blocks_eq, blk_ok h h1 hl, if_neg (by decide), co_run w [] h1]
    unfold out16
    simp only [List.nil_append]
    rw [if_neg (by omega)]
  rw [e0]
  refine ⟨fun x hx => (check_back (h1 x hx)).1, e1, ⟨by rw [List.length_map]; omega, fun b hb => ?_⟩, ?_, ?_⟩
  · obtain ⟨x, hx, rfl⟩ := List.mem_map.1 hb
    exact (check_back (h1 x hx)).2.2.2.1
  · unfold g16_1; rw [ea]
  · unfold g16_0; rw [ea]
noncomputable section
def ext3 : Ext := [(4, S4), (5, S5), (6, S6), (7, S7), (8, S8), (9, S9), (10, S10), (11, S11), (12, S12), (13, S13), (14, S14), (15, S15), (16, S16), (17, S17)]
theorem ext3Ok : ExtOk Tryz.prog ext3 := ⟨⟨ca4, con4⟩, ⟨ca5, con5⟩, ⟨ca6, con6⟩, ⟨ca7, con7⟩, ⟨ca8, con8⟩, ⟨ca9, con9⟩, ⟨ca10, con10⟩, ⟨ca11, con11⟩, ⟨ca12, con12⟩, ⟨ca13, con13⟩, ⟨ca14, con14⟩, ⟨ca15, con15⟩, ⟨ca16, con16⟩, ⟨ca17, con17⟩, trivial⟩
noncomputable def b3 : Code := bodyOf Tryz.f3
theorem hb3 : Tryz.f3.body = some b3 := by kernel_rfl
def sig3 : List AT := [AT.v (Ty.sl (Ty.int .u8)), AT.v (Ty.sl (Ty.int .u8))]
def tys3 : List Ty := [Ty.bool]
def kds3 : List RK := []
def oks3 : List AT := owns sig3
def E3_3 (x0 : List Int) (x1 : List Int) : Env := [(0, PV.a (Atom.sl (Ty.int .u8) x0)), (1, PV.a (Atom.sl (Ty.int .u8) x1))]
def L3_3 (x0 : List Int) (x1 : List Int) : Heap := []
def E3_10 (x1 : List Int) (x0 : List Int) : Env := [(1, PV.a (Atom.sl (Ty.int .u8) x1)), (5, PV.a (Atom.osl 0 Option.none))]
def L3_10 (x1 : List Int) (x0 : List Int) : Heap := [Option.some (Arr.mk YA3 (g5_0 x0) false Option.none Option.none)]
def E3_19 (x1 : List Int) : Env := [(19, PV.a (Atom.osl 0 Option.none)), (22, PV.a (Atom.osl 1 Option.none))]
def L3_19 (x1 : List Int) : Heap := [Option.some (Arr.mk YA0 (g14_0 x1) false Option.none Option.none), Option.some (Arr.mk YA0 (g16_0 (g15_0 (g14_0 x1))) false Option.none Option.none)]
def E3_20 (v24 : Int) (x1 : List Int) : Env := [(19, PV.a (Atom.osl 0 Option.none)), (22, PV.a (Atom.osl 1 Option.none)), (24, PV.a (Atom.val (Value.int .i64 v24)))]
def L3_20 (v24 : Int) (x1 : List Int) : Heap := [Option.some (Arr.mk YA0 (g14_0 x1) false Option.none Option.none), Option.some (Arr.mk YA0 (g16_0 (g15_0 (g14_0 x1))) false Option.none Option.none)]
def E3_22 (v24 : Int) (x1 : List Int) : Env := [(19, PV.a (Atom.osl 0 Option.none)), (22, PV.a (Atom.osl 1 Option.none)), (24, PV.a (Atom.val (Value.int .i64 v24)))]
def L3_22 (v24 : Int) (x1 : List Int) : Heap := [Option.some (Arr.mk YA0 (g14_0 x1) false Option.none Option.none), Option.some (Arr.mk YA0 (g16_0 (g15_0 (g14_0 x1))) false Option.none Option.none)]
def E3_21 (v24 : Int) (x1 : List Int) : Env := [(19, PV.a (Atom.osl 0 Option.none)), (22, PV.a (Atom.osl 1 Option.none)), (24, PV.a (Atom.val (Value.int .i64 v24)))]
def L3_21 (v24 : Int) (x1 : List Int) : Heap := [Option.some (Arr.mk YA0 (g14_0 x1) false Option.none Option.none), Option.some (Arr.mk YA0 (g16_0 (g15_0 (g14_0 x1))) false Option.none Option.none)]
mutual
def R3 : Nat → List Int → List Int → List Dyn → Prop
  | 0, _, _, _ => False
  | n + 1, x0, x1, ds => (if (g4_0 x0 x1) = true then (ds = [Dyn.mk Ty.bool true]) else (R3_3 n (x0) (x1) ds))
def R3_3 : Nat → List Int → List Int → List Dyn → Prop
  | 0, _, _, _ => False
  | n + 1, x0, x1, ds => ((P5 x0) ∧ ((P6 (g5_0 x0)) ∧ ((P7 (g6_0 (g5_0 x0))) ∧ ((P8 (g6_0 (g5_0 x0))) ∧ ((P9 (g6_0 (g5_0 x0))) ∧ (if (g6_1 (g5_0 x0) != 0) = true then (ds = [Dyn.mk Ty.bool false]) else (if (g7_2 (g6_0 (g5_0 x0)) != 0) = true then (ds = [Dyn.mk Ty.bool false]) else (if (g7_1 (g6_0 (g5_0 x0)) != 0) = true then (ds = [Dyn.mk Ty.bool false]) else (if (!g10_0 (g7_0 (g6_0 (g5_0 x0))) (g5_0 x0)) = true then (ds = [Dyn.mk Ty.bool false]) else (if ((↑(List.length (g8_0 (g6_0 (g5_0 x0)))) : Int) != 0) = true then (ds = [Dyn.mk Ty.bool false]) else (if (!g10_0 (g9_0 (g6_0 (g5_0 x0))) (g5_0 x0)) = true then (ds = [Dyn.mk Ty.bool false]) else (R3_10 n (x1) (x0) ds))))))))))))
def R3_10 : Nat → List Int → List Int → List Dyn → Prop
  | 0, _, _, _ => False
  | n + 1, x1, x0, ds => ((P11 (g5_0 x0)) ∧ ((P12 x1 0 (↑(List.length (bytesOf (g11_0 (g5_0 x0)))) : Int)) ∧ ((0 ≤ g12_0 x1 0 (↑(List.length (bytesOf (g11_0 (g5_0 x0)))) : Int)) ∧ (g12_0 x1 0 (↑(List.length (bytesOf (g11_0 (g5_0 x0)))) : Int) < (↑(List.length (bytesOf (g11_0 (g5_0 x0)))) : Int)) ∧ ((P13 x1 2 255) ∧ ((InR .i64 (1 + g13_0 x1 2 255)) ∧ ((InR .u8 (1 + g13_0 x1 2 255)) ∧ ((0 ≤ g12_0 x1 0 (↑(List.length (bytesOf (g11_0 (g5_0 x0)))) : Int)) ∧ (g12_0 x1 0 (↑(List.length (bytesOf (g11_0 (g5_0 x0)))) : Int) < (↑(List.length (bytesOf (g11_0 (g5_0 x0)))) : Int)) ∧ ((P7 (bytesStr (List.set (bytesOf (g11_0 (g5_0 x0))) (Int.toNat (g12_0 x1 0 (↑(List.length (bytesOf (g11_0 (g5_0 x0)))) : Int))) (IntKind.wrap IntKind.u8 (↑(BitVec.toNat (BitVec.ofInt 8 (List.getD (bytesOf (g11_0 (g5_0 x0))) (Int.toNat (g12_0 x1 0 (↑(List.length (bytesOf (g11_0 (g5_0 x0)))) : Int))) 0) ^^^ BitVec.ofInt 8 (1 + g13_0 x1 2 255))) : Int))))) ∧ ((P14 x1) ∧ ((P15 (g14_0 x1)) ∧ ((P16 (g15_0 (g14_0 x1))) ∧ (if (g7_2 (bytesStr (List.set (bytesOf (g11_0 (g5_0 x0))) (Int.toNat (g12_0 x1 0 (↑(List.length (bytesOf (g11_0 (g5_0 x0)))) : Int))) (IntKind.wrap IntKind.u8 (↑(BitVec.toNat (BitVec.ofInt 8 (List.getD (bytesOf (g11_0 (g5_0 x0))) (Int.toNat (g12_0 x1 0 (↑(List.length (bytesOf (g11_0 (g5_0 x0)))) : Int))) 0) ^^^ BitVec.ofInt 8 (1 + g13_0 x1 2 255))) : Int)))) == 0) = true then (ds = [Dyn.mk Ty.bool false]) else (if (g15_1 (g14_0 x1) != 0) = true then (ds = [Dyn.mk Ty.bool false]) else (if (g16_1 (g15_0 (g14_0 x1)) != 0) = true then (ds = [Dyn.mk Ty.bool false]) else (if ((↑(List.length (g16_0 (g15_0 (g14_0 x1)))) : Int) != (↑(List.length (g14_0 x1)) : Int)) = true then (ds = [Dyn.mk Ty.bool false]) else (R3_19 n (x1) ds))))))))))))))))
def R3_19 : Nat → List Int → List Dyn → Prop
  | 0, _, _ => False
  | n + 1, x1, ds => (R3_20 n (0) (x1) ds)
def R3_20 : Nat → Int → List Int → List Dyn → Prop
  | 0, _, _, _ => False
  | n + 1, v24, x1, ds => (if (decide (v24 < (↑(List.length (g14_0 x1)) : Int))) = true then (R3_22 n (v24) (x1) ds) else (ds = [Dyn.mk Ty.bool true]))
def R3_22 : Nat → Int → List Int → List Dyn → Prop
  | 0, _, _, _ => False
  | n + 1, v24, x1, ds => ((0 ≤ v24) ∧ (v24 < (↑(List.length (g16_0 (g15_0 (g14_0 x1)))) : Int)) ∧ ((P17 (List.getD (g16_0 (g15_0 (g14_0 x1))) (Int.toNat v24) (ByteArray.empty, 0, 0, 0, 0, ()))) ∧ ((0 ≤ v24) ∧ (v24 < (↑(List.length (g14_0 x1)) : Int)) ∧ ((P17 (List.getD (g14_0 x1) (Int.toNat v24) (ByteArray.empty, 0, 0, 0, 0, ()))) ∧ (if (!ByteArray.toList (g17_0 (List.getD (g16_0 (g15_0 (g14_0 x1))) (Int.toNat v24) (ByteArray.empty, 0, 0, 0, 0, ()))) == ByteArray.toList (g17_0 (List.getD (g14_0 x1) (Int.toNat v24) (ByteArray.empty, 0, 0, 0, 0, ())))) = true then (ds = [Dyn.mk Ty.bool false]) else (R3_21 n (v24) (x1) ds))))))
def R3_21 : Nat → Int → List Int → List Dyn → Prop
  | 0, _, _, _ => False
  | n + 1, v24, x1, ds => ((InR .i64 (v24 + 1)) ∧ (R3_20 n (v24 + 1) (x1) ds))
end
theorem snd3 : ∀ n, (∀ (x0 : List Int) (x1 : List Int) ds, R3 n x0 x1 ds → ∀ K q, AtV Tryz.prog 3 (PostR kds3 oks3 ds [] [] q K) 145 K q [] [.code b3] (entE 0 0 sig3 (x0, x1, ())) (entL sig3 (x0, x1, ()))) ∧ (∀ (x0 : List Int) (x1 : List Int) ds, R3_3 n x0 x1 ds → ∀ K q, AtV Tryz.prog 3 (PostR kds3 oks3 ds [] [] q K) 145 K q [] (cutAt b3 3) (E3_3 x0 x1) (L3_3 x0 x1)) ∧ (∀ (x1 : List Int) (x0 : List Int) ds, R3_10 n x1 x0 ds → ∀ K q, AtV Tryz.prog 3 (PostR kds3 oks3 ds [] [] q K) 145 K q [] (cutAt b3 10) (E3_10 x1 x0) (L3_10 x1 x0)) ∧ (∀ (x1 : List Int) ds, R3_19 n x1 ds → ∀ K q, AtV Tryz.prog 3 (PostR kds3 oks3 ds [] [] q K) 145 K q [] (cutAt b3 19) (E3_19 x1) (L3_19 x1)) ∧ (∀ (v24 : Int) (x1 : List Int) ds, R3_20 n v24 x1 ds → ∀ K q, AtV Tryz.prog 3 (PostR kds3 oks3 ds [] [] q K) 145 K q [] (cutAt b3 20) (E3_20 v24 x1) (L3_20 v24 x1)) ∧ (∀ (v24 : Int) (x1 : List Int) ds, R3_22 n v24 x1 ds → ∀ K q, AtV Tryz.prog 3 (PostR kds3 oks3 ds [] [] q K) 145 K q [] (cutAt b3 22) (E3_22 v24 x1) (L3_22 v24 x1)) ∧ (∀ (v24 : Int) (x1 : List Int) ds, R3_21 n v24 x1 ds → ∀ K q, AtV Tryz.prog 3 (PostR kds3 oks3 ds [] [] q K) 145 K q [] (cutAt b3 21) (E3_21 v24 x1) (L3_21 v24 x1)) := by
  intro n
  induction n with
  | zero => exact ⟨fun _ _ _ h => by simp only [R3] at h, fun _ _ _ h => by simp only [R3_3] at h, fun _ _ _ h => by simp only [R3_10] at h, fun _ _ h => by simp only [R3_19] at h, fun _ _ _ h => by simp only [R3_20] at h, fun _ _ _ h => by simp only [R3_22] at h, fun _ _ _ h => by simp only [R3_21] at h⟩
  | succ n ih =>
  obtain ⟨ih, ih3, ih10, ih19, ih20, ih22, ih21⟩ := ih
  refine ⟨?_, ?_, ?_, ?_, ?_, ?_, ?_⟩
  · intro x0 x1 ds h K q
    rw [R3] at h
    by_cases b0 : (g4_0 x0 x1) = true
    · rw [if_pos b0] at h
      subst h
      exact AtV.ret Tryz.func3 tabOk ext3Ok mixed false [3, 10, 19, 22, 21] tys3 [true] (a1 trivial (a1 b0 trivial)) (by kernel_rfl)
    · rw [if_neg b0] at h
      replace b0 := Bool.eq_false_iff.2 b0
      exact AtV.go tabOk ext3Ok mixed false [3, 10, 19, 22, 21] [] [0, 1] [] [false] (a1 trivial (a1 b0 trivial)) (ih3 _ _ _ h K q) (by kernel_rfl)
  · intro x0 x1 ds h K q
    rw [R3_3] at h
    obtain ⟨s0, h⟩ := h
    obtain ⟨s1, h⟩ := h
    obtain ⟨s2, h⟩ := h
    obtain ⟨s3, h⟩ := h
    obtain ⟨s4, h⟩ := h
    by_cases b0 : (g6_1 (g5_0 x0) != 0) = true
    · rw [if_pos b0] at h
      subst h
      exact AtV.ret Tryz.func3 tabOk ext3Ok mixed false [3, 10, 19, 22, 21] tys3 [true, true, true, true, true, true] (a1 s0 (a1 s1 (a1 s2 (a1 s3 (a1 s4 (a1 b0 (a1 (rfl : true = true) (a1 (rfl : true = true) (a1 (rfl : true = true) (a1 (rfl : true = true) (a1 (rfl : true = true) trivial))))))))))) (by kernel_rfl)
    · rw [if_neg b0] at h
      replace b0 := Bool.eq_false_iff.2 b0
      by_cases b1 : (g7_2 (g6_0 (g5_0 x0)) != 0) = true
      · rw [if_pos b1] at h
        subst h
        exact AtV.ret Tryz.func3 tabOk ext3Ok mixed false [3, 10, 19, 22, 21] tys3 [false, true, true, true, true, true] (a1 s0 (a1 s1 (a1 s2 (a1 s3 (a1 s4 (a1 b0 (a1 b1 (a1 (rfl : true = true) (a1 (rfl : true = true) (a1 (rfl : true = true) (a1 (rfl : true = true) trivial))))))))))) (by kernel_rfl)
      · rw [if_neg b1] at h
        replace b1 := Bool.eq_false_iff.2 b1
        by_cases b2 : (g7_1 (g6_0 (g5_0 x0)) != 0) = true
        · rw [if_pos b2] at h
          subst h
          exact AtV.ret Tryz.func3 tabOk ext3Ok mixed false [3, 10, 19, 22, 21] tys3 [false, false, true, true, true, true] (a1 s0 (a1 s1 (a1 s2 (a1 s3 (a1 s4 (a1 b0 (a1 b1 (a1 b2 (a1 (rfl : true = true) (a1 (rfl : true = true) (a1 (rfl : true = true) trivial))))))))))) (by kernel_rfl)
        · rw [if_neg b2] at h
          replace b2 := Bool.eq_false_iff.2 b2
          by_cases b3 : (!g10_0 (g7_0 (g6_0 (g5_0 x0))) (g5_0 x0)) = true
          · rw [if_pos b3] at h
            subst h
            exact AtV.ret Tryz.func3 tabOk ext3Ok mixed false [3, 10, 19, 22, 21] tys3 [false, false, false, true, true, true] (a1 s0 (a1 s1 (a1 s2 (a1 s3 (a1 s4 (a1 b0 (a1 b1 (a1 b2 (a1 trivial (a1 b3 (a1 (rfl : true = true) (a1 (rfl : true = true) trivial)))))))))))) (by kernel_rfl)
          · rw [if_neg b3] at h
            replace b3 := Bool.eq_false_iff.2 b3
            by_cases b4 : ((↑(List.length (g8_0 (g6_0 (g5_0 x0)))) : Int) != 0) = true
            · rw [if_pos b4] at h
              subst h
              exact AtV.ret Tryz.func3 tabOk ext3Ok mixed false [3, 10, 19, 22, 21] tys3 [false, false, false, false, true, true] (a1 s0 (a1 s1 (a1 s2 (a1 s3 (a1 s4 (a1 b0 (a1 b1 (a1 b2 (a1 trivial (a1 b3 (a1 b4 (a1 (rfl : true = true) trivial)))))))))))) (by kernel_rfl)
            · rw [if_neg b4] at h
              replace b4 := Bool.eq_false_iff.2 b4
              by_cases b5 : (!g10_0 (g9_0 (g6_0 (g5_0 x0))) (g5_0 x0)) = true
              · rw [if_pos b5] at h
                subst h
                exact AtV.ret Tryz.func3 tabOk ext3Ok mixed false [3, 10, 19, 22, 21] tys3 [false, false, false, false, false, true] (a1 s0 (a1 s1 (a1 s2 (a1 s3 (a1 s4 (a1 b0 (a1 b1 (a1 b2 (a1 trivial (a1 b3 (a1 b4 (a1 trivial (a1 b5 trivial))))))))))))) (by kernel_rfl)
              · rw [if_neg b5] at h
                replace b5 := Bool.eq_false_iff.2 b5
                exact AtV.go tabOk ext3Ok mixed false [3, 10, 19, 22, 21] [] [1, 5] [0] [false, false, false, false, false, false] (a1 s0 (a1 s1 (a1 s2 (a1 s3 (a1 s4 (a1 b0 (a1 b1 (a1 b2 (a1 trivial (a1 b3 (a1 b4 (a1 trivial (a1 b5 trivial))))))))))))) (ih10 _ _ _ h K q) (by kernel_rfl)
  · intro x1 x0 ds h K q
    rw [R3_10] at h
    obtain ⟨s0, h⟩ := h
    obtain ⟨s1, h⟩ := h
    obtain ⟨s2, s3, h⟩ := h
    obtain ⟨s4, h⟩ := h
    obtain ⟨s5, h⟩ := h
    obtain ⟨s6, h⟩ := h
    obtain ⟨s7, s8, h⟩ := h
    obtain ⟨s9, h⟩ := h
    obtain ⟨s10, h⟩ := h
    obtain ⟨s11, h⟩ := h
    obtain ⟨s12, h⟩ := h
    by_cases b0 : (g7_2 (bytesStr (List.set (bytesOf (g11_0 (g5_0 x0))) (Int.toNat (g12_0 x1 0 (↑(List.length (bytesOf (g11_0 (g5_0 x0)))) : Int))) (IntKind.wrap IntKind.u8 (↑(BitVec.toNat (BitVec.ofInt 8 (List.getD (bytesOf (g11_0 (g5_0 x0))) (Int.toNat (g12_0 x1 0 (↑(List.length (bytesOf (g11_0 (g5_0 x0)))) : Int))) 0) ^^^ BitVec.ofInt 8 (1 + g13_0 x1 2 255))) : Int)))) == 0) = true
    · rw [if_pos b0] at h
      subst h
      exact AtV.ret Tryz.func3 tabOk ext3Ok mixed false [3, 10, 19, 22, 21] tys3 [true, true, true, true] (a1 s0 (a1 s1 (a1 s2 (a1 s3 (a1 s4 (a1 s5 (a1 s6 (a1 s7 (a1 s8 (a1 s9 (a1 s10 (a1 s11 (a1 s12 (a1 b0 (a1 (rfl : true = true) (a1 (rfl : true = true) (a1 (rfl : true = true) trivial))))))))))))))))) (by kernel_rfl)
    · rw [if_neg b0] at h
      replace b0 := Bool.eq_false_iff.2 b0
      by_cases b1 : (g15_1 (g14_0 x1) != 0) = true
      · rw [if_pos b1] at h
        subst h
        exact AtV.ret Tryz.func3 tabOk ext3Ok mixed false [3, 10, 19, 22, 21] tys3 [false, true, true, true] (a1 s0 (a1 s1 (a1 s2 (a1 s3 (a1 s4 (a1 s5 (a1 s6 (a1 s7 (a1 s8 (a1 s9 (a1 s10 (a1 s11 (a1 s12 (a1 b0 (a1 b1 (a1 (rfl : true = true) (a1 (rfl : true = true) trivial))))))))))))))))) (by kernel_rfl)
      · rw [if_neg b1] at h
        replace b1 := Bool.eq_false_iff.2 b1
        by_cases b2 : (g16_1 (g15_0 (g14_0 x1)) != 0) = true
        · rw [if_pos b2] at h
          subst h
          exact AtV.ret Tryz.func3 tabOk ext3Ok mixed false [3, 10, 19, 22, 21] tys3 [false, false, true, true] (a1 s0 (a1 s1 (a1 s2 (a1 s3 (a1 s4 (a1 s5 (a1 s6 (a1 s7 (a1 s8 (a1 s9 (a1 s10 (a1 s11 (a1 s12 (a1 b0 (a1 b1 (a1 b2 (a1 (rfl : true = true) trivial))))))))))))))))) (by kernel_rfl)
        · rw [if_neg b2] at h
          replace b2 := Bool.eq_false_iff.2 b2
          by_cases b3 : ((↑(List.length (g16_0 (g15_0 (g14_0 x1)))) : Int) != (↑(List.length (g14_0 x1)) : Int)) = true
          · rw [if_pos b3] at h
            subst h
            exact AtV.ret Tryz.func3 tabOk ext3Ok mixed false [3, 10, 19, 22, 21] tys3 [false, false, false, true] (a1 s0 (a1 s1 (a1 s2 (a1 s3 (a1 s4 (a1 s5 (a1 s6 (a1 s7 (a1 s8 (a1 s9 (a1 s10 (a1 s11 (a1 s12 (a1 b0 (a1 b1 (a1 b2 (a1 b3 trivial))))))))))))))))) (by kernel_rfl)
          · rw [if_neg b3] at h
            replace b3 := Bool.eq_false_iff.2 b3
            exact AtV.go tabOk ext3Ok mixed false [3, 10, 19, 22, 21] [] [19, 22] [3, 5] [false, false, false, false] (a1 s0 (a1 s1 (a1 s2 (a1 s3 (a1 s4 (a1 s5 (a1 s6 (a1 s7 (a1 s8 (a1 s9 (a1 s10 (a1 s11 (a1 s12 (a1 b0 (a1 b1 (a1 b2 (a1 b3 trivial))))))))))))))))) (ih19 _ _ h K q) (by kernel_rfl)
  · intro x1 ds h K q
    rw [R3_19] at h
    exact AtV.go tabOk ext3Ok mixed false [3, 10, 19, 22, 21] [] [19, 22, 24] [0, 1] [] trivial (ih20 _ _ _ h K q) (by kernel_rfl)
  · intro v24 x1 ds h K q
    rw [R3_20] at h
    by_cases b0 : (decide (v24 < (↑(List.length (g14_0 x1)) : Int))) = true
    · rw [if_pos b0] at h
      exact AtV.go tabOk ext3Ok mixed false [3, 10, 19, 22, 21] [] [19, 22, 24] [0, 1] [true] (a1 b0 trivial) (ih22 _ _ _ h K q) (by kernel_rfl)
    · rw [if_neg b0] at h
      replace b0 := Bool.eq_false_iff.2 b0
      subst h
      exact AtV.ret Tryz.func3 tabOk ext3Ok mixed false [3, 10, 19, 22, 21] tys3 [false] (a1 b0 trivial) (by kernel_rfl)
  · intro v24 x1 ds h K q
    rw [R3_22] at h
    obtain ⟨s0, s1, h⟩ := h
    obtain ⟨s2, h⟩ := h
    obtain ⟨s3, s4, h⟩ := h
    obtain ⟨s5, h⟩ := h
    by_cases b0 : (!ByteArray.toList (g17_0 (List.getD (g16_0 (g15_0 (g14_0 x1))) (Int.toNat v24) (ByteArray.empty, 0, 0, 0, 0, ()))) == ByteArray.toList (g17_0 (List.getD (g14_0 x1) (Int.toNat v24) (ByteArray.empty, 0, 0, 0, 0, ())))) = true
    · rw [if_pos b0] at h
      subst h
      exact AtV.ret Tryz.func3 tabOk ext3Ok mixed false [3, 10, 19, 22, 21] tys3 [true] (a1 s0 (a1 s1 (a1 s2 (a1 s3 (a1 s4 (a1 s5 (a1 b0 trivial))))))) (by kernel_rfl)
    · rw [if_neg b0] at h
      replace b0 := Bool.eq_false_iff.2 b0
      exact AtV.go tabOk ext3Ok mixed false [3, 10, 19, 22, 21] [] [19, 22, 24] [0, 1] [false] (a1 s0 (a1 s1 (a1 s2 (a1 s3 (a1 s4 (a1 s5 (a1 b0 trivial))))))) (ih21 _ _ _ h K q) (by kernel_rfl)
  · intro v24 x1 ds h K q
    rw [R3_21] at h
    obtain ⟨s0, h⟩ := h
    exact AtV.go tabOk ext3Ok mixed false [3, 10, 19, 22, 21] [] [19, 22, 24] [0, 1] [] (a1 s0 trivial) (ih20 _ _ _ h K q) (by kernel_rfl)
def g3_0 (x0 x1 : List Int) : Bool := true
def P3 (x0 x1 : List Int) : Prop := True
theorem drawn3 {x : List Int} (hw : Wf (.sl (.int .u8)) x) : P5 x ∧ g37_0 (g5_0 x) = true ∧ (g5_0 x).length ≤ 5 := by
  have p : P19 (x, 0, 0, ()) := (src_start hw).up (by decide)
  obtain ⟨_, a, b, _⟩ := q19 _ p
  exact ⟨⟨p, trivial⟩, a, b⟩
theorem asc3 : NM39.Pairwise fun a b => Op.bytesLess (ByteArray.toList a) (ByteArray.toList b) = true := by
  unfold NM39
  simp only [Lib.toList_data]
  decide
theorem name3 : ∀ y ∈ NM39, g80_0 y = true := by
  intro y hy
  unfold NM39 at hy
  simp only [List.mem_cons, List.mem_nil_iff, or_false] at hy
  rcases hy with rfl | rfl | rfl | rfl | rfl <;> rfl
theorem checks3 {x : List Int} (hw : Wf (.sl (.int .u8)) x) : P14 x ∧ Asc (g14_0 x) ∧ (∀ y ∈ g14_0 x, g67_0 y = true ∧ P17 y) ∧ (g14_0 x).length ≤ 5 := by
  have p : P39 (x, 0, 0, ()) := (src_start hw).up (by decide)
  obtain ⟨_, ⟨a, b⟩, _⟩ := q39 _ p
  obtain ⟨w, ew⟩ : ∃ w, g14_0 x = w := ⟨_, rfl⟩
  have a : (w.map fun x => x.1).Sublist NM39 := by rw [← ew]; exact a
  have b : ∀ y ∈ w, bnd39 y := by rw [← ew]; exact b
  rw [ew]
  refine ⟨⟨p, trivial⟩, asc3.sublist a, fun y hy => ?_, ?_⟩
  · have hn := name3 y.1 (a.subset (List.mem_map.2 ⟨y, hy, rfl⟩))
    obtain ⟨b1, b2, b3, b4⟩ := b y hy
    have b1' : 1 ≤ y.2.1 ∧ y.2.1 ≤ 365 := by
      simp only [List.mem_cons, List.mem_nil_iff, or_false] at b1
      omega
    refine ⟨?_, ?_⟩
    · unfold g67_0
      rw [if_pos hn, if_pos (wnC.2 ⟨by omega, by omega⟩), if_pos (wnC.2 ⟨by omega, by omega⟩), if_pos (show g101_0 y.2.2.2.1 = true from wnC.2 ⟨by omega, by omega⟩)]
      exact wnC.2 ⟨by omega, by omega⟩
    · have hz : y.1.size ≤ 10 := by rw [name_eq] at hn; exact name_size hn
      unfold P17
      split
      · trivial
      · refine ⟨(text_check (by omega) fun v hv => ?_).1, trivial⟩
        simp only [List.mem_cons, List.mem_nil_iff, or_false] at hv
        rw [i64_iff]
        rcases hv with rfl | rfl | rfl | rfl <;> omega
  · have := a.length_le
    rw [List.length_map] at this
    exact this
theorem tail3 {x1 : List Int} {w : List TyB0} (ew : g14_0 x1 = w) (hl : w.length ≤ 5) (hb : g16_0 (g15_0 w) = w) (hp : ∀ y ∈ w, P17 y) :
    ∀ (k v : Nat), v + k = w.length → R3_20 (3 * k + 1) (v : Int) x1 [⟨.bool, true⟩] := by
  intro k
  induction k with
  | zero =>
    intro v hv
    rw [R3_20, ew, if_neg (by simp only [decide_eq_true_eq]; omega)]
  | succ k ih =>
    intro v hv
    have e3 : (v : Int) + 1 = ((v + 1 : Nat) : Int) := by omega
    have hm := hp _ (mem_getD w v (ByteArray.empty, (0 : Int), (0 : Int), (0 : Int), (0 : Int), ()) (by omega))
    rw [show 3 * (k + 1) + 1 = 3 * k + 1 + 1 + 1 + 1 by omega, R3_20, ew, if_pos (by simp only [decide_eq_true_eq]; omega), R3_22, ew, hb]
    simp only [Int.toNat_natCast]
    refine ⟨by omega, by omega, hm, by omega, by omega, hm, ?_⟩
    rw [if_neg (show ¬ (!ByteArray.toList (g17_0 (w.getD v (ByteArray.empty, (0 : Int), (0 : Int), (0 : Int), (0 : Int), ()))) == ByteArray.toList (g17_0 (w.getD v (ByteArray.empty, (0 : Int), (0 : Int), (0 : Int), (0 : Int), ())))) = true by rw [beq_self_eq_true]; decide), R3_21, e3]
    exact ⟨by rw [i64_iff]; omega, ih (v + 1) (by omega)⟩
theorem save3 {x : List TyB1} (hk : g37_0 x = true) : P6 x ∧ g6_0 x = ⟨⟨txtL x⟩⟩ ∧ g6_1 x = 0 := by
  have hv : g20_0 x = true := by rw [blocks_eq]; exact hk
  have hl := (sorted _ hk).1
  have e0 : g6_0 x = acc6 x x.length := by unfold g6_0; rw [if_pos hv]
  refine ⟨fun b hb => ?_, ?_, by unfold g6_1; rw [if_pos hv]⟩
  · obtain ⟨⟨n1, n2⟩, _, n3⟩ := one_parts (ok_one hk b hb)
    have s1 := name_size n1
    have s2 := name_size n2
    refine ⟨line_pre b (by omega) (by omega) (by omega), ?_⟩
    rw [line_size]
    omega
  · rw [e0]
    show _ = (⟨⟨enc (hdrL x :: x.map lineL)⟩⟩ : ByteArray)
    rw [← save_enc x]
    unfold acc6 g38_0 hd38
    rw [List.take_length]
    have ef : (fun o b => o ++ (g24_0 b ++ ByteArray.mk #[10])) = fun (o : ByteArray) (b : TyB1) => o ++ g65_0 b := by
      funext o b
      rw [line_both]
    rw [ef]
    rfl
theorem all3 {x : List TyB1} (hk : g37_0 x = true) : P8 ⟨⟨txtL x⟩⟩ ∧ P9 ⟨⟨txtL x⟩⟩ ∧ g8_0 ⟨⟨txtL x⟩⟩ = [] ∧ g9_0 ⟨⟨txtL x⟩⟩ = x := by
  obtain ⟨hf, hl⟩ := lines_ok hk
  have hfree : ∀ l ∈ hdrL x :: x.map lineL, (10 : UInt8) ∉ l := fun l h => (hf l h).1
  have hlen := (txt_len hk).2
  obtain ⟨q1, q2⟩ := text_pre ⟨⟨txtL x⟩⟩ _ rfl hfree hlen
  obtain ⟨_, e2, e3⟩ := ended_enc _ hfree
  have em : (hdrL x :: x.map lineL).map (fun l => (⟨⟨l⟩⟩ : ByteArray)) = ⟨⟨hdrL x⟩⟩ :: x.map lineM := by
    rw [List.map_cons, List.map_map]
    rfl
  rw [em] at e2
  have e2 : g33_0 ⟨⟨txtL x⟩⟩ = ⟨⟨hdrL x⟩⟩ :: x.map lineM := e2
  have e3 : g33_1 ⟨⟨txtL x⟩⟩ = ⟨⟨[]⟩⟩ := e3
  refine ⟨q1, q2, ?_, ?_⟩
  · unfold g8_0 tl8
    rw [e2, e3]
    have d0 : dm8 0 (⟨⟨hdrL x⟩⟩ :: x.map lineM) = dm8 1 (x.map lineM) := by
      conv => lhs; unfold dm8
      rw [if_neg (by decide), List.nil_append]
    rw [d0, dm_ok x 1 (ok_one hk), if_neg (show ¬ (!ByteArray.toList (ByteArray.mk ⟨[]⟩) == ByteArray.toList (ByteArray.mk #[])) = true by rw [show (ByteArray.mk ⟨[]⟩) = ByteArray.mk #[] from rfl]; simp), List.append_nil]
  · unfold g9_0 ls9
    rw [e2, List.drop_succ_cons, List.drop_zero, salvage_run x [] hk]
    rfl
theorem top3 (x0 x1 : List Int) (w0 : Wf (.sl (.int .u8)) x0) (w1 : Wf (.sl (.int .u8)) x1) : ∃ n, R3 n x0 x1 [⟨.bool, g3_0 x0 x1⟩] := by
  unfold g3_0
  obtain ⟨p0, hk, hl⟩ := drawn3 w0
  obtain ⟨x, ex⟩ : ∃ x, g5_0 x0 = x := ⟨_, rfl⟩
  rw [ex] at hk hl
  obtain ⟨p6, eF, eF1⟩ := save3 hk
  obtain ⟨p8, p9, e8, e9⟩ := all3 hk
  have hB := load_back hk
  obtain ⟨q0, eT⟩ := save_law hk
  obtain ⟨l1, l2⟩ := txt_len hk
  obtain ⟨q1, a1, a2⟩ := r8_wide w1 ((txtL x).length : Int) (by omega) (by omega)
  obtain ⟨a, ea⟩ := Int.eq_ofNat_of_zero_le a1
  obtain ⟨q2, b1, b2⟩ := r8_at w1 2 255 (by decide) (by decide) (by decide)
  obtain ⟨v, hv, eW⟩ := flip_byte ((txtL x).getD a 0) (m := 1 + g13_0 x1 2 255) (by omega) (by omega)
  have eL := bytes_len (txtL x)
  have eG := bytes_at (txtL x) a
  have eS := bytes_set (txtL x) a v
  have hbad := load_bad hk (i := a) (by omega) hv
  have p7 := load_pre (txtL x) (by omega)
  have p7' := load_pre ((txtL x).set a v) (by rw [List.length_set]; omega)
  have u1 : InR .i64 (1 + g13_0 x1 2 255) := by rw [i64_iff]; omega
  have u2 : InR .u8 (1 + g13_0 x1 2 255) := (u8_iff _).2 ⟨by omega, by omega⟩
  obtain ⟨p14, hasc, hch, hwl⟩ := checks3 w1
  obtain ⟨w, ew⟩ : ∃ w, g14_0 x1 = w := ⟨_, rfl⟩
  rw [ew] at hasc hch hwl
  obtain ⟨p15, d15, p16, d16, hback⟩ := checks_back hasc (fun y hy => (hch y hy).1) (by omega)
  have key := tail3 ew hwl hback (fun y hy => (hch y hy).2) w.length 0 (by omega)
  have m0 : g7_0 ⟨⟨txtL x⟩⟩ = x := by unfold g7_0; rw [hB]
  have m1 : g7_1 ⟨⟨txtL x⟩⟩ = 0 := by unfold g7_1; rw [hB]
  have m2 : g7_2 ⟨⟨txtL x⟩⟩ = 0 := by unfold g7_2; rw [hB]
  have es : g10_0 x x = true := decide_eq_true rfl
  refine ⟨3 * w.length + 1 + 1 + 1 + 1 + 1, ?_⟩
  rw [R3]
  split
  · rfl
  rw [R3_3, ex, eF, eF1, m0, m1, m2, e8, e9, es]
  refine ⟨p0, p6, p7, p8, p9, ?_⟩
  rw [if_neg (by decide), if_neg (by decide), if_neg (by decide), if_neg (by decide), if_neg (by decide), if_neg (by decide), R3_10, ex, ew, eT, eL, ea]
  simp only [Int.toNat_natCast, eG, eW, eS, d15, d16, hback]
  refine ⟨q0, q1, by omega, by omega, q2, u1, u2, by omega, by omega, p7', p14, p15, p16, ?_⟩
  rw [if_neg (by simpa using hbad), if_neg (by decide), if_neg (by decide), if_neg (by simp), R3_19]
  exact key
def S3 : Am.Spec := { sig := sig3, pre := fun ⟨x0, x1, _⟩ => P3 x0 x1, res := fun ⟨x0, x1, _⟩ => [⟨Ty.bool, g3_0 x0 x1⟩] }
theorem con3 : Contract Tryz.prog 3 S3 := contract_of Tryz.func3 hb3 (Nat.le_of_ble_eq_true (by kernel_rfl)) (fun ⟨x0, x1, _⟩ h hwf K q =>
  let ⟨n, hn⟩ := top3 x0 x1 hwf.1 hwf.2.1
  (snd3 n).1 x0 x1 _ hn K q)
end
theorem law3 (x0 x1 : List Int) (h0 : Wf (.sl (.int .u8)) x0) (h1 : Wf (.sl (.int .u8)) x1) : P3 x0 x1 ∧ g3_0 x0 x1 = true := ⟨trivial, rfl⟩
end Go.Proofs.YtbepbihblhhfkaaGreatDoor
