/- Several texts in one: the functions that this law reaches, and their laws. -/
import Derived.Test.YtnclnmljkoicdaaGreatDoorZ3A
import Derived.Test.YtnclnmljkoicdaaGreatDoorZ3B
import Derived.Test.YtnclnmljkoicdaaGreatDoorZ3C
import Derived.Shelf.Utf8.RuneCount
import Derived.Shelf.Strconv.Itoa0
import Derived.Shelf.Strconv.Itoa1
import Derived.Shelf.LaysM
import Derived.Shelf.Strconv.Itoa2
import Derived.Shelf.Strconv.Itoa3
import Derived.Shelf.Strconv.Itoa4
import Derived.Shelf.Strings.Search1
import Derived.Shelf.Strings.Search2
import Derived.Shelf.Strings.Search3
import Derived.Shelf.Strings.Count
import Derived.Shelf.Strings.Shaped
import Derived.Shelf.Strings.Split
import Derived.Shelf.Strings.SplitShaped
import Derived.Shelf.Unicode.Decode
import Derived.Shelf.Strings.RuneCount
import Derived.Shelf.Strings.Explode
import Derived.Shelf.Unicode.DecodeSlow
import Derived.Shelf.Unicode.DecodeAny
import Derived.Lib.SliceRun
import Derived.Laws.AppendOwn
import Derived.WalkKit
import Derived.Deep.LoopGhost
import Derived.Lib.Walk
import Derived.Shelf.RegionOpenPlain
import Derived.Lib.TrimByte
set_option linter.unusedVariables false
set_option linter.unusedSimpArgs false
set_option maxRecDepth 100000
namespace Go.Proofs.YtnclnmljkoicdaaGreatDoor
open Go Go.Am Go.Proofs
noncomputable section
def ext90 : Ext := [(107, S107)]
theorem ext90Ok : ExtOk Tryz.prog ext90 := ⟨⟨ca107, con107⟩, trivial⟩
noncomputable def b90 : Code := bodyOf Tryz.f90
theorem hb90 : Tryz.f90.body = some b90 := by kernel_rfl
def sig90 : List AT := [AT.v (Ty.sl YA5)]
def tys90 : List Ty := [Ty.bool]
def kds90 : List RK := []
def oks90 : List AT := owns sig90
def E90_2 (v7 : Int) (x0 : List TyB1) : Env := [(0, PV.a (Atom.sl YA5 x0)), (5, PV.a (Atom.sl YA5 x0)), (6, PV.a (Atom.val (Value.int .i64 (↑(List.length x0) : Int)))), (7, PV.a (Atom.val (Value.int .i64 v7)))]
def L90_2 (v7 : Int) (x0 : List TyB1) : Heap := []
mutual
def R90 : Nat → List TyB1 → List Dyn → Prop
  | 0, _, _ => False
  | n + 1, x0, ds => (R90_2 n (0) (x0) ds)
def R90_2 : Nat → Int → List TyB1 → List Dyn → Prop
  | 0, _, _, _ => False
  | n + 1, v7, x0, ds => (if (decide (v7 < (↑(List.length x0) : Int))) = true then ((0 ≤ v7) ∧ (v7 < (↑(List.length x0) : Int)) ∧ (if (!g107_0 (List.getD x0 (Int.toNat v7) (ByteArray.empty, 0, 0, 0, ()))) = true then (ds = [Dyn.mk Ty.bool false]) else (if (decide (v7 > 0)) = true then ((InR .i64 (v7 - 1)) ∧ ((0 ≤ v7 - 1) ∧ (v7 - 1 < (↑(List.length x0) : Int)) ∧ (if (Op.bytesLess (ByteArray.toList (List.getD x0 (Int.toNat v7) (ByteArray.empty, 0, 0, 0, ())).1) (ByteArray.toList (List.getD x0 (Int.toNat (v7 - 1)) (ByteArray.empty, 0, 0, 0, ())).1) || ByteArray.toList (List.getD x0 (Int.toNat v7) (ByteArray.empty, 0, 0, 0, ())).1 == ByteArray.toList (List.getD x0 (Int.toNat (v7 - 1)) (ByteArray.empty, 0, 0, 0, ())).1) = true then (ds = [Dyn.mk Ty.bool false]) else ((InR .i64 (v7 + 1)) ∧ (R90_2 n (v7 + 1) (x0) ds))))) else ((InR .i64 (v7 + 1)) ∧ (R90_2 n (v7 + 1) (x0) ds))))) else (ds = [Dyn.mk Ty.bool (decide ((↑(List.length x0) : Int) ≤ 12))]))
end
theorem snd90 : ∀ n, (∀ (x0 : List TyB1) ds, R90 n x0 ds → ∀ K q, AtV Tryz.prog 90 (PostR kds90 oks90 ds [] [] q K) 34 K q [] [.code b90] (entE 0 0 sig90 (x0, ())) (entL sig90 (x0, ()))) ∧ (∀ (v7 : Int) (x0 : List TyB1) ds, R90_2 n v7 x0 ds → ∀ K q, AtV Tryz.prog 90 (PostR kds90 oks90 ds [] [] q K) 34 K q [] (cutAt b90 2) (E90_2 v7 x0) (L90_2 v7 x0)) := by
  intro n
  induction n with
  | zero => exact ⟨fun _ _ h => by simp only [R90] at h, fun _ _ _ h => by simp only [R90_2] at h⟩
  | succ n ih =>
  obtain ⟨ih, ih2⟩ := ih
  refine ⟨?_, ?_⟩
  · intro x0 ds h K q
    rw [R90] at h
    exact AtV.go tabOk ext90Ok mixed false [] [] [0, 5, 6, 7] [] [] trivial (ih2 _ _ _ h K q) (by kernel_rfl)
  · intro v7 x0 ds h K q
    rw [R90_2] at h
    by_cases b0 : (decide (v7 < (↑(List.length x0) : Int))) = true
    · rw [if_pos b0] at h
      obtain ⟨s0, s1, h⟩ := h
      by_cases b1 : (!g107_0 (List.getD x0 (Int.toNat v7) (ByteArray.empty, 0, 0, 0, ()))) = true
      · rw [if_pos b1] at h
        subst h
        exact AtV.ret Tryz.func90 tabOk ext90Ok mixed false [] tys90 [true, true, true] (a1 b0 (a1 s0 (a1 s1 (a1 trivial (a1 b1 (a1 (rfl : true = true) trivial)))))) (by kernel_rfl)
      · rw [if_neg b1] at h
        replace b1 := Bool.eq_false_iff.2 b1
        by_cases b2 : (decide (v7 > 0)) = true
        · rw [if_pos b2] at h
          obtain ⟨s2, h⟩ := h
          obtain ⟨s3, s4, h⟩ := h
          by_cases b3 : (Op.bytesLess (ByteArray.toList (List.getD x0 (Int.toNat v7) (ByteArray.empty, 0, 0, 0, ())).1) (ByteArray.toList (List.getD x0 (Int.toNat (v7 - 1)) (ByteArray.empty, 0, 0, 0, ())).1) || ByteArray.toList (List.getD x0 (Int.toNat v7) (ByteArray.empty, 0, 0, 0, ())).1 == ByteArray.toList (List.getD x0 (Int.toNat (v7 - 1)) (ByteArray.empty, 0, 0, 0, ())).1) = true
          · rw [if_pos b3] at h
            subst h
            exact AtV.ret Tryz.func90 tabOk ext90Ok mixed false [] tys90 [true, false, true, true] (a1 b0 (a1 s0 (a1 s1 (a1 trivial (a1 b1 (a1 b2 (a1 s2 (a1 s3 (a1 s4 (a1 b3 trivial)))))))))) (by kernel_rfl)
          · rw [if_neg b3] at h
            replace b3 := Bool.eq_false_iff.2 b3
            obtain ⟨s5, h⟩ := h
            exact AtV.go tabOk ext90Ok mixed false [] [] [0, 5, 6, 7] [] [true, false, true, false] (a1 b0 (a1 s0 (a1 s1 (a1 trivial (a1 b1 (a1 b2 (a1 s2 (a1 s3 (a1 s4 (a1 b3 (a1 s5 trivial))))))))))) (ih2 _ _ _ h K q) (by kernel_rfl)
        · rw [if_neg b2] at h
          replace b2 := Bool.eq_false_iff.2 b2
          obtain ⟨s2, h⟩ := h
          exact AtV.go tabOk ext90Ok mixed false [] [] [0, 5, 6, 7] [] [true, false, false, false] (a1 b0 (a1 s0 (a1 s1 (a1 trivial (a1 b1 (a1 b2 (a1 (rfl : false = false) (a1 s2 trivial)))))))) (ih2 _ _ _ h K q) (by kernel_rfl)
    · rw [if_neg b0] at h
      replace b0 := Bool.eq_false_iff.2 b0
      subst h
      exact AtV.ret Tryz.func90 tabOk ext90Ok mixed false [] tys90 [false] (a1 b0 trivial) (by kernel_rfl)
def ok90 (x0 : List TyB1) (i : Nat) (x : TyB1) : Bool :=
  g107_0 x && (i == 0 || !(Op.bytesLess (ByteArray.toList x.1) (ByteArray.toList (x0.getD (i - 1) (ByteArray.empty, (0 : Int), (0 : Int), (0 : Int), ())).1) || ByteArray.toList x.1 == ByteArray.toList (x0.getD (i - 1) (ByteArray.empty, (0 : Int), (0 : Int), (0 : Int), ())).1))
def g90_0 (x0 : List TyB1) : Bool := allI (ok90 x0) 0 x0 && decide (x0.length ≤ 12)
def P90 (x0 : List TyB1) : Prop := True
theorem step90 (n i : Nat) (x0 : List TyB1) (hm : x0.length ≤ maxLen) (hi : i < x0.length) (ds : List Dyn) :
    (if ok90 x0 i (x0.getD i (ByteArray.empty, (0 : Int), (0 : Int), (0 : Int), ())) = true then R90_2 n ((i : Int) + 1) x0 ds else ds = [⟨.bool, false⟩]) → R90_2 (n + 1) (i : Int) x0 ds := by
  intro h
  have hu := inR_up hm hi
  rw [R90_2, if_pos (by simp; omega)]
  refine ⟨by omega, by omega, ?_⟩
  simp only [Int.toNat_natCast]
  unfold ok90 at h
  by_cases h1 : g107_0 (x0.getD i (ByteArray.empty, (0 : Int), (0 : Int), (0 : Int), ())) = true
  case neg =>
    have h1 := Bool.eq_false_iff.2 h1
    rw [h1] at h
    rw [if_pos (by rw [h1]; rfl)]
    simpa using h
  case pos =>
    rw [h1] at h
    rw [if_neg (by rw [h1]; simp)]
    by_cases h0 : (i : Int) > 0
    · rw [if_pos (by simpa using h0)]
      have hi0 : (i == 0) = false := by simp; omega
      have e : ((i : Int) - 1).toNat = i - 1 := by omega
      refine ⟨by rw [i64_iff]; have : maxLen ≤ 9223372036854775807 := by decide
                 omega, by omega, by omega, ?_⟩
      rw [e]
      by_cases h2 : (Op.bytesLess (ByteArray.toList (x0.getD i (ByteArray.empty, (0 : Int), (0 : Int), (0 : Int), ())).1) (ByteArray.toList (x0.getD (i - 1) (ByteArray.empty, (0 : Int), (0 : Int), (0 : Int), ())).1) || ByteArray.toList (x0.getD i (ByteArray.empty, (0 : Int), (0 : Int), (0 : Int), ())).1 == ByteArray.toList (x0.getD (i - 1) (ByteArray.empty, (0 : Int), (0 : Int), (0 : Int), ())).1) = true
      · rw [if_pos h2]
        rw [hi0, h2] at h
        simpa using h
      · rw [if_neg h2]
        rw [hi0, Bool.eq_false_iff.2 h2] at h
        exact ⟨hu, by simpa using h⟩
    · rw [if_neg (by simpa using h0)]
      have hi0 : (i == 0) = true := by simp; omega
      rw [hi0] at h
      exact ⟨hu, by simpa using h⟩
theorem top90 (x0 : List TyB1) (hw : x0.length ≤ maxLen) : R90 (x0.length + 1 + 1) x0 [⟨.bool, g90_0 x0⟩] := by
  rw [R90]
  have key := loop_testI x0 (ByteArray.empty, (0 : Int), (0 : Int), (0 : Int), ()) (ok90 x0) [(⟨.bool, false⟩ : Dyn)] [⟨.bool, decide (x0.length ≤ 12)⟩] (fun n i ds => R90_2 n i x0 ds) (fun n => ?_) (fun n i hi hok ds hr => ?_) (fun n i hi hok => ?_)
  · unfold g90_0
    cases h : allI (ok90 x0) 0 x0 with
    | true => rw [if_pos h] at key; simpa using key
    | false => rw [if_neg (by rw [h]; simp)] at key; simpa using key
  · rw [R90_2, if_neg (by simp)]
    have hc : decide ((x0.length : Int) ≤ 12) = decide (x0.length ≤ 12) := by
      congr 1; exact propext ⟨fun h => by omega, fun h => by omega⟩
    rw [hc]
  · exact step90 n i x0 hw hi ds (by rw [if_pos hok]; exact hr)
  · exact step90 n i x0 hw hi _ (by rw [if_neg (by rw [hok]; simp)])
def S90 : Am.Spec := { sig := sig90, pre := fun ⟨x0, _⟩ => P90 x0, res := fun ⟨x0, _⟩ => [⟨Ty.bool, g90_0 x0⟩] }
theorem con90 : Contract Tryz.prog 90 S90 := contract_of Tryz.func90 hb90 (Nat.le_of_ble_eq_true (by kernel_rfl)) (fun ⟨x0, _⟩ h hwf K q =>
  (snd90 _).1 x0 _ (top90 x0 hwf.1.1) K q)
end
noncomputable section
def ext91 : Ext := [(105, S105), (108, S108)]
theorem ext91Ok : ExtOk Tryz.prog ext91 := ⟨⟨ca105, con105⟩, ⟨ca108, con108⟩, trivial⟩
noncomputable def b91 : Code := bodyOf Tryz.f91
theorem hb91 : Tryz.f91.body = some b91 := by kernel_rfl
def sig91 : List AT := [AT.v YA7]
def tys91 : List Ty := [Ty.bool]
def kds91 : List RK := []
def oks91 : List AT := owns sig91
def P91 (x0 : Int × Int × Int × Unit) : Prop := True
def g91_0 (x0 : Int × Int × Int × Unit) : Bool := (if (g105_0 x0.1 0 200) = true then (if (g105_0 x0.2.1 0 40) = true then g108_0 x0.2.2.1 else false) else false)
theorem at91 (x0 : Int × Int × Int × Unit) (h : P91 x0) (K : Ctx) (q : Nat → Value) : AtV Tryz.prog 91 (PostR kds91 oks91 [⟨Ty.bool, g91_0 x0⟩] [] [] q K) 16 K q [] [.code b91] (entE 0 0 sig91 (x0, ())) (entL sig91 (x0, ())) := by
  unfold P91 at h
  unfold g91_0
  by_cases b0 : (g105_0 x0.1 0 200) = true
  · try simp only [if_pos b0] at h ⊢
    by_cases b1 : (g105_0 x0.2.1 0 40) = true
    · try simp only [if_pos b1] at h ⊢
      exact AtV.ret Tryz.func91 tabOk ext91Ok mixed false [] tys91 [true, true] (a1 trivial (a1 b0 (a1 trivial (a1 b1 (a1 trivial trivial))))) (by kernel_rfl)
    · try simp only [if_neg b1] at h ⊢
      replace b1 := Bool.eq_false_iff.2 b1
      exact AtV.ret Tryz.func91 tabOk ext91Ok mixed false [] tys91 [true, false] (a1 trivial (a1 b0 (a1 trivial (a1 b1 trivial)))) (by kernel_rfl)
  · try simp only [if_neg b0] at h ⊢
    replace b0 := Bool.eq_false_iff.2 b0
    exact AtV.ret Tryz.func91 tabOk ext91Ok mixed false [] tys91 [false, false] (a1 trivial (a1 b0 (a1 (rfl : false = false) trivial))) (by kernel_rfl)
def S91 : Am.Spec := { sig := sig91, pre := fun ⟨x0, _⟩ => P91 x0, res := fun ⟨x0, _⟩ => [⟨Ty.bool, g91_0 x0⟩], kds := kds91 }
theorem con91 : Contract Tryz.prog 91 S91 := contract_of Tryz.func91 hb91 (Nat.le_of_ble_eq_true (by kernel_rfl)) (fun ⟨x0, _⟩ h _ K q => at91 x0 h K q)
end
noncomputable section
def ext111 : Ext := [(105, S105)]
theorem ext111Ok : ExtOk Tryz.prog ext111 := ⟨⟨ca105, con105⟩, trivial⟩
noncomputable def b111 : Code := bodyOf Tryz.f111
theorem hb111 : Tryz.f111.body = some b111 := by kernel_rfl
def sig111 : List AT := [AT.v (Ty.int .i64)]
def tys111 : List Ty := [Ty.bool]
def kds111 : List RK := []
def oks111 : List AT := owns sig111
def P111 (x0 : Int) : Prop := True
def g111_0 (x0 : Int) : Bool := g105_0 x0 0 100000
theorem at111 (x0 : Int) (h : P111 x0) (K : Ctx) (q : Nat → Value) : AtV Tryz.prog 111 (PostR kds111 oks111 [⟨Ty.bool, g111_0 x0⟩] [] [] q K) 5 K q [] [.code b111] (entE 0 0 sig111 (x0, ())) (entL sig111 (x0, ())) := by
  unfold P111 at h
  unfold g111_0
  exact AtV.ret Tryz.func111 tabOk ext111Ok mixed false [] tys111 [] (a1 trivial trivial) (by kernel_rfl)
def S111 : Am.Spec := { sig := sig111, pre := fun ⟨x0, _⟩ => P111 x0, res := fun ⟨x0, _⟩ => [⟨Ty.bool, g111_0 x0⟩], kds := kds111 }
theorem con111 : Contract Tryz.prog 111 S111 := contract_of Tryz.func111 hb111 (Nat.le_of_ble_eq_true (by kernel_rfl)) (fun ⟨x0, _⟩ h _ K q => at111 x0 h K q)
end
noncomputable section
def ext110 : Ext := [(105, S105)]
theorem ext110Ok : ExtOk Tryz.prog ext110 := ⟨⟨ca105, con105⟩, trivial⟩
noncomputable def b110 : Code := bodyOf Tryz.f110
theorem hb110 : Tryz.f110.body = some b110 := by kernel_rfl
def sig110 : List AT := [AT.v (Ty.int .i64)]
def tys110 : List Ty := [Ty.bool]
def kds110 : List RK := []
def oks110 : List AT := owns sig110
def P110 (x0 : Int) : Prop := True
def g110_0 (x0 : Int) : Bool := g105_0 x0 0 1000000
theorem at110 (x0 : Int) (h : P110 x0) (K : Ctx) (q : Nat → Value) : AtV Tryz.prog 110 (PostR kds110 oks110 [⟨Ty.bool, g110_0 x0⟩] [] [] q K) 5 K q [] [.code b110] (entE 0 0 sig110 (x0, ())) (entL sig110 (x0, ())) := by
  unfold P110 at h
  unfold g110_0
  exact AtV.ret Tryz.func110 tabOk ext110Ok mixed false [] tys110 [] (a1 trivial trivial) (by kernel_rfl)
def S110 : Am.Spec := { sig := sig110, pre := fun ⟨x0, _⟩ => P110 x0, res := fun ⟨x0, _⟩ => [⟨Ty.bool, g110_0 x0⟩], kds := kds110 }
theorem con110 : Contract Tryz.prog 110 S110 := contract_of Tryz.func110 hb110 (Nat.le_of_ble_eq_true (by kernel_rfl)) (fun ⟨x0, _⟩ h _ K q => at110 x0 h K q)
end
noncomputable section
def ext126 : Ext := [(125, S125), (105, S105), (111, S111), (110, S110)]
theorem ext126Ok : ExtOk Tryz.prog ext126 := ⟨⟨ca125, con125⟩, ⟨ca105, con105⟩, ⟨ca111, con111⟩, ⟨ca110, con110⟩, trivial⟩
noncomputable def b126 : Code := bodyOf Tryz.f126
theorem hb126 : Tryz.f126.body = some b126 := by kernel_rfl
def sig126 : List AT := [AT.v YA3]
def tys126 : List Ty := [Ty.bool]
def kds126 : List RK := []
def oks126 : List AT := owns sig126
def P126 (x0 : ByteArray × Int × Int × Int × Int × Unit) : Prop := True
def g126_0 (x0 : ByteArray × Int × Int × Int × Int × Unit) : Bool := (if (g125_0 x0.1) = true then (if (g105_0 x0.2.1 1 100000) = true then (if (g105_0 x0.2.2.1 1 1000000) = true then (if (g111_0 x0.2.2.2.1) = true then g110_0 x0.2.2.2.2.1 else false) else false) else false) else false)
theorem at126 (x0 : ByteArray × Int × Int × Int × Int × Unit) (h : P126 x0) (K : Ctx) (q : Nat → Value) : AtV Tryz.prog 126 (PostR kds126 oks126 [⟨Ty.bool, g126_0 x0⟩] [] [] q K) 26 K q [] [.code b126] (entE 0 0 sig126 (x0, ())) (entL sig126 (x0, ())) := by
  unfold P126 at h
  unfold g126_0
  by_cases b0 : (g125_0 x0.1) = true
  · try simp only [if_pos b0] at h ⊢
    by_cases b1 : (g105_0 x0.2.1 1 100000) = true
    · try simp only [if_pos b1] at h ⊢
      by_cases b2 : (g105_0 x0.2.2.1 1 1000000) = true
      · try simp only [if_pos b2] at h ⊢
        by_cases b3 : (g111_0 x0.2.2.2.1) = true
        · try simp only [if_pos b3] at h ⊢
          exact AtV.ret Tryz.func126 tabOk ext126Ok mixed false [] tys126 [true, true, true, true] (a1 trivial (a1 b0 (a1 trivial (a1 b1 (a1 trivial (a1 b2 (a1 trivial (a1 b3 (a1 trivial trivial))))))))) (by kernel_rfl)
        · try simp only [if_neg b3] at h ⊢
          replace b3 := Bool.eq_false_iff.2 b3
          exact AtV.ret Tryz.func126 tabOk ext126Ok mixed false [] tys126 [true, true, true, false] (a1 trivial (a1 b0 (a1 trivial (a1 b1 (a1 trivial (a1 b2 (a1 trivial (a1 b3 trivial)))))))) (by kernel_rfl)
      · try simp only [if_neg b2] at h ⊢
        replace b2 := Bool.eq_false_iff.2 b2
        exact AtV.ret Tryz.func126 tabOk ext126Ok mixed false [] tys126 [true, true, false, false] (a1 trivial (a1 b0 (a1 trivial (a1 b1 (a1 trivial (a1 b2 (a1 (rfl : false = false) trivial))))))) (by kernel_rfl)
    · try simp only [if_neg b1] at h ⊢
      replace b1 := Bool.eq_false_iff.2 b1
      exact AtV.ret Tryz.func126 tabOk ext126Ok mixed false [] tys126 [true, false, false, false] (a1 trivial (a1 b0 (a1 trivial (a1 b1 (a1 (rfl : false = false) (a1 (rfl : false = false) trivial)))))) (by kernel_rfl)
  · try simp only [if_neg b0] at h ⊢
    replace b0 := Bool.eq_false_iff.2 b0
    exact AtV.ret Tryz.func126 tabOk ext126Ok mixed false [] tys126 [false, false, false, false] (a1 trivial (a1 b0 (a1 (rfl : false = false) (a1 (rfl : false = false) (a1 (rfl : false = false) trivial))))) (by kernel_rfl)
def S126 : Am.Spec := { sig := sig126, pre := fun ⟨x0, _⟩ => P126 x0, res := fun ⟨x0, _⟩ => [⟨Ty.bool, g126_0 x0⟩], kds := kds126 }
theorem con126 : Contract Tryz.prog 126 S126 := contract_of Tryz.func126 hb126 (Nat.le_of_ble_eq_true (by kernel_rfl)) (fun ⟨x0, _⟩ h _ K q => at126 x0 h K q)
end
noncomputable section
def ext109 : Ext := [(126, S126)]
theorem ext109Ok : ExtOk Tryz.prog ext109 := ⟨⟨ca126, con126⟩, trivial⟩
noncomputable def b109 : Code := bodyOf Tryz.f109
theorem hb109 : Tryz.f109.body = some b109 := by kernel_rfl
def sig109 : List AT := [AT.v (Ty.sl YA3)]
def tys109 : List Ty := [Ty.bool]
def kds109 : List RK := []
def oks109 : List AT := owns sig109
def E109_2 (v7 : Int) (x0 : List TyB0) : Env := [(0, PV.a (Atom.sl YA3 x0)), (5, PV.a (Atom.sl YA3 x0)), (6, PV.a (Atom.val (Value.int .i64 (↑(List.length x0) : Int)))), (7, PV.a (Atom.val (Value.int .i64 v7)))]
def L109_2 (v7 : Int) (x0 : List TyB0) : Heap := []
mutual
def R109 : Nat → List TyB0 → List Dyn → Prop
  | 0, _, _ => False
  | n + 1, x0, ds => (R109_2 n (0) (x0) ds)
def R109_2 : Nat → Int → List TyB0 → List Dyn → Prop
  | 0, _, _, _ => False
  | n + 1, v7, x0, ds => (if (decide (v7 < (↑(List.length x0) : Int))) = true then ((0 ≤ v7) ∧ (v7 < (↑(List.length x0) : Int)) ∧ (if (!g126_0 (List.getD x0 (Int.toNat v7) (ByteArray.empty, 0, 0, 0, 0, ()))) = true then (ds = [Dyn.mk Ty.bool false]) else (if (decide (v7 > 0)) = true then ((InR .i64 (v7 - 1)) ∧ ((0 ≤ v7 - 1) ∧ (v7 - 1 < (↑(List.length x0) : Int)) ∧ (if (Op.bytesLess (ByteArray.toList (List.getD x0 (Int.toNat v7) (ByteArray.empty, 0, 0, 0, 0, ())).1) (ByteArray.toList (List.getD x0 (Int.toNat (v7 - 1)) (ByteArray.empty, 0, 0, 0, 0, ())).1) || ByteArray.toList (List.getD x0 (Int.toNat v7) (ByteArray.empty, 0, 0, 0, 0, ())).1 == ByteArray.toList (List.getD x0 (Int.toNat (v7 - 1)) (ByteArray.empty, 0, 0, 0, 0, ())).1) = true then (ds = [Dyn.mk Ty.bool false]) else ((InR .i64 (v7 + 1)) ∧ (R109_2 n (v7 + 1) (x0) ds))))) else ((InR .i64 (v7 + 1)) ∧ (R109_2 n (v7 + 1) (x0) ds))))) else (ds = [Dyn.mk Ty.bool (decide ((↑(List.length x0) : Int) ≤ 16))]))
end
theorem snd109 : ∀ n, (∀ (x0 : List TyB0) ds, R109 n x0 ds → ∀ K q, AtV Tryz.prog 109 (PostR kds109 oks109 ds [] [] q K) 34 K q [] [.code b109] (entE 0 0 sig109 (x0, ())) (entL sig109 (x0, ()))) ∧ (∀ (v7 : Int) (x0 : List TyB0) ds, R109_2 n v7 x0 ds → ∀ K q, AtV Tryz.prog 109 (PostR kds109 oks109 ds [] [] q K) 34 K q [] (cutAt b109 2) (E109_2 v7 x0) (L109_2 v7 x0)) := by
  intro n
  induction n with
  | zero => exact ⟨fun _ _ h => by simp only [R109] at h, fun _ _ _ h => by simp only [R109_2] at h⟩
  | succ n ih =>
  obtain ⟨ih, ih2⟩ := ih
  refine ⟨?_, ?_⟩
  · intro x0 ds h K q
    rw [R109] at h
    exact AtV.go tabOk ext109Ok mixed false [] [] [0, 5, 6, 7] [] [] trivial (ih2 _ _ _ h K q) (by kernel_rfl)
  · intro v7 x0 ds h K q
    rw [R109_2] at h
    by_cases b0 : (decide (v7 < (↑(List.length x0) : Int))) = true
    · rw [if_pos b0] at h
      obtain ⟨s0, s1, h⟩ := h
      by_cases b1 : (!g126_0 (List.getD x0 (Int.toNat v7) (ByteArray.empty, 0, 0, 0, 0, ()))) = true
      · rw [if_pos b1] at h
        subst h
        exact AtV.ret Tryz.func109 tabOk ext109Ok mixed false [] tys109 [true, true, true] (a1 b0 (a1 s0 (a1 s1 (a1 trivial (a1 b1 (a1 (rfl : true = true) trivial)))))) (by kernel_rfl)
      · rw [if_neg b1] at h
        replace b1 := Bool.eq_false_iff.2 b1
        by_cases b2 : (decide (v7 > 0)) = true
        · rw [if_pos b2] at h
          obtain ⟨s2, h⟩ := h
          obtain ⟨s3, s4, h⟩ := h
          by_cases b3 : (Op.bytesLess (ByteArray.toList (List.getD x0 (Int.toNat v7) (ByteArray.empty, 0, 0, 0, 0, ())).1) (ByteArray.toList (List.getD x0 (Int.toNat (v7 - 1)) (ByteArray.empty, 0, 0, 0, 0, ())).1) || ByteArray.toList (List.getD x0 (Int.toNat v7) (ByteArray.empty, 0, 0, 0, 0, ())).1 == ByteArray.toList (List.getD x0 (Int.toNat (v7 - 1)) (ByteArray.empty, 0, 0, 0, 0, ())).1) = true
          · rw [if_pos b3] at h
            subst h
            exact AtV.ret Tryz.func109 tabOk ext109Ok mixed false [] tys109 [true, false, true, true] (a1 b0 (a1 s0 (a1 s1 (a1 trivial (a1 b1 (a1 b2 (a1 s2 (a1 s3 (a1 s4 (a1 b3 trivial)))))))))) (by kernel_rfl)
          · rw [if_neg b3] at h
            replace b3 := Bool.eq_false_iff.2 b3
            obtain ⟨s5, h⟩ := h
            exact AtV.go tabOk ext109Ok mixed false [] [] [0, 5, 6, 7] [] [true, false, true, false] (a1 b0 (a1 s0 (a1 s1 (a1 trivial (a1 b1 (a1 b2 (a1 s2 (a1 s3 (a1 s4 (a1 b3 (a1 s5 trivial))))))))))) (ih2 _ _ _ h K q) (by kernel_rfl)
        · rw [if_neg b2] at h
          replace b2 := Bool.eq_false_iff.2 b2
          obtain ⟨s2, h⟩ := h
          exact AtV.go tabOk ext109Ok mixed false [] [] [0, 5, 6, 7] [] [true, false, false, false] (a1 b0 (a1 s0 (a1 s1 (a1 trivial (a1 b1 (a1 b2 (a1 (rfl : false = false) (a1 s2 trivial)))))))) (ih2 _ _ _ h K q) (by kernel_rfl)
    · rw [if_neg b0] at h
      replace b0 := Bool.eq_false_iff.2 b0
      subst h
      exact AtV.ret Tryz.func109 tabOk ext109Ok mixed false [] tys109 [false] (a1 b0 trivial) (by kernel_rfl)
def ok109 (x0 : List TyB0) (i : Nat) (x : TyB0) : Bool :=
  g126_0 x && (i == 0 || !(Op.bytesLess (ByteArray.toList x.1) (ByteArray.toList (x0.getD (i - 1) (ByteArray.empty, (0 : Int), (0 : Int), (0 : Int), (0 : Int), ())).1) || ByteArray.toList x.1 == ByteArray.toList (x0.getD (i - 1) (ByteArray.empty, (0 : Int), (0 : Int), (0 : Int), (0 : Int), ())).1))
def g109_0 (x0 : List TyB0) : Bool := allI (ok109 x0) 0 x0 && decide (x0.length ≤ 16)
def P109 (x0 : List TyB0) : Prop := True
theorem step109 (n i : Nat) (x0 : List TyB0) (hm : x0.length ≤ maxLen) (hi : i < x0.length) (ds : List Dyn) :
    (if ok109 x0 i (x0.getD i (ByteArray.empty, (0 : Int), (0 : Int), (0 : Int), (0 : Int), ())) = true then R109_2 n ((i : Int) + 1) x0 ds else ds = [⟨.bool, false⟩]) → R109_2 (n + 1) (i : Int) x0 ds := by
  intro h
  have hu := inR_up hm hi
  rw [R109_2, if_pos (by simp; omega)]
  refine ⟨by omega, by omega, ?_⟩
  simp only [Int.toNat_natCast]
  unfold ok109 at h
  by_cases h1 : g126_0 (x0.getD i (ByteArray.empty, (0 : Int), (0 : Int), (0 : Int), (0 : Int), ())) = true
  case neg =>
    have h1 := Bool.eq_false_iff.2 h1
    rw [h1] at h
    rw [if_pos (by rw [h1]; rfl)]
    simpa using h
  case pos =>
    rw [h1] at h
    rw [if_neg (by rw [h1]; simp)]
    by_cases h0 : (i : Int) > 0
    · rw [if_pos (by simpa using h0)]
      have hi0 : (i == 0) = false := by simp; omega
      have e : ((i : Int) - 1).toNat = i - 1 := by omega
      refine ⟨by rw [i64_iff]; have : maxLen ≤ 9223372036854775807 := by decide
                 omega, by omega, by omega, ?_⟩
      rw [e]
      by_cases h2 : (Op.bytesLess (ByteArray.toList (x0.getD i (ByteArray.empty, (0 : Int), (0 : Int), (0 : Int), (0 : Int), ())).1) (ByteArray.toList (x0.getD (i - 1) (ByteArray.empty, (0 : Int), (0 : Int), (0 : Int), (0 : Int), ())).1) || ByteArray.toList (x0.getD i (ByteArray.empty, (0 : Int), (0 : Int), (0 : Int), (0 : Int), ())).1 == ByteArray.toList (x0.getD (i - 1) (ByteArray.empty, (0 : Int), (0 : Int), (0 : Int), (0 : Int), ())).1) = true
      · rw [if_pos h2]
        rw [hi0, h2] at h
        simpa using h
      · rw [if_neg h2]
        rw [hi0, Bool.eq_false_iff.2 h2] at h
        exact ⟨hu, by simpa using h⟩
    · rw [if_neg (by simpa using h0)]
      have hi0 : (i == 0) = true := by simp; omega
      rw [hi0] at h
      exact ⟨hu, by simpa using h⟩
theorem top109 (x0 : List TyB0) (hw : x0.length ≤ maxLen) : R109 (x0.length + 1 + 1) x0 [⟨.bool, g109_0 x0⟩] := by
  rw [R109]
  have key := loop_testI x0 (ByteArray.empty, (0 : Int), (0 : Int), (0 : Int), (0 : Int), ()) (ok109 x0) [(⟨.bool, false⟩ : Dyn)] [⟨.bool, decide (x0.length ≤ 16)⟩] (fun n i ds => R109_2 n i x0 ds) (fun n => ?_) (fun n i hi hok ds hr => ?_) (fun n i hi hok => ?_)
  · unfold g109_0
    cases h : allI (ok109 x0) 0 x0 with
    | true => rw [if_pos h] at key; simpa using key
    | false => rw [if_neg (by rw [h]; simp)] at key; simpa using key
  · rw [R109_2, if_neg (by simp)]
    have hc : decide ((x0.length : Int) ≤ 16) = decide (x0.length ≤ 16) := by
      congr 1; exact propext ⟨fun h => by omega, fun h => by omega⟩
    rw [hc]
  · exact step109 n i x0 hw hi ds (by rw [if_pos hok]; exact hr)
  · exact step109 n i x0 hw hi _ (by rw [if_neg (by rw [hok]; simp)])
def S109 : Am.Spec := { sig := sig109, pre := fun ⟨x0, _⟩ => P109 x0, res := fun ⟨x0, _⟩ => [⟨Ty.bool, g109_0 x0⟩] }
theorem con109 : Contract Tryz.prog 109 S109 := contract_of Tryz.func109 hb109 (Nat.le_of_ble_eq_true (by kernel_rfl)) (fun ⟨x0, _⟩ h hwf K q =>
  (snd109 _).1 x0 _ (top109 x0 hwf.1.1) K q)
end
noncomputable section
def ext113 : Ext := []
theorem ext113Ok : ExtOk Tryz.prog ext113 := trivial
noncomputable def b113 : Code := bodyOf Tryz.f113
theorem hb113 : Tryz.f113.body = some b113 := by kernel_rfl
def sig113 : List AT := [AT.v YA3, AT.p (.int .i64), AT.p (.int .i64)]
def tys113 : List Ty := [Ty.bool]
def kds113 : List RK := []
def oks113 : List AT := owns sig113
def P113 (x0 : ByteArray × Int × Int × Int × Int × Unit) (x1 : Int) (x2 : Int) : Prop := True
def g113_0 (x0 : ByteArray × Int × Int × Int × Int × Unit) (x1 : Int) (x2 : Int) : Bool := (if (decide (x0.2.2.2.1 > x1)) = true then true else decide (x0.2.2.2.2.1 > x2))
theorem at113 (x0 : ByteArray × Int × Int × Int × Int × Unit) (x1 : Int) (x2 : Int) (h : P113 x0 x1 x2) (K : Ctx) (q : Nat → Value) : AtV Tryz.prog 113 (PostR kds113 oks113 [⟨Ty.bool, g113_0 x0 x1 x2⟩] [] [] q K) 15 K q [] [.code b113] (entE 0 0 sig113 (x0, x1, x2, ())) (entL sig113 (x0, x1, x2, ())) := by
  unfold P113 at h
  unfold g113_0
  by_cases b0 : (decide (x0.2.2.2.1 > x1)) = true
  · try simp only [if_pos b0] at h ⊢
    exact AtV.ret Tryz.func113 tabOk ext113Ok mixed false [] tys113 [true] (a1 b0 trivial) (by kernel_rfl)
  · try simp only [if_neg b0] at h ⊢
    replace b0 := Bool.eq_false_iff.2 b0
    exact AtV.ret Tryz.func113 tabOk ext113Ok mixed false [] tys113 [false] (a1 b0 trivial) (by kernel_rfl)
def S113 : Am.Spec := { sig := sig113, pre := fun ⟨x0, x1, x2, _⟩ => P113 x0 x1 x2, res := fun ⟨x0, x1, x2, _⟩ => [⟨Ty.bool, g113_0 x0 x1 x2⟩], kds := kds113 }
theorem con113 : Contract Tryz.prog 113 S113 := contract_of Tryz.func113 hb113 (Nat.le_of_ble_eq_true (by kernel_rfl)) (fun ⟨x0, x1, x2, _⟩ h _ K q => at113 x0 x1 x2 h K q)
end
noncomputable section
def ext127c113 : Ext := [(113, S113)]
theorem ext127c113Ok : ExtOk Tryz.prog ext127c113 := ⟨⟨ca113, con113⟩, trivial⟩
noncomputable def b127c113 : Code := bodyOf Tryz.f127
theorem hb127c113 : Tryz.f127.body = some b127c113 := by kernel_rfl
def sig127c113 : List AT := [AT.v (Ty.sl YA3), AT.fn 113 [(true, (.int .i64)), (true, (.int .i64))]]
def tys127c113 : List Ty := [Ty.int .i64]
def kds127c113 : List RK := []
def oks127c113 : List AT := owns sig127c113
def E127c113_2 (v8 : Int) (x0 : List TyB0) (x1 : Int) (x1c : Int) : Env := [(0, PV.a (Atom.sl YA3 x0)), (1, PV.fn 113 [Atom.ptr (Ty.int .i64) x1, Atom.ptr (Ty.int .i64) x1c]), (7, PV.a (Atom.val (Value.int .i64 (↑(List.length x0) : Int)))), (8, PV.a (Atom.val (Value.int .i64 v8)))]
def L127c113_2 (v8 : Int) (x0 : List TyB0) (x1 : Int) (x1c : Int) : Heap := []
mutual
def R127c113 : Nat → List TyB0 → Int → Int → List Dyn → Prop
  | 0, _, _, _, _ => False
  | n + 1, x0, x1, x1c, ds => (R127c113_2 n (0) (x0) (x1) (x1c) ds)
def R127c113_2 : Nat → Int → List TyB0 → Int → Int → List Dyn → Prop
  | 0, _, _, _, _, _ => False
  | n + 1, v8, x0, x1, x1c, ds => (if (decide (v8 < (↑(List.length x0) : Int))) = true then ((0 ≤ v8) ∧ (v8 < (↑(List.length x0) : Int)) ∧ (if (g113_0 (List.getD x0 (Int.toNat v8) (ByteArray.empty, 0, 0, 0, 0, ())) x1 x1c) = true then (ds = [Dyn.mk (Ty.int .i64) v8]) else ((InR .i64 (v8 + 1)) ∧ (R127c113_2 n (v8 + 1) (x0) (x1) (x1c) ds)))) else (ds = [Dyn.mk (Ty.int .i64) (-1)]))
end
theorem snd127c113 : ∀ n, (∀ (x0 : List TyB0) (x1 : Int) (x1c : Int) ds, R127c113 n x0 x1 x1c ds → ∀ K q, AtV Tryz.prog 127 (PostR kds127c113 oks127c113 ds [] [] q K) 19 K q [] [.code b127c113] (entE 0 0 sig127c113 (x0, (x1, x1c, ()), ())) (entL sig127c113 (x0, (x1, x1c, ()), ()))) ∧ (∀ (v8 : Int) (x0 : List TyB0) (x1 : Int) (x1c : Int) ds, R127c113_2 n v8 x0 x1 x1c ds → ∀ K q, AtV Tryz.prog 127 (PostR kds127c113 oks127c113 ds [] [] q K) 19 K q [] (cutAt b127c113 2) (E127c113_2 v8 x0 x1 x1c) (L127c113_2 v8 x0 x1 x1c)) := by
  intro n
  induction n with
  | zero => exact ⟨fun _ _ _ _ h => by simp only [R127c113] at h, fun _ _ _ _ _ h => by simp only [R127c113_2] at h⟩
  | succ n ih =>
  obtain ⟨ih, ih2⟩ := ih
  refine ⟨?_, ?_⟩
  · intro x0 x1 x1c ds h K q
    rw [R127c113] at h
    exact AtV.go tabOk ext127c113Ok mixed false [] [] [0, 1, 7, 8] [] [] trivial (ih2 _ _ _ _ _ h K q) (by kernel_rfl)
  · intro v8 x0 x1 x1c ds h K q
    rw [R127c113_2] at h
    by_cases b0 : (decide (v8 < (↑(List.length x0) : Int))) = true
    · rw [if_pos b0] at h
      obtain ⟨s0, s1, h⟩ := h
      by_cases b1 : (g113_0 (List.getD x0 (Int.toNat v8) (ByteArray.empty, 0, 0, 0, 0, ())) x1 x1c) = true
      · rw [if_pos b1] at h
        subst h
        exact AtV.ret Tryz.func127 tabOk ext127c113Ok mixed false [] tys127c113 [true, true] (a1 b0 (a1 s0 (a1 s1 (a1 trivial (a1 b1 trivial))))) (by kernel_rfl)
      · rw [if_neg b1] at h
        replace b1 := Bool.eq_false_iff.2 b1
        obtain ⟨s2, h⟩ := h
        exact AtV.go tabOk ext127c113Ok mixed false [] [] [0, 1, 7, 8] [] [true, false] (a1 b0 (a1 s0 (a1 s1 (a1 trivial (a1 b1 (a1 s2 trivial)))))) (ih2 _ _ _ _ _ h K q) (by kernel_rfl)
    · rw [if_neg b0] at h
      replace b0 := Bool.eq_false_iff.2 b0
      subst h
      exact AtV.ret Tryz.func127 tabOk ext127c113Ok mixed false [] tys127c113 [false] (a1 b0 trivial) (by kernel_rfl)
def g127c113_0 (x0 : List TyB0) (y0 : Int) (y1 : Int) : Int := idx (x0.findIdx? (fun x => g113_0 x y0 y1))
def P127c113 (x0 : List TyB0) (y0 : Int) (y1 : Int) : Prop := True
theorem top127c113 (x0 : List TyB0) (y0 : Int) (y1 : Int) (hm : x0.length ≤ maxLen) : R127c113 (x0.length + 1 + 1) x0 y0 y1 [⟨.int .i64, g127c113_0 x0 y0 y1⟩] := by
  rw [R127c113]
  have key := loop_find x0 (ByteArray.empty, (0 : Int), (0 : Int), (0 : Int), (0 : Int), ()) (fun x => g113_0 x y0 y1) [(⟨.int .i64, -1⟩ : Dyn)] (fun k => [⟨.int .i64, k⟩]) (fun n i ds => R127c113_2 n i x0 y0 y1 ds) (fun n => ?_) (fun n i hi hok ds hr => ?_) (fun n i hi hok => ?_)
  · unfold g127c113_0
    cases h : x0.findIdx? (fun x => g113_0 x y0 y1) <;> rw [h] at key <;> exact key
  · rw [R127c113_2, if_neg (by simp)]
  · rw [R127c113_2, if_pos (by simp; omega)]
    simp only [Int.toNat_natCast]
    refine ⟨by omega, by omega, ?_⟩
    rw [if_neg (by rw [hok]; simp)]
    exact ⟨inR_up hm hi, hr⟩
  · rw [R127c113_2, if_pos (by simp; omega)]
    simp only [Int.toNat_natCast]
    refine ⟨by omega, by omega, ?_⟩
    rw [if_pos hok] <;> trivial
def S127c113 : Am.Spec := { sig := sig127c113, pre := fun ⟨x0, ⟨y0, y1, _⟩, _⟩ => P127c113 x0 y0 y1, res := fun ⟨x0, ⟨y0, y1, _⟩, _⟩ => [⟨Ty.int .i64, g127c113_0 x0 y0 y1⟩] }
theorem con127c113 : Contract Tryz.prog 127 S127c113 := contract_of Tryz.func127 hb127c113 (Nat.le_of_ble_eq_true (by kernel_rfl)) (fun ⟨x0, ⟨y0, y1, _⟩, _⟩ h hwf K q =>
  (snd127c113 _).1 x0 y0 y1 _ (top127c113 x0 y0 y1 hwf.1.1) K q)
theorem any127c113 (x0 : List TyB0) (y0 : Int) (y1 : Int) : decide (g127c113_0 x0 y0 y1 ≥ 0) = x0.any (fun x => g113_0 x y0 y1) := by
  have := findIdx_any (fun x => g113_0 x y0 y1) x0
  unfold g127c113_0
  cases h : x0.any (fun x => g113_0 x y0 y1) with
  | true => rw [h] at this; simpa using this
  | false => rw [h] at this; simpa using this
end
noncomputable section
def ext112c113 : Ext := [(127, S127c113), (113, S113)]
theorem ext112c113Ok : ExtOk Tryz.prog ext112c113 := ⟨⟨ca127, con127c113⟩, ⟨ca113, con113⟩, trivial⟩
noncomputable def b112c113 : Code := bodyOf Tryz.f112
theorem hb112c113 : Tryz.f112.body = some b112c113 := by kernel_rfl
def sig112c113 : List AT := [AT.v (Ty.sl YA3), AT.fn 113 [(true, (.int .i64)), (true, (.int .i64))]]
def tys112c113 : List Ty := [Ty.bool]
def kds112c113 : List RK := []
def oks112c113 : List AT := owns sig112c113
def P112c113 (x0 : List TyB0) (x1 : Int) (x1c : Int) : Prop := True
def g112c113_0 (x0 : List TyB0) (x1 : Int) (x1c : Int) : Bool := decide (g127c113_0 x0 x1 x1c ≥ 0)
theorem at112c113 (x0 : List TyB0) (x1 : Int) (x1c : Int) (h : P112c113 x0 x1 x1c) (K : Ctx) (q : Nat → Value) : AtV Tryz.prog 112 (PostR kds112c113 oks112c113 [⟨Ty.bool, g112c113_0 x0 x1 x1c⟩] [] [] q K) 9 K q [] [.code b112c113] (entE 0 0 sig112c113 (x0, (x1, x1c, ()), ())) (entL sig112c113 (x0, (x1, x1c, ()), ())) := by
  unfold P112c113 at h
  unfold g112c113_0
  exact AtV.ret Tryz.func112 tabOk ext112c113Ok mixed false [] tys112c113 [] (a1 trivial trivial) (by kernel_rfl)
def S112c113 : Am.Spec := { sig := sig112c113, pre := fun ⟨x0, ⟨x1, x1c, _⟩, _⟩ => P112c113 x0 x1 x1c, res := fun ⟨x0, ⟨x1, x1c, _⟩, _⟩ => [⟨Ty.bool, g112c113_0 x0 x1 x1c⟩], kds := kds112c113 }
theorem con112c113 : Contract Tryz.prog 112 S112c113 := contract_of Tryz.func112 hb112c113 (Nat.le_of_ble_eq_true (by kernel_rfl)) (fun ⟨x0, ⟨x1, x1c, _⟩, _⟩ h _ K q => at112c113 x0 x1 x1c h K q)
end
noncomputable section
def ext92 : Ext := [(109, S109), (110, S110), (111, S111), (112, S112c113)]
theorem ext92Ok : ExtOk Tryz.prog ext92 := ⟨⟨ca109, con109⟩, ⟨ca110, con110⟩, ⟨ca111, con111⟩, ⟨ca112, con112c113⟩, trivial⟩
noncomputable def b92 : Code := bodyOf Tryz.f92
theorem hb92 : Tryz.f92.body = some b92 := by kernel_rfl
def sig92 : List AT := [AT.v (Ty.sl YA3), AT.v (Ty.int .i64), AT.v (Ty.int .i64), AT.v (Ty.int .i64)]
def tys92 : List Ty := [Ty.int .i64]
def kds92 : List RK := []
def oks92 : List AT := owns sig92
def P92 (x0 : List TyB0) (x1 : Int) (x2 : Int) (x3 : Int) : Prop := True
def g92_0 (x0 : List TyB0) (x1 : Int) (x2 : Int) (x3 : Int) : Int := (if (!g109_0 x0) = true then 1 else (if (!g110_0 x3) = true then 2 else (if (!g111_0 x1) = true then 2 else (if (!g110_0 x2) = true then 2 else (if (g112c113_0 x0 x1 x2) = true then 6 else 0)))))
theorem at92 (x0 : List TyB0) (x1 : Int) (x2 : Int) (x3 : Int) (h : P92 x0 x1 x2 x3) (K : Ctx) (q : Nat → Value) : AtV Tryz.prog 92 (PostR kds92 oks92 [⟨Ty.int .i64, g92_0 x0 x1 x2 x3⟩] [] [] q K) 31 K q [] [.code b92] (entE 0 0 sig92 (x0, x1, x2, x3, ())) (entL sig92 (x0, x1, x2, x3, ())) := by
  unfold P92 at h
  unfold g92_0
  by_cases b0 : (!g109_0 x0) = true
  · try simp only [if_pos b0] at h ⊢
    exact AtV.ret Tryz.func92 tabOk ext92Ok mixed false [] tys92 [true] (a1 trivial (a1 b0 trivial)) (by kernel_rfl)
  · try simp only [if_neg b0] at h ⊢
    replace b0 := Bool.eq_false_iff.2 b0
    by_cases b1 : (!g110_0 x3) = true
    · try simp only [if_pos b1] at h ⊢
      exact AtV.ret Tryz.func92 tabOk ext92Ok mixed false [] tys92 [false, true, true, true] (a1 trivial (a1 b0 (a1 trivial (a1 b1 (a1 (rfl : true = true) (a1 (rfl : true = true) trivial)))))) (by kernel_rfl)
    · try simp only [if_neg b1] at h ⊢
      replace b1 := Bool.eq_false_iff.2 b1
      by_cases b2 : (!g111_0 x1) = true
      · try simp only [if_pos b2] at h ⊢
        exact AtV.ret Tryz.func92 tabOk ext92Ok mixed false [] tys92 [false, false, true, true] (a1 trivial (a1 b0 (a1 trivial (a1 b1 (a1 trivial (a1 b2 (a1 (rfl : true = true) trivial))))))) (by kernel_rfl)
      · try simp only [if_neg b2] at h ⊢
        replace b2 := Bool.eq_false_iff.2 b2
        by_cases b3 : (!g110_0 x2) = true
        · try simp only [if_pos b3] at h ⊢
          exact AtV.ret Tryz.func92 tabOk ext92Ok mixed false [] tys92 [false, false, false, true] (a1 trivial (a1 b0 (a1 trivial (a1 b1 (a1 trivial (a1 b2 (a1 trivial (a1 b3 trivial)))))))) (by kernel_rfl)
        · try simp only [if_neg b3] at h ⊢
          replace b3 := Bool.eq_false_iff.2 b3
          by_cases b4 : (g112c113_0 x0 x1 x2) = true
          · try simp only [if_pos b4] at h ⊢
            exact AtV.ret Tryz.func92 tabOk ext92Ok mixed false [] tys92 [false, false, false, false, true] (a1 trivial (a1 b0 (a1 trivial (a1 b1 (a1 trivial (a1 b2 (a1 trivial (a1 b3 (a1 trivial (a1 b4 trivial)))))))))) (by kernel_rfl)
          · try simp only [if_neg b4] at h ⊢
            replace b4 := Bool.eq_false_iff.2 b4
            exact AtV.ret Tryz.func92 tabOk ext92Ok mixed false [] tys92 [false, false, false, false, false] (a1 trivial (a1 b0 (a1 trivial (a1 b1 (a1 trivial (a1 b2 (a1 trivial (a1 b3 (a1 trivial (a1 b4 trivial)))))))))) (by kernel_rfl)
def S92 : Am.Spec := { sig := sig92, pre := fun ⟨x0, x1, x2, x3, _⟩ => P92 x0 x1 x2 x3, res := fun ⟨x0, x1, x2, x3, _⟩ => [⟨Ty.int .i64, g92_0 x0 x1 x2 x3⟩], kds := kds92 }
theorem con92 : Contract Tryz.prog 92 S92 := contract_of Tryz.func92 hb92 (Nat.le_of_ble_eq_true (by kernel_rfl)) (fun ⟨x0, x1, x2, x3, _⟩ h _ K q => at92 x0 x1 x2 x3 h K q)
end
noncomputable section
def ext94 : Ext := [(105, S105)]
theorem ext94Ok : ExtOk Tryz.prog ext94 := ⟨⟨ca105, con105⟩, trivial⟩
noncomputable def b94 : Code := bodyOf Tryz.f94
theorem hb94 : Tryz.f94.body = some b94 := by kernel_rfl
def sig94 : List AT := [AT.v (Ty.int .i64)]
def tys94 : List Ty := [Ty.bool]
def kds94 : List RK := []
def oks94 : List AT := owns sig94
def P94 (x0 : Int) : Prop := True
def g94_0 (x0 : Int) : Bool := g105_0 x0 0 1440
theorem at94 (x0 : Int) (h : P94 x0) (K : Ctx) (q : Nat → Value) : AtV Tryz.prog 94 (PostR kds94 oks94 [⟨Ty.bool, g94_0 x0⟩] [] [] q K) 5 K q [] [.code b94] (entE 0 0 sig94 (x0, ())) (entL sig94 (x0, ())) := by
  unfold P94 at h
  unfold g94_0
  exact AtV.ret Tryz.func94 tabOk ext94Ok mixed false [] tys94 [] (a1 trivial trivial) (by kernel_rfl)
def S94 : Am.Spec := { sig := sig94, pre := fun ⟨x0, _⟩ => P94 x0, res := fun ⟨x0, _⟩ => [⟨Ty.bool, g94_0 x0⟩], kds := kds94 }
theorem con94 : Contract Tryz.prog 94 S94 := contract_of Tryz.func94 hb94 (Nat.le_of_ble_eq_true (by kernel_rfl)) (fun ⟨x0, _⟩ h _ K q => at94 x0 h K q)
end
noncomputable section
def ext114 : Ext := [(94, S94), (105, S105)]
theorem ext114Ok : ExtOk Tryz.prog ext114 := ⟨⟨ca94, con94⟩, ⟨ca105, con105⟩, trivial⟩
noncomputable def b114 : Code := bodyOf Tryz.f114
theorem hb114 : Tryz.f114.body = some b114 := by kernel_rfl
def sig114 : List AT := [AT.v YA9]
def tys114 : List Ty := [Ty.bool]
def kds114 : List RK := []
def oks114 : List AT := owns sig114
def P114 (x0 : Int × Int × Unit) : Prop := (if (g94_0 x0.1) = true then (if (g105_0 x0.2.1 1 1440) = true then ((InR .i64 (x0.1 + x0.2.1)) ∧ True) else True) else True)
def g114_0 (x0 : Int × Int × Unit) : Bool := (if (g94_0 x0.1) = true then (if (g105_0 x0.2.1 1 1440) = true then decide (x0.1 + x0.2.1 ≤ 1440) else false) else false)
theorem at114 (x0 : Int × Int × Unit) (h : P114 x0) (K : Ctx) (q : Nat → Value) : AtV Tryz.prog 114 (PostR kds114 oks114 [⟨Ty.bool, g114_0 x0⟩] [] [] q K) 19 K q [] [.code b114] (entE 0 0 sig114 (x0, ())) (entL sig114 (x0, ())) := by
  unfold P114 at h
  unfold g114_0
  by_cases b0 : (g94_0 x0.1) = true
  · try simp only [if_pos b0] at h ⊢
    by_cases b1 : (g105_0 x0.2.1 1 1440) = true
    · try simp only [if_pos b1] at h ⊢
      obtain ⟨s0, h⟩ := h
      exact AtV.ret Tryz.func114 tabOk ext114Ok mixed false [] tys114 [true, true] (a1 trivial (a1 b0 (a1 trivial (a1 b1 (a1 s0 trivial))))) (by kernel_rfl)
    · try simp only [if_neg b1] at h ⊢
      replace b1 := Bool.eq_false_iff.2 b1
      exact AtV.ret Tryz.func114 tabOk ext114Ok mixed false [] tys114 [true, false] (a1 trivial (a1 b0 (a1 trivial (a1 b1 trivial)))) (by kernel_rfl)
  · try simp only [if_neg b0] at h ⊢
    replace b0 := Bool.eq_false_iff.2 b0
    exact AtV.ret Tryz.func114 tabOk ext114Ok mixed false [] tys114 [false, false] (a1 trivial (a1 b0 (a1 (rfl : false = false) trivial))) (by kernel_rfl)
def S114 : Am.Spec := { sig := sig114, pre := fun ⟨x0, _⟩ => P114 x0, res := fun ⟨x0, _⟩ => [⟨Ty.bool, g114_0 x0⟩], kds := kds114 }
theorem con114 : Contract Tryz.prog 114 S114 := contract_of Tryz.func114 hb114 (Nat.le_of_ble_eq_true (by kernel_rfl)) (fun ⟨x0, _⟩ h _ K q => at114 x0 h K q)
end
noncomputable section
def ext115 : Ext := []
theorem ext115Ok : ExtOk Tryz.prog ext115 := trivial
noncomputable def b115 : Code := bodyOf Tryz.f115
theorem hb115 : Tryz.f115.body = some b115 := by kernel_rfl
def sig115 : List AT := [AT.v YA9]
def tys115 : List Ty := [Ty.int .i64]
def kds115 : List RK := []
def oks115 : List AT := owns sig115
def P115 (x0 : Int × Int × Unit) : Prop := ((InR .i64 (x0.1 + x0.2.1)) ∧ True)
def g115_0 (x0 : Int × Int × Unit) : Int := x0.1 + x0.2.1
theorem at115 (x0 : Int × Int × Unit) (h : P115 x0) (K : Ctx) (q : Nat → Value) : AtV Tryz.prog 115 (PostR kds115 oks115 [⟨Ty.int .i64, g115_0 x0⟩] [] [] q K) 8 K q [] [.code b115] (entE 0 0 sig115 (x0, ())) (entL sig115 (x0, ())) := by
  unfold P115 at h
  unfold g115_0
  obtain ⟨s0, h⟩ := h
  exact AtV.ret Tryz.func115 tabOk ext115Ok mixed false [] tys115 [] (a1 s0 trivial) (by kernel_rfl)
def S115 : Am.Spec := { sig := sig115, pre := fun ⟨x0, _⟩ => P115 x0, res := fun ⟨x0, _⟩ => [⟨Ty.int .i64, g115_0 x0⟩], kds := kds115 }
theorem con115 : Contract Tryz.prog 115 S115 := contract_of Tryz.func115 hb115 (Nat.le_of_ble_eq_true (by kernel_rfl)) (fun ⟨x0, _⟩ h _ K q => at115 x0 h K q)
end
noncomputable section
def ext93 : Ext := [(114, S114), (115, S115)]
theorem ext93Ok : ExtOk Tryz.prog ext93 := ⟨⟨ca114, con114⟩, ⟨ca115, con115⟩, trivial⟩
noncomputable def b93 : Code := bodyOf Tryz.f93
theorem hb93 : Tryz.f93.body = some b93 := by kernel_rfl
def sig93 : List AT := [AT.v (Ty.sl YA9)]
def tys93 : List Ty := [Ty.bool]
def kds93 : List RK := []
def oks93 : List AT := owns sig93
def E93_2 (v7 : Int) (x0 : List TyB4) : Env := [(0, PV.a (Atom.sl YA9 x0)), (5, PV.a (Atom.sl YA9 x0)), (6, PV.a (Atom.val (Value.int .i64 (↑(List.length x0) : Int)))), (7, PV.a (Atom.val (Value.int .i64 v7)))]
def L93_2 (v7 : Int) (x0 : List TyB4) : Heap := []
mutual
def R93 : Nat → List TyB4 → List Dyn → Prop
  | 0, _, _ => False
  | n + 1, x0, ds => (R93_2 n (0) (x0) ds)
def R93_2 : Nat → Int → List TyB4 → List Dyn → Prop
  | 0, _, _, _ => False
  | n + 1, v7, x0, ds => (if (decide (v7 < (↑(List.length x0) : Int))) = true then ((0 ≤ v7) ∧ (v7 < (↑(List.length x0) : Int)) ∧ ((P114 (List.getD x0 (Int.toNat v7) (0, 0, ()))) ∧ (if (!g114_0 (List.getD x0 (Int.toNat v7) (0, 0, ()))) = true then (ds = [Dyn.mk Ty.bool false]) else (if (decide (v7 > 0)) = true then ((InR .i64 (v7 - 1)) ∧ ((0 ≤ v7 - 1) ∧ (v7 - 1 < (↑(List.length x0) : Int)) ∧ ((P115 (List.getD x0 (Int.toNat (v7 - 1)) (0, 0, ()))) ∧ (if (decide ((List.getD x0 (Int.toNat v7) (0, 0, ())).1 < g115_0 (List.getD x0 (Int.toNat (v7 - 1)) (0, 0, ())))) = true then (ds = [Dyn.mk Ty.bool false]) else ((InR .i64 (v7 + 1)) ∧ (R93_2 n (v7 + 1) (x0) ds)))))) else ((InR .i64 (v7 + 1)) ∧ (R93_2 n (v7 + 1) (x0) ds)))))) else (ds = [Dyn.mk Ty.bool (decide ((↑(List.length x0) : Int) ≤ 24))]))
end
theorem snd93 : ∀ n, (∀ (x0 : List TyB4) ds, R93 n x0 ds → ∀ K q, AtV Tryz.prog 93 (PostR kds93 oks93 ds [] [] q K) 34 K q [] [.code b93] (entE 0 0 sig93 (x0, ())) (entL sig93 (x0, ()))) ∧ (∀ (v7 : Int) (x0 : List TyB4) ds, R93_2 n v7 x0 ds → ∀ K q, AtV Tryz.prog 93 (PostR kds93 oks93 ds [] [] q K) 34 K q [] (cutAt b93 2) (E93_2 v7 x0) (L93_2 v7 x0)) := by
  intro n
  induction n with
  | zero => exact ⟨fun _ _ h => by simp only [R93] at h, fun _ _ _ h => by simp only [R93_2] at h⟩
  | succ n ih =>
  obtain ⟨ih, ih2⟩ := ih
  refine ⟨?_, ?_⟩
  · intro x0 ds h K q
    rw [R93] at h
    exact AtV.go tabOk ext93Ok mixed false [] [] [0, 5, 6, 7] [] [] trivial (ih2 _ _ _ h K q) (by kernel_rfl)
  · intro v7 x0 ds h K q
    rw [R93_2] at h
    by_cases b0 : (decide (v7 < (↑(List.length x0) : Int))) = true
    · rw [if_pos b0] at h
      obtain ⟨s0, s1, h⟩ := h
      obtain ⟨s2, h⟩ := h
      by_cases b1 : (!g114_0 (List.getD x0 (Int.toNat v7) (0, 0, ()))) = true
      · rw [if_pos b1] at h
        subst h
        exact AtV.ret Tryz.func93 tabOk ext93Ok mixed false [] tys93 [true, true, true] (a1 b0 (a1 s0 (a1 s1 (a1 s2 (a1 b1 (a1 (rfl : true = true) trivial)))))) (by kernel_rfl)
      · rw [if_neg b1] at h
        replace b1 := Bool.eq_false_iff.2 b1
        by_cases b2 : (decide (v7 > 0)) = true
        · rw [if_pos b2] at h
          obtain ⟨s3, h⟩ := h
          obtain ⟨s4, s5, h⟩ := h
          obtain ⟨s6, h⟩ := h
          by_cases b3 : (decide ((List.getD x0 (Int.toNat v7) (0, 0, ())).1 < g115_0 (List.getD x0 (Int.toNat (v7 - 1)) (0, 0, ())))) = true
          · rw [if_pos b3] at h
            subst h
            exact AtV.ret Tryz.func93 tabOk ext93Ok mixed false [] tys93 [true, false, true, true] (a1 b0 (a1 s0 (a1 s1 (a1 s2 (a1 b1 (a1 b2 (a1 s3 (a1 s4 (a1 s5 (a1 s6 (a1 b3 trivial))))))))))) (by kernel_rfl)
          · rw [if_neg b3] at h
            replace b3 := Bool.eq_false_iff.2 b3
            obtain ⟨s7, h⟩ := h
            exact AtV.go tabOk ext93Ok mixed false [] [] [0, 5, 6, 7] [] [true, false, true, false] (a1 b0 (a1 s0 (a1 s1 (a1 s2 (a1 b1 (a1 b2 (a1 s3 (a1 s4 (a1 s5 (a1 s6 (a1 b3 (a1 s7 trivial)))))))))))) (ih2 _ _ _ h K q) (by kernel_rfl)
        · rw [if_neg b2] at h
          replace b2 := Bool.eq_false_iff.2 b2
          obtain ⟨s3, h⟩ := h
          exact AtV.go tabOk ext93Ok mixed false [] [] [0, 5, 6, 7] [] [true, false, false, false] (a1 b0 (a1 s0 (a1 s1 (a1 s2 (a1 b1 (a1 b2 (a1 (rfl : false = false) (a1 s3 trivial)))))))) (ih2 _ _ _ h K q) (by kernel_rfl)
    · rw [if_neg b0] at h
      replace b0 := Bool.eq_false_iff.2 b0
      subst h
      exact AtV.ret Tryz.func93 tabOk ext93Ok mixed false [] tys93 [false] (a1 b0 trivial) (by kernel_rfl)
def one93 (x : TyB4) : Bool := g114_0 x
def ok93 (x0 : List TyB4) (i : Nat) (x : TyB4) : Bool := one93 x && (i == 0 || decide ((x0.getD (i - 1) ((0 : Int), (0 : Int), ())).1 + (x0.getD (i - 1) ((0 : Int), (0 : Int), ())).2.1 ≤ x.1))
def g93_0 (x0 : List TyB4) : Bool := allI (ok93 x0) 0 x0 && decide ((x0.length : Int) ≤ 24)
def P93 (x0 : List TyB4) : Prop := True
theorem in93 {x a b : Int} : g105_0 x a b = true ↔ a ≤ x ∧ x ≤ b := by
  unfold g105_0
  by_cases c1 : x ≥ a
  · by_cases c2 : x ≤ b
    · simp [c1, c2]
    · simp [c1, c2]
  · have : ¬ a ≤ x := c1
    simp [c1, this]
theorem one93_pre (x : TyB4) : P114 x := by
  unfold P114
  split
  · rename_i h1
    split
    · rename_i h2
      have h1 := in93.1 (show g105_0 x.1 0 1440 = true from h1)
      have h2 := in93.1 (show g105_0 x.2.1 1 1440 = true from h2)
      exact ⟨by rw [i64_iff]; omega, trivial⟩
    · trivial
  · trivial
theorem one93_b {x : TyB4} (h : one93 x = true) : (0 ≤ x.1 ∧ x.1 ≤ 1440) ∧ (1 ≤ x.2.1 ∧ x.2.1 ≤ 1440) := by
  unfold one93 g114_0 at h
  split at h
  · rename_i h0
    split at h
    · rename_i h1
      exact ⟨in93.1 h0, in93.1 h1⟩
    · cases h
  · cases h
theorem run93 (x0 : List TyB4) (hm : x0.length ≤ maxLen) : ∀ (k i : Nat), i + k = x0.length → (∀ j, j < i → one93 (x0.getD j ((0 : Int), (0 : Int), ())) = true) →
    R93_2 (k + 1) (i : Int) x0 [⟨.bool, allI (ok93 x0) i (x0.drop i) && decide ((x0.length : Int) ≤ 24)⟩] := by
  intro k
  induction k with
  | zero =>
    intro i hi _
    rw [R93_2, if_neg (by simp only [decide_eq_true_eq]; omega), drop_end _ _ (by omega)]
    rfl
  | succ k ih =>
    intro i hi hp
    have hlt : i < x0.length := by omega
    have hu := inR_up hm hlt
    have hmx : maxLen ≤ 9223372036854775807 := by decide
    rw [R93_2, if_pos (by simp only [decide_eq_true_eq]; omega), drop_get x0 i ((0 : Int), (0 : Int), ()) hlt]
    simp only [Int.toNat_natCast, allI]
    refine ⟨by omega, by omega, one93_pre _, ?_⟩
    cases h1 : one93 (x0.getD i ((0 : Int), (0 : Int), ())) with
    | false =>
      unfold one93 at h1
      rw [if_pos (by rw [h1]; rfl)]
      have : ok93 x0 i (x0.getD i ((0 : Int), (0 : Int), ())) = false := by unfold ok93 one93; rw [h1]; rfl
      rw [this]; rfl
    | true =>
      have h1' := h1
      unfold one93 at h1
      rw [if_neg (by rw [h1]; simp)]
      have hnext := ih (i + 1) (by omega) (fun j hj => by
        rcases Nat.lt_or_ge j i with h | h
        · exact hp j h
        · have : j = i := by omega
          subst this; exact h1')
      have e1 : (((i + 1 : Nat)) : Int) = (i : Int) + 1 := by omega
      rw [e1] at hnext
      by_cases h0 : (i : Int) > 0
      · rw [if_pos (by simpa using h0)]
        have hi0 : (i == 0) = false := by simp; omega
        have e : ((i : Int) - 1).toNat = i - 1 := by omega
        obtain ⟨b1, b2⟩ := one93_b (hp (i - 1) (by omega))
        have hd : InR .i64 ((i : Int) - 1) := by rw [i64_iff]; omega
        simp only [e]
        refine ⟨hd, by omega, by omega, ⟨by rw [i64_iff]; show _ ≤ (x0.getD (i - 1) ((0 : Int), (0 : Int), ())).1 + (x0.getD (i - 1) ((0 : Int), (0 : Int), ())).2.1 ∧ _; omega, trivial⟩, ?_⟩
        by_cases hc : (x0.getD (i - 1) ((0 : Int), (0 : Int), ())).1 + (x0.getD (i - 1) ((0 : Int), (0 : Int), ())).2.1 ≤ (x0.getD i ((0 : Int), (0 : Int), ())).1
        · rw [if_neg (by show ¬ decide ((x0.getD i ((0 : Int), (0 : Int), ())).1 < (x0.getD (i - 1) ((0 : Int), (0 : Int), ())).1 + (x0.getD (i - 1) ((0 : Int), (0 : Int), ())).2.1) = true; rw [decide_eq_true_eq]; omega)]
          have : ok93 x0 i (x0.getD i ((0 : Int), (0 : Int), ())) = true := by unfold ok93; rw [h1', hi0, decide_eq_true hc]; rfl
          rw [this, Bool.true_and]
          exact ⟨hu, hnext⟩
        · rw [if_pos (by show decide ((x0.getD i ((0 : Int), (0 : Int), ())).1 < (x0.getD (i - 1) ((0 : Int), (0 : Int), ())).1 + (x0.getD (i - 1) ((0 : Int), (0 : Int), ())).2.1) = true; rw [decide_eq_true_eq]; omega)]
          have : ok93 x0 i (x0.getD i ((0 : Int), (0 : Int), ())) = false := by unfold ok93; rw [hi0, decide_eq_false hc, Bool.or_false, Bool.and_false]
          rw [this, Bool.false_and, Bool.false_and]
      · rw [if_neg (by simpa using h0)]
        have hi0 : (i == 0) = true := by simp; omega
        have : ok93 x0 i (x0.getD i ((0 : Int), (0 : Int), ())) = true := by unfold ok93; rw [h1', hi0]; rfl
        rw [this, Bool.true_and]
        exact ⟨hu, hnext⟩
theorem top93 (x0 : List TyB4) (hw : x0.length ≤ maxLen) : R93 (x0.length + 1 + 1) x0 [⟨.bool, g93_0 x0⟩] := by
  rw [R93]
  exact run93 x0 hw x0.length 0 (by omega) (fun j hj => by omega)
def S93 : Am.Spec := { sig := sig93, pre := fun ⟨x0, _⟩ => P93 x0, res := fun ⟨x0, _⟩ => [⟨Ty.bool, g93_0 x0⟩] }
theorem con93 : Contract Tryz.prog 93 S93 := contract_of Tryz.func93 hb93 (Nat.le_of_ble_eq_true (by kernel_rfl)) (fun ⟨x0, _⟩ h hwf K q =>
  (snd93 _).1 x0 _ (top93 x0 hwf.1.1) K q)
end
noncomputable section
def ext128 : Ext := [(105, S105)]
theorem ext128Ok : ExtOk Tryz.prog ext128 := ⟨⟨ca105, con105⟩, trivial⟩
noncomputable def b128 : Code := bodyOf Tryz.f128
theorem hb128 : Tryz.f128.body = some b128 := by kernel_rfl
def sig128 : List AT := [AT.v (Ty.int .i64)]
def tys128 : List Ty := [Ty.bool]
def kds128 : List RK := []
def oks128 : List AT := owns sig128
def P128 (x0 : Int) : Prop := True
def g128_0 (x0 : Int) : Bool := g105_0 x0 0 1439
theorem at128 (x0 : Int) (h : P128 x0) (K : Ctx) (q : Nat → Value) : AtV Tryz.prog 128 (PostR kds128 oks128 [⟨Ty.bool, g128_0 x0⟩] [] [] q K) 5 K q [] [.code b128] (entE 0 0 sig128 (x0, ())) (entL sig128 (x0, ())) := by
  unfold P128 at h
  unfold g128_0
  exact AtV.ret Tryz.func128 tabOk ext128Ok mixed false [] tys128 [] (a1 trivial trivial) (by kernel_rfl)
def S128 : Am.Spec := { sig := sig128, pre := fun ⟨x0, _⟩ => P128 x0, res := fun ⟨x0, _⟩ => [⟨Ty.bool, g128_0 x0⟩], kds := kds128 }
theorem con128 : Contract Tryz.prog 128 S128 := contract_of Tryz.func128 hb128 (Nat.le_of_ble_eq_true (by kernel_rfl)) (fun ⟨x0, _⟩ h _ K q => at128 x0 h K q)
end
end Go.Proofs.YtnclnmljkoicdaaGreatDoor
set_option linter.unusedVariables false
set_option maxRecDepth 100000
namespace Go.Proofs
open Go.Shelf
def Tryz.laysM173_ren : Go.Shelf.Ren := ⟨fun | 173 => 97 | 246 => 120 | 283 => 133 | 284 => 134 | 285 => 135 | 286 => 136 | 129 => 142 | 317 => 141 | 318 => 143 | 319 => 144 | 320 => 145 | 337 => 150 | 338 => 151 | n => n, fun | 2 => 2 | 3 => 3 | 9 => 9 | 4 => 4 | 171 => 184 | 0 => 0 | 53 => 185 | 37 => 140 | 5 => 5 | 173 => 188 | 212 => 194 | 51 => 195 | 20 => 20 | 213 => 196 | 46 => 181 | 232 => 206 | 233 => 207 | n => n, fun | 17 => 0 | 18 => 1 | 19 => 2 | n => n⟩
theorem Tryz.laysM173 : Go.Proofs.LaysM.n173 Tryz.prog Tryz.laysM173_ren := {
  mixed := by kernel_rfl
  f129 := Tryz.func142.trans (congrArg some (by kernel_rfl))
  f173 := Tryz.func97.trans (congrArg some (by kernel_rfl))
  f246 := Tryz.func120.trans (congrArg some (by kernel_rfl))
  f283 := Tryz.func133.trans (congrArg some (by kernel_rfl))
  f284 := Tryz.func134.trans (congrArg some (by kernel_rfl))
  f285 := Tryz.func135.trans (congrArg some (by kernel_rfl))
  f286 := Tryz.func136.trans (congrArg some (by kernel_rfl))
  f317 := Tryz.func141.trans (congrArg some (by kernel_rfl))
  f318 := Tryz.func143.trans (congrArg some (by kernel_rfl))
  f319 := Tryz.func144.trans (congrArg some (by kernel_rfl))
  f320 := Tryz.func145.trans (congrArg some (by kernel_rfl))
  f337 := Tryz.func150.trans (congrArg some (by kernel_rfl))
  f338 := Tryz.func151.trans (congrArg some (by kernel_rfl))
  t0 := Tryz.underlying0
  a0 := Tryz.isAgg0
  z0 := Tryz.sizeOf0
  v0 := Tryz.zeroValue0
  t2 := Tryz.underlying2
  a2 := Tryz.isAgg2
  z2 := Tryz.sizeOf2
  v2 := Tryz.zeroValue2
  t3 := Tryz.underlying3
  a3 := Tryz.isAgg3
  z3 := Tryz.sizeOf3
  v3 := Tryz.zeroValue3
  t4 := Tryz.underlying4
  a4 := Tryz.isAgg4
  z4 := Tryz.sizeOf4
  v4 := Tryz.zeroValue4
  t5 := Tryz.underlying5
  a5 := Tryz.isAgg5
  z5 := Tryz.sizeOf5
  v5 := Tryz.zeroValue5
  t9 := Tryz.underlying9
  a9 := Tryz.isAgg9
  z9 := Tryz.sizeOf9
  v9 := Tryz.zeroValue9
  t20 := Tryz.underlying20
  a20 := Tryz.isAgg20
  z20 := Tryz.sizeOf20
  v20 := Tryz.zeroValue20
  t37 := Tryz.underlying140
  a37 := Tryz.isAgg140
  z37 := Tryz.sizeOf140
  v37 := Tryz.zeroValue140
  t46 := Tryz.underlying181
  a46 := Tryz.isAgg181
  z46 := Tryz.sizeOf181
  v46 := Tryz.zeroValue181
  t51 := Tryz.underlying195
  a51 := Tryz.isAgg195
  z51 := Tryz.sizeOf195
  v51 := Tryz.zeroValue195
  t53 := Tryz.underlying185
  a53 := Tryz.isAgg185
  z53 := Tryz.sizeOf185
  v53 := Tryz.zeroValue185
  t171 := Tryz.underlying184
  a171 := Tryz.isAgg184
  z171 := Tryz.sizeOf184
  v171 := Tryz.zeroValue184
  t173 := Tryz.underlying188
  a173 := Tryz.isAgg188
  z173 := Tryz.sizeOf188
  v173 := Tryz.zeroValue188
  t212 := Tryz.underlying194
  a212 := Tryz.isAgg194
  z212 := Tryz.sizeOf194
  v212 := Tryz.zeroValue194
  t213 := Tryz.underlying196
  a213 := Tryz.isAgg196
  z213 := Tryz.sizeOf196
  t232 := Tryz.underlying206
  a232 := Tryz.isAgg206
  z232 := Tryz.sizeOf206
  v232 := Tryz.zeroValue206
  t233 := Tryz.underlying207
  a233 := Tryz.isAgg207
  z233 := Tryz.sizeOf207
  v233 := Tryz.zeroValue207
  g17 := by kernel_rfl
  g18 := by kernel_rfl
  g19 := by kernel_rfl
  i0 := by kernel_rfl
  i2 := by kernel_rfl
  i3 := by kernel_rfl
  i4 := by kernel_rfl
  i5 := by kernel_rfl
  i9 := by kernel_rfl
  i20 := by kernel_rfl
  i37 := by kernel_rfl
  i46 := by kernel_rfl
  i51 := by kernel_rfl
  i53 := by kernel_rfl
  i171 := by kernel_rfl
  i173 := by kernel_rfl
  i212 := by kernel_rfl
  i232 := by kernel_rfl
  i233 := by kernel_rfl
  m17 := by kernel_rfl
  m18 := by kernel_rfl
  m19 := by kernel_rfl }
open Go.RowKit Go.Sort Go.Lib in theorem Tryz.strconv_FormatInt_10 (n : Int) (h0 : -9223372036854775808 ≤ n) (h1 : n ≤ 9223372036854775807) (w : World) (htab : Lib.TabIs Tryz.prog w "internal/strconv.uint64pow10" .u64 Lib.pow10Tab) :
    Calls Tryz.prog 97 #[.int .i64 n, .int .i64 10] w fun e w' => e = .returned (.string ⟨(Lib.itoa n).toArray⟩) ∧ ∃ k os, w' = grow (w.drewN k) os := Any.strconv_FormatInt_10 Tryz.laysM173 n h0 h1 w htab
def Tryz.lays146_ren : Go.Shelf.Ren := ⟨fun | 146 => 138 | 221 => 147 | 268 => 152 | 138 => 153 | 143 => 154 | 195 => 156 | 197 => 157 | 218 => 158 | 219 => 159 | 260 => 160 | 217 => 161 | 225 => 162 | 224 => 163 | 267 => 164 | 266 => 165 | 314 => 166 | n => n, fun | 9 => 9 | 31 => 179 | 3 => 3 | 4 => 4 | 0 => 0 | 105 => 209 | 21 => 21 | 5 => 5 | 46 => 181 | 119 => 212 | 139 => 215 | 138 => 214 | 146 => 216 | 51 => 195 | n => n, fun | 1 => 3 | 3 => 4 | 4 => 5 | n => n⟩
theorem Tryz.lays146 : Go.Proofs.Lays.n146 Tryz.prog Tryz.lays146_ren := {
  mixed := by kernel_rfl
  f138 := Tryz.func153.trans (congrArg some (by kernel_rfl))
  f143 := Tryz.func154.trans (congrArg some (by kernel_rfl))
  f146 := Tryz.func138.trans (congrArg some (by kernel_rfl))
  f195 := Tryz.func156.trans (congrArg some (by kernel_rfl))
  f197 := Tryz.func157.trans (congrArg some (by kernel_rfl))
  f217 := Tryz.func161.trans (congrArg some (by kernel_rfl))
  f218 := Tryz.func158.trans (congrArg some (by kernel_rfl))
  f219 := Tryz.func159.trans (congrArg some (by kernel_rfl))
  f221 := Tryz.func147.trans (congrArg some (by kernel_rfl))
  f224 := Tryz.func163.trans (congrArg some (by kernel_rfl))
  f225 := Tryz.func162.trans (congrArg some (by kernel_rfl))
  f260 := Tryz.func160.trans (congrArg some (by kernel_rfl))
  f266 := Tryz.func165.trans (congrArg some (by kernel_rfl))
  f267 := Tryz.func164.trans (congrArg some (by kernel_rfl))
  f268 := Tryz.func152.trans (congrArg some (by kernel_rfl))
  f314 := Tryz.func166.trans (congrArg some (by kernel_rfl))
  t0 := Tryz.underlying0
  a0 := Tryz.isAgg0
  z0 := Tryz.sizeOf0
  v0 := Tryz.zeroValue0
  t3 := Tryz.underlying3
  a3 := Tryz.isAgg3
  z3 := Tryz.sizeOf3
  v3 := Tryz.zeroValue3
  t4 := Tryz.underlying4
  a4 := Tryz.isAgg4
  z4 := Tryz.sizeOf4
  v4 := Tryz.zeroValue4
  t5 := Tryz.underlying5
  a5 := Tryz.isAgg5
  z5 := Tryz.sizeOf5
  v5 := Tryz.zeroValue5
  t9 := Tryz.underlying9
  a9 := Tryz.isAgg9
  z9 := Tryz.sizeOf9
  v9 := Tryz.zeroValue9
  t21 := Tryz.underlying21
  a21 := Tryz.isAgg21
  z21 := Tryz.sizeOf21
  v21 := Tryz.zeroValue21
  t31 := Tryz.underlying179
  a31 := Tryz.isAgg179
  z31 := Tryz.sizeOf179
  v31 := Tryz.zeroValue179
  t46 := Tryz.underlying181
  a46 := Tryz.isAgg181
  z46 := Tryz.sizeOf181
  v46 := Tryz.zeroValue181
  t51 := Tryz.underlying195
  a51 := Tryz.isAgg195
  z51 := Tryz.sizeOf195
  v51 := Tryz.zeroValue195
  t105 := Tryz.underlying209
  a105 := Tryz.isAgg209
  z105 := Tryz.sizeOf209
  v105 := Tryz.zeroValue209
  t119 := Tryz.underlying212
  a119 := Tryz.isAgg212
  z119 := Tryz.sizeOf212
  t138 := Tryz.underlying214
  a138 := Tryz.isAgg214
  z138 := Tryz.sizeOf214
  v138 := Tryz.zeroValue214
  t139 := Tryz.underlying215
  a139 := Tryz.isAgg215
  z139 := Tryz.sizeOf215
  v139 := Tryz.zeroValue215
  t146 := Tryz.underlying216
  a146 := Tryz.isAgg216
  z146 := Tryz.sizeOf216
  v146 := Tryz.zeroValue216
  g1 := by kernel_rfl
  g3 := by kernel_rfl
  g4 := by kernel_rfl }
open Go.RowKit Go.Lib in theorem Tryz.strings_Split (s sep : ByteArray) (m : Int) (w : World) (hs : s.size < 4294967281) (hm : w.cell? ⟨3, 0, none⟩ = some (.int .i64 m)) (h1 : 1 ≤ sep.size) :
    Calls Tryz.prog 138 #[.string s, .string sep] w fun e w' =>
      e = .returned (.slice (some ⟨w.heap.size, 0, none⟩) (Lib.countB s sep + 1) (Lib.countB s sep + 1)) ∧ w' = w.alloc (.cells ((Lib.splitB sep 0 (Lib.countB s sep) s).map Value.string).toArray 9) := Any.strings_Split Tryz.lays146 (by kernel_rfl) s sep m w hs hm h1
end Go.Proofs
set_option linter.unusedVariables false
set_option linter.unusedSimpArgs false
set_option maxRecDepth 100000
namespace Go.Proofs.YtnclnmljkoicdaaGreatDoor
open Go Go.Am Go.Proofs
def sig138 : List AT := [AT.v Ty.str, AT.v Ty.str]
def g138_0 (x0 x1 : ByteArray) : List ByteArray := Lib.splitB x1 0 (Lib.countB x0 x1) x0
def P138 (x0 x1 : ByteArray) : Prop := x0.size < 4294967281 ∧ 1 ≤ x1.size
def S138 : Am.Spec := { sig := sig138, pre := fun ⟨x0, x1, _⟩ => P138 x0 x1, res := fun ⟨x0, x1, _⟩ => [⟨Ty.sl Ty.str, g138_0 x0 x1⟩] }
theorem con138 : Contract Tryz.prog 138 S138 := by
  refine Contract0.up rfl rfl ?_
  rintro w ⟨x0, x1, u⟩ vs bss hgo hp ⟨v0, s0, b0, bs0, rfl, rfl, ⟨rfl, rfl, _⟩, v1, s1, b1, bs1, rfl, rfl, ⟨rfl, rfl, _⟩, rfl, rfl⟩ hn
  obtain ⟨hs, h1⟩ : x0.size < 4294967281 ∧ 1 ≤ x1.size := hp
  obtain ⟨m, hm⟩ := maxLenG hgo.inv
  refine (Tryz.strings_Split x0 x1 m w hs hm h1).mono ?_
  rintro e w' ⟨rfl, rfl⟩
  have hlen : (g138_0 x0 x1).length = Lib.countB x0 x1 + 1 := Lib.splitB_all x1 h1 0 _ _ rfl
  have hle := Lib.countB_le x1 h1 x0.size x0 (Nat.le_refl _)
  have hparts : ∀ y ∈ g138_0 x0 x1, y.size ≤ maxLen := fun y hy => by
    have := splitB_part x1 0 _ _ y hy
    unfold maxLen; omega
  have e1 : ∀ xs : List ByteArray, fcs .str xs = xs.map Value.string := by
    intro xs
    induction xs with
    | nil => rfl
    | cons a r ih => unfold fcs at ih ⊢; rw [List.map_cons, List.flatten_cons, ih]; rfl
  have ho : OwnC (w.alloc (.cells ((g138_0 x0 x1).map Value.string).toArray 9)) (.sl .str) (g138_0 x0 x1) [.slice (some ⟨w.heap.size, 0, none⟩) (Lib.countB x0 x1 + 1) (Lib.countB x0 x1 + 1)] [w.heap.size] :=
    own_flat_mk rfl hparts hlen.symm (Nat.le_of_eq hlen) (by unfold maxLen; omega) (by rw [List.size_toArray, List.length_map, hlen]; simp [Ty.size]) (heap_new w _) (freeS_zero _ _) (fun j u hj => by
      rw [e1] at hj
      rw [Nat.zero_add, ← Array.getElem?_toList]
      exact hj)
  refine ⟨[_], [], [[w.heap.size]], rfl, (Kept.refl _ _).alloc _, ⟨_, _, _, _, _, rfl, rfl, ho, rfl, rfl, rfl⟩, ⟨rfl, rfl⟩, by simp, fun b hb hg => ?_⟩
  simp at hb
  have := hg.1
  omega
noncomputable section
def ext149 : Ext := []
theorem ext149Ok : ExtOk Tryz.prog ext149 := trivial
noncomputable def b149 : Code := bodyOf Tryz.f149
theorem hb149 : Tryz.f149.body = some b149 := by kernel_rfl
def sig149 : List AT := [AT.v (Ty.int .u8)]
def tys149 : List Ty := [Ty.bool]
def kds149 : List RK := []
def oks149 : List AT := owns sig149
def P149 (x0 : Int) : Prop := True
def g149_0 (x0 : Int) : Bool := (if (decide (x0 < 97)) = true then (if (decide (x0 < 48)) = true then true else decide (x0 > 57)) else (if (decide (x0 > 122)) = true then (if (decide (x0 < 48)) = true then true else decide (x0 > 57)) else false))
theorem at149 (x0 : Int) (h : P149 x0) (K : Ctx) (q : Nat → Value) : AtV Tryz.prog 149 (PostR kds149 oks149 [⟨Ty.bool, g149_0 x0⟩] [] [] q K) 17 K q [] [.code b149] (entE 0 0 sig149 (x0, ())) (entL sig149 (x0, ())) := by
  unfold P149 at h
  unfold g149_0
  by_cases b0 : (decide (x0 < 97)) = true
  · try simp only [if_pos b0] at h ⊢
    by_cases b1 : (decide (x0 < 48)) = true
    · try simp only [if_pos b1] at h ⊢
      exact AtV.ret Tryz.func149 tabOk ext149Ok mixed false [] tys149 [true, true, true] (a1 b0 (a1 (rfl : true = true) (a1 b1 trivial))) (by kernel_rfl)
    · try simp only [if_neg b1] at h ⊢
      replace b1 := Bool.eq_false_iff.2 b1
      exact AtV.ret Tryz.func149 tabOk ext149Ok mixed false [] tys149 [true, true, false] (a1 b0 (a1 (rfl : true = true) (a1 b1 trivial))) (by kernel_rfl)
  · try simp only [if_neg b0] at h ⊢
    replace b0 := Bool.eq_false_iff.2 b0
    by_cases b1 : (decide (x0 > 122)) = true
    · try simp only [if_pos b1] at h ⊢
      by_cases b2 : (decide (x0 < 48)) = true
      · try simp only [if_pos b2] at h ⊢
        exact AtV.ret Tryz.func149 tabOk ext149Ok mixed false [] tys149 [false, true, true] (a1 b0 (a1 b1 (a1 b2 trivial))) (by kernel_rfl)
      · try simp only [if_neg b2] at h ⊢
        replace b2 := Bool.eq_false_iff.2 b2
        exact AtV.ret Tryz.func149 tabOk ext149Ok mixed false [] tys149 [false, true, false] (a1 b0 (a1 b1 (a1 b2 trivial))) (by kernel_rfl)
    · try simp only [if_neg b1] at h ⊢
      replace b1 := Bool.eq_false_iff.2 b1
      exact AtV.ret Tryz.func149 tabOk ext149Ok mixed false [] tys149 [false, false] (a1 b0 (a1 b1 trivial)) (by kernel_rfl)
def S149 : Am.Spec := { sig := sig149, pre := fun ⟨x0, _⟩ => P149 x0, res := fun ⟨x0, _⟩ => [⟨Ty.bool, g149_0 x0⟩], kds := kds149 }
theorem con149 : Contract Tryz.prog 149 S149 := contract_of Tryz.func149 hb149 (Nat.le_of_ble_eq_true (by kernel_rfl)) (fun ⟨x0, _⟩ h _ K q => at149 x0 h K q)
end
noncomputable section
def ext155c149 : Ext := [(149, S149)]
theorem ext155c149Ok : ExtOk Tryz.prog ext155c149 := ⟨⟨ca149, con149⟩, trivial⟩
noncomputable def b155c149 : Code := bodyOf Tryz.f155
theorem hb155c149 : Tryz.f155.body = some b155c149 := by kernel_rfl
def sig155c149 : List AT := [AT.v (Ty.sl (Ty.int .u8)), AT.fn 149 []]
def tys155c149 : List Ty := [Ty.int .i64]
def kds155c149 : List RK := []
def oks155c149 : List AT := owns sig155c149
def E155c149_2 (v8 : Int) (x0 : List Int) : Env := [(0, PV.a (Atom.sl (Ty.int .u8) x0)), (1, PV.fn 149 []), (7, PV.a (Atom.val (Value.int .i64 (↑(List.length x0) : Int)))), (8, PV.a (Atom.val (Value.int .i64 v8)))]
def L155c149_2 (v8 : Int) (x0 : List Int) : Heap := []
mutual
def R155c149 : Nat → List Int → List Dyn → Prop
  | 0, _, _ => False
  | n + 1, x0, ds => (R155c149_2 n (0) (x0) ds)
def R155c149_2 : Nat → Int → List Int → List Dyn → Prop
  | 0, _, _, _ => False
  | n + 1, v8, x0, ds => (if (decide (v8 < (↑(List.length x0) : Int))) = true then ((0 ≤ v8) ∧ (v8 < (↑(List.length x0) : Int)) ∧ (if (g149_0 (List.getD x0 (Int.toNat v8) 0)) = true then (ds = [Dyn.mk (Ty.int .i64) v8]) else ((InR .i64 (v8 + 1)) ∧ (R155c149_2 n (v8 + 1) (x0) ds)))) else (ds = [Dyn.mk (Ty.int .i64) (-1)]))
end
theorem snd155c149 : ∀ n, (∀ (x0 : List Int) ds, R155c149 n x0 ds → ∀ K q, AtV Tryz.prog 155 (PostR kds155c149 oks155c149 ds [] [] q K) 19 K q [] [.code b155c149] (entE 0 0 sig155c149 (x0, (), ())) (entL sig155c149 (x0, (), ()))) ∧ (∀ (v8 : Int) (x0 : List Int) ds, R155c149_2 n v8 x0 ds → ∀ K q, AtV Tryz.prog 155 (PostR kds155c149 oks155c149 ds [] [] q K) 19 K q [] (cutAt b155c149 2) (E155c149_2 v8 x0) (L155c149_2 v8 x0)) := by
  intro n
  induction n with
  | zero => exact ⟨fun _ _ h => by simp only [R155c149] at h, fun _ _ _ h => by simp only [R155c149_2] at h⟩
  | succ n ih =>
  obtain ⟨ih, ih2⟩ := ih
  refine ⟨?_, ?_⟩
  · intro x0 ds h K q
    rw [R155c149] at h
    exact AtV.go tabOk ext155c149Ok mixed false [] [] [0, 1, 7, 8] [] [] trivial (ih2 _ _ _ h K q) (by kernel_rfl)
  · intro v8 x0 ds h K q
    rw [R155c149_2] at h
    by_cases b0 : (decide (v8 < (↑(List.length x0) : Int))) = true
    · rw [if_pos b0] at h
      obtain ⟨s0, s1, h⟩ := h
      by_cases b1 : (g149_0 (List.getD x0 (Int.toNat v8) 0)) = true
      · rw [if_pos b1] at h
        subst h
        exact AtV.ret Tryz.func155 tabOk ext155c149Ok mixed false [] tys155c149 [true, true] (a1 b0 (a1 s0 (a1 s1 (a1 trivial (a1 b1 trivial))))) (by kernel_rfl)
      · rw [if_neg b1] at h
        replace b1 := Bool.eq_false_iff.2 b1
        obtain ⟨s2, h⟩ := h
        exact AtV.go tabOk ext155c149Ok mixed false [] [] [0, 1, 7, 8] [] [true, false] (a1 b0 (a1 s0 (a1 s1 (a1 trivial (a1 b1 (a1 s2 trivial)))))) (ih2 _ _ _ h K q) (by kernel_rfl)
    · rw [if_neg b0] at h
      replace b0 := Bool.eq_false_iff.2 b0
      subst h
      exact AtV.ret Tryz.func155 tabOk ext155c149Ok mixed false [] tys155c149 [false] (a1 b0 trivial) (by kernel_rfl)
def g155c149_0 (x0 : List (Int)) : Int := idx (x0.findIdx? g149_0)
def P155c149 (x0 : List (Int)) : Prop := True
theorem top155c149 (x0 : List (Int)) (hm : x0.length ≤ maxLen) : R155c149 (x0.length + 1 + 1) x0 [⟨.int .i64, g155c149_0 x0⟩] := by
  rw [R155c149]
  have key := loop_find x0 (0 : Int) g149_0 [(⟨.int .i64, -1⟩ : Dyn)] (fun k => [⟨.int .i64, k⟩]) (fun n i ds => R155c149_2 n i x0 ds) (fun n => ?_) (fun n i hi hok ds hr => ?_) (fun n i hi hok => ?_)
  · unfold g155c149_0
    cases h : x0.findIdx? g149_0 <;> rw [h] at key <;> exact key
  · rw [R155c149_2, if_neg (by simp)]
  · rw [R155c149_2, if_pos (by simp; omega)]
    simp only [Int.toNat_natCast]
    refine ⟨by omega, by omega, ?_⟩
    rw [if_neg (by rw [hok]; simp)]
    exact ⟨inR_up hm hi, hr⟩
  · rw [R155c149_2, if_pos (by simp; omega)]
    simp only [Int.toNat_natCast]
    refine ⟨by omega, by omega, ?_⟩
    rw [if_pos hok] <;> trivial
def S155c149 : Am.Spec := { sig := sig155c149, pre := fun ⟨x0, _⟩ => P155c149 x0, res := fun ⟨x0, _⟩ => [⟨Ty.int .i64, g155c149_0 x0⟩] }
theorem con155c149 : Contract Tryz.prog 155 S155c149 := contract_of Tryz.func155 hb155c149 (Nat.le_of_ble_eq_true (by kernel_rfl)) (fun ⟨x0, _⟩ h hwf K q =>
  (snd155c149 _).1 x0 _ (top155c149 x0 hwf.1.1) K q)
theorem any155c149 (x0 : List (Int)) : decide (g155c149_0 x0 ≥ 0) = x0.any g149_0 := by
  have := findIdx_any g149_0 x0
  unfold g155c149_0
  cases h : x0.any g149_0 with
  | true => rw [h] at this; simpa using this
  | false => rw [h] at this; simpa using this
end
noncomputable section
def ext148c149 : Ext := [(155, S155c149), (149, S149)]
theorem ext148c149Ok : ExtOk Tryz.prog ext148c149 := ⟨⟨ca155, con155c149⟩, ⟨ca149, con149⟩, trivial⟩
noncomputable def b148c149 : Code := bodyOf Tryz.f148
theorem hb148c149 : Tryz.f148.body = some b148c149 := by kernel_rfl
def sig148c149 : List AT := [AT.v (Ty.sl (Ty.int .u8)), AT.fn 149 []]
def tys148c149 : List Ty := [Ty.bool]
def kds148c149 : List RK := []
def oks148c149 : List AT := owns sig148c149
def P148c149 (x0 : List Int) : Prop := True
def g148c149_0 (x0 : List Int) : Bool := decide (g155c149_0 x0 ≥ 0)
theorem at148c149 (x0 : List Int) (h : P148c149 x0) (K : Ctx) (q : Nat → Value) : AtV Tryz.prog 148 (PostR kds148c149 oks148c149 [⟨Ty.bool, g148c149_0 x0⟩] [] [] q K) 9 K q [] [.code b148c149] (entE 0 0 sig148c149 (x0, (), ())) (entL sig148c149 (x0, (), ())) := by
  unfold P148c149 at h
  unfold g148c149_0
  exact AtV.ret Tryz.func148 tabOk ext148c149Ok mixed false [] tys148c149 [] (a1 trivial trivial) (by kernel_rfl)
def S148c149 : Am.Spec := { sig := sig148c149, pre := fun ⟨x0, _⟩ => P148c149 x0, res := fun ⟨x0, _⟩ => [⟨Ty.bool, g148c149_0 x0⟩], kds := kds148c149 }
theorem con148c149 : Contract Tryz.prog 148 S148c149 := contract_of Tryz.func148 hb148c149 (Nat.le_of_ble_eq_true (by kernel_rfl)) (fun ⟨x0, _⟩ h _ K q => at148c149 x0 h K q)
end
noncomputable section
def ext140 : Ext := [(148, S148c149)]
theorem ext140Ok : ExtOk Tryz.prog ext140 := ⟨⟨ca148, con148c149⟩, trivial⟩
noncomputable def b140 : Code := bodyOf Tryz.f140
theorem hb140 : Tryz.f140.body = some b140 := by kernel_rfl
def sig140 : List AT := [AT.v (Ty.str)]
def tys140 : List Ty := [Ty.bool]
def kds140 : List RK := []
def oks140 : List AT := owns sig140
def P140 (x0 : ByteArray) : Prop := True
def g140_0 (x0 : ByteArray) : Bool := (if (!ByteArray.toList x0 == ByteArray.toList (ByteArray.mk #[])) = true then !g148c149_0 (bytesOf x0) else false)
theorem at140 (x0 : ByteArray) (h : P140 x0) (K : Ctx) (q : Nat → Value) : AtV Tryz.prog 140 (PostR kds140 oks140 [⟨Ty.bool, g140_0 x0⟩] [] [] q K) 11 K q [] [.code b140] (entE 0 0 sig140 (x0, ())) (entL sig140 (x0, ())) := by
  unfold P140 at h
  unfold g140_0
  by_cases b0 : (!ByteArray.toList x0 == ByteArray.toList (ByteArray.mk #[])) = true
  · try simp only [if_pos b0] at h ⊢
    exact AtV.ret Tryz.func140 tabOk ext140Ok mixed false [] tys140 [true] (a1 b0 (a1 trivial trivial)) (by kernel_rfl)
  · try simp only [if_neg b0] at h ⊢
    replace b0 := Bool.eq_false_iff.2 b0
    exact AtV.ret Tryz.func140 tabOk ext140Ok mixed false [] tys140 [false] (a1 b0 trivial) (by kernel_rfl)
def S140 : Am.Spec := { sig := sig140, pre := fun ⟨x0, _⟩ => P140 x0, res := fun ⟨x0, _⟩ => [⟨Ty.bool, g140_0 x0⟩], kds := kds140 }
theorem con140 : Contract Tryz.prog 140 S140 := contract_of Tryz.func140 hb140 (Nat.le_of_ble_eq_true (by kernel_rfl)) (fun ⟨x0, _⟩ h _ K q => at140 x0 h K q)
end
noncomputable section
def ext139 : Ext := [(140, S140)]
theorem ext139Ok : ExtOk Tryz.prog ext139 := ⟨⟨ca140, con140⟩, trivial⟩
noncomputable def b139 : Code := bodyOf Tryz.f139
theorem hb139 : Tryz.f139.body = some b139 := by kernel_rfl
def sig139 : List AT := [AT.v (Ty.str)]
def tys139 : List Ty := [Ty.bool]
def kds139 : List RK := []
def oks139 : List AT := owns sig139
def P139 (x0 : ByteArray) : Prop := True
def g139_0 (x0 : ByteArray) : Bool := !g140_0 x0
theorem at139 (x0 : ByteArray) (h : P139 x0) (K : Ctx) (q : Nat → Value) : AtV Tryz.prog 139 (PostR kds139 oks139 [⟨Ty.bool, g139_0 x0⟩] [] [] q K) 6 K q [] [.code b139] (entE 0 0 sig139 (x0, ())) (entL sig139 (x0, ())) := by
  unfold P139 at h
  unfold g139_0
  exact AtV.ret Tryz.func139 tabOk ext139Ok mixed false [] tys139 [] (a1 trivial trivial) (by kernel_rfl)
def S139 : Am.Spec := { sig := sig139, pre := fun ⟨x0, _⟩ => P139 x0, res := fun ⟨x0, _⟩ => [⟨Ty.bool, g139_0 x0⟩], kds := kds139 }
theorem con139 : Contract Tryz.prog 139 S139 := contract_of Tryz.func139 hb139 (Nat.le_of_ble_eq_true (by kernel_rfl)) (fun ⟨x0, _⟩ h _ K q => at139 x0 h K q)
end
noncomputable section
def ext146c139 : Ext := [(139, S139)]
theorem ext146c139Ok : ExtOk Tryz.prog ext146c139 := ⟨⟨ca139, con139⟩, trivial⟩
noncomputable def b146c139 : Code := bodyOf Tryz.f146
theorem hb146c139 : Tryz.f146.body = some b146c139 := by kernel_rfl
def sig146c139 : List AT := [AT.v (Ty.sl Ty.str), AT.fn 139 []]
def tys146c139 : List Ty := [Ty.int .i64]
def kds146c139 : List RK := []
def oks146c139 : List AT := owns sig146c139
def E146c139_2 (v8 : Int) (x0 : List ByteArray) : Env := [(0, PV.a (Atom.sl Ty.str x0)), (1, PV.fn 139 []), (7, PV.a (Atom.val (Value.int .i64 (↑(List.length x0) : Int)))), (8, PV.a (Atom.val (Value.int .i64 v8)))]
def L146c139_2 (v8 : Int) (x0 : List ByteArray) : Heap := []
mutual
def R146c139 : Nat → List ByteArray → List Dyn → Prop
  | 0, _, _ => False
  | n + 1, x0, ds => (R146c139_2 n (0) (x0) ds)
def R146c139_2 : Nat → Int → List ByteArray → List Dyn → Prop
  | 0, _, _, _ => False
  | n + 1, v8, x0, ds => (if (decide (v8 < (↑(List.length x0) : Int))) = true then ((0 ≤ v8) ∧ (v8 < (↑(List.length x0) : Int)) ∧ (if (g139_0 (List.getD x0 (Int.toNat v8) ByteArray.empty)) = true then (ds = [Dyn.mk (Ty.int .i64) v8]) else ((InR .i64 (v8 + 1)) ∧ (R146c139_2 n (v8 + 1) (x0) ds)))) else (ds = [Dyn.mk (Ty.int .i64) (-1)]))
end
theorem snd146c139 : ∀ n, (∀ (x0 : List ByteArray) ds, R146c139 n x0 ds → ∀ K q, AtV Tryz.prog 146 (PostR kds146c139 oks146c139 ds [] [] q K) 19 K q [] [.code b146c139] (entE 0 0 sig146c139 (x0, (), ())) (entL sig146c139 (x0, (), ()))) ∧ (∀ (v8 : Int) (x0 : List ByteArray) ds, R146c139_2 n v8 x0 ds → ∀ K q, AtV Tryz.prog 146 (PostR kds146c139 oks146c139 ds [] [] q K) 19 K q [] (cutAt b146c139 2) (E146c139_2 v8 x0) (L146c139_2 v8 x0)) := by
  intro n
  induction n with
  | zero => exact ⟨fun _ _ h => by simp only [R146c139] at h, fun _ _ _ h => by simp only [R146c139_2] at h⟩
  | succ n ih =>
  obtain ⟨ih, ih2⟩ := ih
  refine ⟨?_, ?_⟩
  · intro x0 ds h K q
    rw [R146c139] at h
    exact AtV.go tabOk ext146c139Ok mixed false [] [] [0, 1, 7, 8] [] [] trivial (ih2 _ _ _ h K q) (by kernel_rfl)
  · intro v8 x0 ds h K q
    rw [R146c139_2] at h
    by_cases b0 : (decide (v8 < (↑(List.length x0) : Int))) = true
    · rw [if_pos b0] at h
      obtain ⟨s0, s1, h⟩ := h
      by_cases b1 : (g139_0 (List.getD x0 (Int.toNat v8) ByteArray.empty)) = true
      · rw [if_pos b1] at h
        subst h
        exact AtV.ret Tryz.func146 tabOk ext146c139Ok mixed false [] tys146c139 [true, true] (a1 b0 (a1 s0 (a1 s1 (a1 trivial (a1 b1 trivial))))) (by kernel_rfl)
      · rw [if_neg b1] at h
        replace b1 := Bool.eq_false_iff.2 b1
        obtain ⟨s2, h⟩ := h
        exact AtV.go tabOk ext146c139Ok mixed false [] [] [0, 1, 7, 8] [] [true, false] (a1 b0 (a1 s0 (a1 s1 (a1 trivial (a1 b1 (a1 s2 trivial)))))) (ih2 _ _ _ h K q) (by kernel_rfl)
    · rw [if_neg b0] at h
      replace b0 := Bool.eq_false_iff.2 b0
      subst h
      exact AtV.ret Tryz.func146 tabOk ext146c139Ok mixed false [] tys146c139 [false] (a1 b0 trivial) (by kernel_rfl)
def g146c139_0 (x0 : List (ByteArray)) : Int := idx (x0.findIdx? g139_0)
def P146c139 (x0 : List (ByteArray)) : Prop := True
theorem top146c139 (x0 : List (ByteArray)) (hm : x0.length ≤ maxLen) : R146c139 (x0.length + 1 + 1) x0 [⟨.int .i64, g146c139_0 x0⟩] := by
  rw [R146c139]
  have key := loop_find x0 ByteArray.empty g139_0 [(⟨.int .i64, -1⟩ : Dyn)] (fun k => [⟨.int .i64, k⟩]) (fun n i ds => R146c139_2 n i x0 ds) (fun n => ?_) (fun n i hi hok ds hr => ?_) (fun n i hi hok => ?_)
  · unfold g146c139_0
    cases h : x0.findIdx? g139_0 <;> rw [h] at key <;> exact key
  · rw [R146c139_2, if_neg (by simp)]
  · rw [R146c139_2, if_pos (by simp; omega)]
    simp only [Int.toNat_natCast]
    refine ⟨by omega, by omega, ?_⟩
    rw [if_neg (by rw [hok]; simp)]
    exact ⟨inR_up hm hi, hr⟩
  · rw [R146c139_2, if_pos (by simp; omega)]
    simp only [Int.toNat_natCast]
    refine ⟨by omega, by omega, ?_⟩
    rw [if_pos hok] <;> trivial
def S146c139 : Am.Spec := { sig := sig146c139, pre := fun ⟨x0, _⟩ => P146c139 x0, res := fun ⟨x0, _⟩ => [⟨Ty.int .i64, g146c139_0 x0⟩] }
theorem con146c139 : Contract Tryz.prog 146 S146c139 := contract_of Tryz.func146 hb146c139 (Nat.le_of_ble_eq_true (by kernel_rfl)) (fun ⟨x0, _⟩ h hwf K q =>
  (snd146c139 _).1 x0 _ (top146c139 x0 hwf.1.1) K q)
theorem any146c139 (x0 : List (ByteArray)) : decide (g146c139_0 x0 ≥ 0) = x0.any g139_0 := by
  have := findIdx_any g139_0 x0
  unfold g146c139_0
  cases h : x0.any g139_0 with
  | true => rw [h] at this; simpa using this
  | false => rw [h] at this; simpa using this
end
noncomputable section
def ext137c139 : Ext := [(146, S146c139), (139, S139)]
theorem ext137c139Ok : ExtOk Tryz.prog ext137c139 := ⟨⟨ca146, con146c139⟩, ⟨ca139, con139⟩, trivial⟩
noncomputable def b137c139 : Code := bodyOf Tryz.f137
theorem hb137c139 : Tryz.f137.body = some b137c139 := by kernel_rfl
def sig137c139 : List AT := [AT.v (Ty.sl Ty.str), AT.fn 139 []]
def tys137c139 : List Ty := [Ty.bool]
def kds137c139 : List RK := []
def oks137c139 : List AT := owns sig137c139
def P137c139 (x0 : List ByteArray) : Prop := True
def g137c139_0 (x0 : List ByteArray) : Bool := decide (g146c139_0 x0 ≥ 0)
theorem at137c139 (x0 : List ByteArray) (h : P137c139 x0) (K : Ctx) (q : Nat → Value) : AtV Tryz.prog 137 (PostR kds137c139 oks137c139 [⟨Ty.bool, g137c139_0 x0⟩] [] [] q K) 9 K q [] [.code b137c139] (entE 0 0 sig137c139 (x0, (), ())) (entL sig137c139 (x0, (), ())) := by
  unfold P137c139 at h
  unfold g137c139_0
  exact AtV.ret Tryz.func137 tabOk ext137c139Ok mixed false [] tys137c139 [] (a1 trivial trivial) (by kernel_rfl)
def S137c139 : Am.Spec := { sig := sig137c139, pre := fun ⟨x0, _⟩ => P137c139 x0, res := fun ⟨x0, _⟩ => [⟨Ty.bool, g137c139_0 x0⟩], kds := kds137c139 }
theorem con137c139 : Contract Tryz.prog 137 S137c139 := contract_of Tryz.func137 hb137c139 (Nat.le_of_ble_eq_true (by kernel_rfl)) (fun ⟨x0, _⟩ h _ K q => at137c139 x0 h K q)
end
noncomputable section
def ext129 : Ext := [(138, S138), (137, S137c139)]
theorem ext129Ok : ExtOk Tryz.prog ext129 := ⟨⟨ca138, con138⟩, ⟨ca137, con137c139⟩, trivial⟩
noncomputable def b129 : Code := bodyOf Tryz.f129
theorem hb129 : Tryz.f129.body = some b129 := by kernel_rfl
def sig129 : List AT := [AT.v (Ty.str)]
def tys129 : List Ty := [Ty.bool]
def kds129 : List RK := []
def oks129 : List AT := owns sig129
def P129 (x0 : ByteArray) : Prop := (if (decide ((↑(ByteArray.size x0) : Int) ≤ 40)) = true then ((P138 x0 (ByteArray.mk #[32])) ∧ True) else True)
def g129_0 (x0 : ByteArray) : Bool := (if (decide ((↑(ByteArray.size x0) : Int) ≤ 40)) = true then !g137c139_0 (g138_0 x0 (ByteArray.mk #[32])) else false)
theorem at129 (x0 : ByteArray) (h : P129 x0) (K : Ctx) (q : Nat → Value) : AtV Tryz.prog 129 (PostR kds129 oks129 [⟨Ty.bool, g129_0 x0⟩] [] [] q K) 12 K q [] [.code b129] (entE 0 0 sig129 (x0, ())) (entL sig129 (x0, ())) := by
  unfold P129 at h
  unfold g129_0
  by_cases b0 : (decide ((↑(ByteArray.size x0) : Int) ≤ 40)) = true
  · try simp only [if_pos b0] at h ⊢
    obtain ⟨s0, h⟩ := h
    exact AtV.ret Tryz.func129 tabOk ext129Ok mixed false [] tys129 [true] (a1 b0 (a1 s0 (a1 trivial trivial))) (by kernel_rfl)
  · try simp only [if_neg b0] at h ⊢
    replace b0 := Bool.eq_false_iff.2 b0
    exact AtV.ret Tryz.func129 tabOk ext129Ok mixed false [] tys129 [false] (a1 b0 trivial) (by kernel_rfl)
def S129 : Am.Spec := { sig := sig129, pre := fun ⟨x0, _⟩ => P129 x0, res := fun ⟨x0, _⟩ => [⟨Ty.bool, g129_0 x0⟩], kds := kds129 }
theorem con129 : Contract Tryz.prog 129 S129 := contract_of Tryz.func129 hb129 (Nat.le_of_ble_eq_true (by kernel_rfl)) (fun ⟨x0, _⟩ h _ K q => at129 x0 h K q)
end
noncomputable section
def ext130 : Ext := [(105, S105)]
theorem ext130Ok : ExtOk Tryz.prog ext130 := ⟨⟨ca105, con105⟩, trivial⟩
noncomputable def b130 : Code := bodyOf Tryz.f130
theorem hb130 : Tryz.f130.body = some b130 := by kernel_rfl
def sig130 : List AT := [AT.v (Ty.int .i64)]
def tys130 : List Ty := [Ty.bool]
def kds130 : List RK := []
def oks130 : List AT := owns sig130
def P130 (x0 : Int) : Prop := True
def g130_0 (x0 : Int) : Bool := g105_0 x0 0 65535
theorem at130 (x0 : Int) (h : P130 x0) (K : Ctx) (q : Nat → Value) : AtV Tryz.prog 130 (PostR kds130 oks130 [⟨Ty.bool, g130_0 x0⟩] [] [] q K) 5 K q [] [.code b130] (entE 0 0 sig130 (x0, ())) (entL sig130 (x0, ())) := by
  unfold P130 at h
  unfold g130_0
  exact AtV.ret Tryz.func130 tabOk ext130Ok mixed false [] tys130 [] (a1 trivial trivial) (by kernel_rfl)
def S130 : Am.Spec := { sig := sig130, pre := fun ⟨x0, _⟩ => P130 x0, res := fun ⟨x0, _⟩ => [⟨Ty.bool, g130_0 x0⟩], kds := kds130 }
theorem con130 : Contract Tryz.prog 130 S130 := contract_of Tryz.func130 hb130 (Nat.le_of_ble_eq_true (by kernel_rfl)) (fun ⟨x0, _⟩ h _ K q => at130 x0 h K q)
end
noncomputable section
def ext116 : Ext := [(111, S111), (128, S128), (129, S129), (130, S130)]
theorem ext116Ok : ExtOk Tryz.prog ext116 := ⟨⟨ca111, con111⟩, ⟨ca128, con128⟩, ⟨ca129, con129⟩, ⟨ca130, con130⟩, trivial⟩
noncomputable def b116 : Code := bodyOf Tryz.f116
theorem hb116 : Tryz.f116.body = some b116 := by kernel_rfl
def sig116 : List AT := [AT.v YA6]
def tys116 : List Ty := [Ty.bool]
def kds116 : List RK := []
def oks116 : List AT := owns sig116
def P116 (x0 : Int × Int × ByteArray × Int × Unit) : Prop := (if (g111_0 x0.1) = true then (if (g128_0 x0.2.1) = true then ((P129 x0.2.2.1) ∧ True) else True) else True)
def g116_0 (x0 : Int × Int × ByteArray × Int × Unit) : Bool := (if (g111_0 x0.1) = true then (if (g128_0 x0.2.1) = true then (if (g129_0 x0.2.2.1) = true then g130_0 x0.2.2.2.1 else false) else false) else false)
theorem at116 (x0 : Int × Int × ByteArray × Int × Unit) (h : P116 x0) (K : Ctx) (q : Nat → Value) : AtV Tryz.prog 116 (PostR kds116 oks116 [⟨Ty.bool, g116_0 x0⟩] [] [] q K) 21 K q [] [.code b116] (entE 0 0 sig116 (x0, ())) (entL sig116 (x0, ())) := by
  unfold P116 at h
  unfold g116_0
  by_cases b0 : (g111_0 x0.1) = true
  · try simp only [if_pos b0] at h ⊢
    by_cases b1 : (g128_0 x0.2.1) = true
    · try simp only [if_pos b1] at h ⊢
      obtain ⟨s0, h⟩ := h
      by_cases b2 : (g129_0 x0.2.2.1) = true
      · try simp only [if_pos b2] at h ⊢
        exact AtV.ret Tryz.func116 tabOk ext116Ok mixed false [] tys116 [true, true, true] (a1 trivial (a1 b0 (a1 trivial (a1 b1 (a1 s0 (a1 b2 (a1 trivial trivial))))))) (by kernel_rfl)
      · try simp only [if_neg b2] at h ⊢
        replace b2 := Bool.eq_false_iff.2 b2
        exact AtV.ret Tryz.func116 tabOk ext116Ok mixed false [] tys116 [true, true, false] (a1 trivial (a1 b0 (a1 trivial (a1 b1 (a1 s0 (a1 b2 trivial)))))) (by kernel_rfl)
    · try simp only [if_neg b1] at h ⊢
      replace b1 := Bool.eq_false_iff.2 b1
      exact AtV.ret Tryz.func116 tabOk ext116Ok mixed false [] tys116 [true, false, false] (a1 trivial (a1 b0 (a1 trivial (a1 b1 (a1 (rfl : false = false) trivial))))) (by kernel_rfl)
  · try simp only [if_neg b0] at h ⊢
    replace b0 := Bool.eq_false_iff.2 b0
    exact AtV.ret Tryz.func116 tabOk ext116Ok mixed false [] tys116 [false, false, false] (a1 trivial (a1 b0 (a1 (rfl : false = false) (a1 (rfl : false = false) trivial)))) (by kernel_rfl)
def S116 : Am.Spec := { sig := sig116, pre := fun ⟨x0, _⟩ => P116 x0, res := fun ⟨x0, _⟩ => [⟨Ty.bool, g116_0 x0⟩], kds := kds116 }
theorem con116 : Contract Tryz.prog 116 S116 := contract_of Tryz.func116 hb116 (Nat.le_of_ble_eq_true (by kernel_rfl)) (fun ⟨x0, _⟩ h _ K q => at116 x0 h K q)
end
noncomputable section
def ext117 : Ext := []
theorem ext117Ok : ExtOk Tryz.prog ext117 := trivial
noncomputable def b117 : Code := bodyOf Tryz.f117
theorem hb117 : Tryz.f117.body = some b117 := by kernel_rfl
def sig117 : List AT := [AT.v YA6, AT.v YA6]
def tys117 : List Ty := [Ty.bool]
def kds117 : List RK := []
def oks117 : List AT := owns sig117
def P117 (x0 : Int × Int × ByteArray × Int × Unit) (x1 : Int × Int × ByteArray × Int × Unit) : Prop := True
def g117_0 (x0 : Int × Int × ByteArray × Int × Unit) (x1 : Int × Int × ByteArray × Int × Unit) : Bool := (if (decide (x0.1 > x1.1)) = true then true else (if (x0.1 == x1.1) = true then decide (x0.2.1 > x1.2.1) else false))
theorem at117 (x0 : Int × Int × ByteArray × Int × Unit) (x1 : Int × Int × ByteArray × Int × Unit) (h : P117 x0 x1) (K : Ctx) (q : Nat → Value) : AtV Tryz.prog 117 (PostR kds117 oks117 [⟨Ty.bool, g117_0 x0 x1⟩] [] [] q K) 24 K q [] [.code b117] (entE 0 0 sig117 (x0, x1, ())) (entL sig117 (x0, x1, ())) := by
  unfold P117 at h
  unfold g117_0
  by_cases b0 : (decide (x0.1 > x1.1)) = true
  · try simp only [if_pos b0] at h ⊢
    exact AtV.ret Tryz.func117 tabOk ext117Ok mixed false [] tys117 [true] (a1 b0 trivial) (by kernel_rfl)
  · try simp only [if_neg b0] at h ⊢
    replace b0 := Bool.eq_false_iff.2 b0
    by_cases b1 : (x0.1 == x1.1) = true
    · try simp only [if_pos b1] at h ⊢
      exact AtV.ret Tryz.func117 tabOk ext117Ok mixed false [] tys117 [false, true] (a1 b0 (a1 b1 trivial)) (by kernel_rfl)
    · try simp only [if_neg b1] at h ⊢
      replace b1 := Bool.eq_false_iff.2 b1
      exact AtV.ret Tryz.func117 tabOk ext117Ok mixed false [] tys117 [false, false] (a1 b0 (a1 b1 trivial)) (by kernel_rfl)
def S117 : Am.Spec := { sig := sig117, pre := fun ⟨x0, x1, _⟩ => P117 x0 x1, res := fun ⟨x0, x1, _⟩ => [⟨Ty.bool, g117_0 x0 x1⟩], kds := kds117 }
theorem con117 : Contract Tryz.prog 117 S117 := contract_of Tryz.func117 hb117 (Nat.le_of_ble_eq_true (by kernel_rfl)) (fun ⟨x0, x1, _⟩ h _ K q => at117 x0 x1 h K q)
end
noncomputable section
def ext95 : Ext := [(116, S116), (117, S117)]
theorem ext95Ok : ExtOk Tryz.prog ext95 := ⟨⟨ca116, con116⟩, ⟨ca117, con117⟩, trivial⟩
noncomputable def b95 : Code := bodyOf Tryz.f95
theorem hb95 : Tryz.f95.body = some b95 := by kernel_rfl
def sig95 : List AT := [AT.v (Ty.sl YA6)]
def tys95 : List Ty := [Ty.bool]
def kds95 : List RK := []
def oks95 : List AT := owns sig95
def E95_2 (v7 : Int) (x0 : List TyB2) : Env := [(0, PV.a (Atom.sl YA6 x0)), (5, PV.a (Atom.sl YA6 x0)), (6, PV.a (Atom.val (Value.int .i64 (↑(List.length x0) : Int)))), (7, PV.a (Atom.val (Value.int .i64 v7)))]
def L95_2 (v7 : Int) (x0 : List TyB2) : Heap := []
mutual
def R95 : Nat → List TyB2 → List Dyn → Prop
  | 0, _, _ => False
  | n + 1, x0, ds => (R95_2 n (0) (x0) ds)
def R95_2 : Nat → Int → List TyB2 → List Dyn → Prop
  | 0, _, _, _ => False
  | n + 1, v7, x0, ds => (if (decide (v7 < (↑(List.length x0) : Int))) = true then ((0 ≤ v7) ∧ (v7 < (↑(List.length x0) : Int)) ∧ ((P116 (List.getD x0 (Int.toNat v7) (0, 0, ByteArray.empty, 0, ()))) ∧ (if (!g116_0 (List.getD x0 (Int.toNat v7) (0, 0, ByteArray.empty, 0, ()))) = true then (ds = [Dyn.mk Ty.bool false]) else (if (decide (v7 > 0)) = true then ((InR .i64 (v7 - 1)) ∧ ((0 ≤ v7 - 1) ∧ (v7 - 1 < (↑(List.length x0) : Int)) ∧ (if (g117_0 (List.getD x0 (Int.toNat (v7 - 1)) (0, 0, ByteArray.empty, 0, ())) (List.getD x0 (Int.toNat v7) (0, 0, ByteArray.empty, 0, ()))) = true then (ds = [Dyn.mk Ty.bool false]) else ((InR .i64 (v7 + 1)) ∧ (R95_2 n (v7 + 1) (x0) ds))))) else ((InR .i64 (v7 + 1)) ∧ (R95_2 n (v7 + 1) (x0) ds)))))) else (ds = [Dyn.mk Ty.bool (decide ((↑(List.length x0) : Int) ≤ 40))]))
end
theorem snd95 : ∀ n, (∀ (x0 : List TyB2) ds, R95 n x0 ds → ∀ K q, AtV Tryz.prog 95 (PostR kds95 oks95 ds [] [] q K) 32 K q [] [.code b95] (entE 0 0 sig95 (x0, ())) (entL sig95 (x0, ()))) ∧ (∀ (v7 : Int) (x0 : List TyB2) ds, R95_2 n v7 x0 ds → ∀ K q, AtV Tryz.prog 95 (PostR kds95 oks95 ds [] [] q K) 32 K q [] (cutAt b95 2) (E95_2 v7 x0) (L95_2 v7 x0)) := by
  intro n
  induction n with
  | zero => exact ⟨fun _ _ h => by simp only [R95] at h, fun _ _ _ h => by simp only [R95_2] at h⟩
  | succ n ih =>
  obtain ⟨ih, ih2⟩ := ih
  refine ⟨?_, ?_⟩
  · intro x0 ds h K q
    rw [R95] at h
    exact AtV.go tabOk ext95Ok mixed false [] [] [0, 5, 6, 7] [] [] trivial (ih2 _ _ _ h K q) (by kernel_rfl)
  · intro v7 x0 ds h K q
    rw [R95_2] at h
    by_cases b0 : (decide (v7 < (↑(List.length x0) : Int))) = true
    · rw [if_pos b0] at h
      obtain ⟨s0, s1, h⟩ := h
      obtain ⟨s2, h⟩ := h
      by_cases b1 : (!g116_0 (List.getD x0 (Int.toNat v7) (0, 0, ByteArray.empty, 0, ()))) = true
      · rw [if_pos b1] at h
        subst h
        exact AtV.ret Tryz.func95 tabOk ext95Ok mixed false [] tys95 [true, true, true] (a1 b0 (a1 s0 (a1 s1 (a1 s2 (a1 b1 (a1 (rfl : true = true) trivial)))))) (by kernel_rfl)
      · rw [if_neg b1] at h
        replace b1 := Bool.eq_false_iff.2 b1
        by_cases b2 : (decide (v7 > 0)) = true
        · rw [if_pos b2] at h
          obtain ⟨s3, h⟩ := h
          obtain ⟨s4, s5, h⟩ := h
          by_cases b3 : (g117_0 (List.getD x0 (Int.toNat (v7 - 1)) (0, 0, ByteArray.empty, 0, ())) (List.getD x0 (Int.toNat v7) (0, 0, ByteArray.empty, 0, ()))) = true
          · rw [if_pos b3] at h
            subst h
            exact AtV.ret Tryz.func95 tabOk ext95Ok mixed false [] tys95 [true, false, true, true] (a1 b0 (a1 s0 (a1 s1 (a1 s2 (a1 b1 (a1 b2 (a1 s3 (a1 s4 (a1 s5 (a1 trivial (a1 b3 trivial))))))))))) (by kernel_rfl)
          · rw [if_neg b3] at h
            replace b3 := Bool.eq_false_iff.2 b3
            obtain ⟨s6, h⟩ := h
            exact AtV.go tabOk ext95Ok mixed false [] [] [0, 5, 6, 7] [] [true, false, true, false] (a1 b0 (a1 s0 (a1 s1 (a1 s2 (a1 b1 (a1 b2 (a1 s3 (a1 s4 (a1 s5 (a1 trivial (a1 b3 (a1 s6 trivial)))))))))))) (ih2 _ _ _ h K q) (by kernel_rfl)
        · rw [if_neg b2] at h
          replace b2 := Bool.eq_false_iff.2 b2
          obtain ⟨s3, h⟩ := h
          exact AtV.go tabOk ext95Ok mixed false [] [] [0, 5, 6, 7] [] [true, false, false, false] (a1 b0 (a1 s0 (a1 s1 (a1 s2 (a1 b1 (a1 b2 (a1 (rfl : false = false) (a1 s3 trivial)))))))) (ih2 _ _ _ h K q) (by kernel_rfl)
    · rw [if_neg b0] at h
      replace b0 := Bool.eq_false_iff.2 b0
      subst h
      exact AtV.ret Tryz.func95 tabOk ext95Ok mixed false [] tys95 [false] (a1 b0 trivial) (by kernel_rfl)
def ok95 (x0 : List TyB2) (i : Nat) (x : TyB2) : Bool := g116_0 x && (i == 0 || !g117_0 (x0.getD (i - 1) ((0 : Int), (0 : Int), ByteArray.empty, (0 : Int), ())) x)
def g95_0 (x0 : List TyB2) : Bool := allI (ok95 x0) 0 x0 && decide ((x0.length : Int) ≤ 40)
def P95 (x0 : List TyB2) : Prop := True
theorem one95_pre (x : TyB2) : P116 x := by
  unfold P116
  split
  · split
    · refine ⟨?_, trivial⟩
      unfold P129
      split
      · rename_i h
        have h : (x.2.2.1.size : Int) ≤ 40 := by simpa using h
        have h' : x.2.2.1.size ≤ 281474976710656 := by omega
        repeat' (first | apply And.intro | exact trivial | split)
        all_goals (first | omega | decide | trivial)
      · trivial
    · trivial
  · trivial
theorem step95 (n i : Nat) (x0 : List TyB2) (hm : x0.length ≤ maxLen) (hi : i < x0.length) (ds : List Dyn)
    (h : if ok95 x0 i (x0.getD i ((0 : Int), (0 : Int), ByteArray.empty, (0 : Int), ())) = true then R95_2 n ((i : Int) + 1) x0 ds else ds = [⟨.bool, false⟩]) : R95_2 (n + 1) (i : Int) x0 ds := by
  have hu := inR_up hm hi
  have hmx : maxLen ≤ 9223372036854775807 := by decide
  rw [R95_2, if_pos (by simp only [decide_eq_true_eq]; omega)]
  simp only [Int.toNat_natCast]
  refine ⟨by omega, by omega, one95_pre _, ?_⟩
  unfold ok95 at h
  by_cases hv : g116_0 (x0.getD i ((0 : Int), (0 : Int), ByteArray.empty, (0 : Int), ())) = true
  case neg => rw [Bool.eq_false_iff.2 hv] at h; rw [if_pos (by rw [Bool.eq_false_iff.2 hv]; rfl)]; simpa using h
  rw [if_neg (by rw [hv]; simp)]
  rw [hv] at h
  by_cases h0 : (i : Int) > 0
  case neg =>
    rw [if_neg (by simpa using h0)]
    have hi0 : (i == 0) = true := by simp; omega
    rw [hi0] at h
    exact ⟨hu, by simpa using h⟩
  rw [if_pos (by simpa using h0)]
  have hi0 : (i == 0) = false := by simp; omega
  have e : ((i : Int) - 1).toNat = i - 1 := by omega
  have hd : InR .i64 ((i : Int) - 1) := by rw [i64_iff]; omega
  rw [hi0] at h
  simp only [e]
  refine ⟨hd, by omega, by omega, ?_⟩
  by_cases c0 : g117_0 (x0.getD (i - 1) ((0 : Int), (0 : Int), ByteArray.empty, (0 : Int), ())) (x0.getD i ((0 : Int), (0 : Int), ByteArray.empty, (0 : Int), ())) = true
  · rw [if_pos c0]
    rw [c0] at h
    simpa using h
  · rw [if_neg c0]
    rw [Bool.eq_false_iff.2 c0] at h
    exact ⟨hu, by simpa using h⟩
theorem top95 (x0 : List TyB2) (hw : x0.length ≤ maxLen) : R95 (x0.length + 1 + 1) x0 [⟨.bool, g95_0 x0⟩] := by
  rw [R95]
  have key := loop_testI x0 ((0 : Int), (0 : Int), ByteArray.empty, (0 : Int), ()) (ok95 x0) [(⟨.bool, false⟩ : Dyn)] [⟨.bool, decide ((x0.length : Int) ≤ 40)⟩] (fun n i ds => R95_2 n i x0 ds) (fun n => ?_) (fun n i hi hok ds hr => ?_) (fun n i hi hok => ?_)
  · unfold g95_0
    cases h : allI (ok95 x0) 0 x0 with
    | true => rw [if_pos h] at key; simpa using key
    | false => rw [if_neg (by rw [h]; simp)] at key; simpa using key
  · rw [R95_2, if_neg (by simp)]
  · exact step95 n i x0 hw hi ds (by rw [if_pos hok]; exact hr)
  · exact step95 n i x0 hw hi _ (by rw [if_neg (by rw [hok]; simp)])
def S95 : Am.Spec := { sig := sig95, pre := fun ⟨x0, _⟩ => P95 x0, res := fun ⟨x0, _⟩ => [⟨Ty.bool, g95_0 x0⟩] }
theorem con95 : Contract Tryz.prog 95 S95 := contract_of Tryz.func95 hb95 (Nat.le_of_ble_eq_true (by kernel_rfl)) (fun ⟨x0, _⟩ h hwf K q =>
  (snd95 _).1 x0 _ (top95 x0 hwf.1.1) K q)
end
noncomputable section
def ext65 : Ext := [(86, S86), (87, S87), (88, S88), (89, S89), (90, S90), (91, S91), (92, S92), (93, S93), (94, S94), (95, S95)]
theorem ext65Ok : ExtOk Tryz.prog ext65 := ⟨⟨ca86, con86⟩, ⟨ca87, con87⟩, ⟨ca88, con88⟩, ⟨ca89, con89⟩, ⟨ca90, con90⟩, ⟨ca91, con91⟩, ⟨ca92, con92⟩, ⟨ca93, con93⟩, ⟨ca94, con94⟩, ⟨ca95, con95⟩, trivial⟩
noncomputable def b65 : Code := bodyOf Tryz.f65
theorem hb65 : Tryz.f65.body = some b65 := by kernel_rfl
def sig65 : List AT := [AT.v YA0]
def tys65 : List Ty := [Ty.bool]
def kds65 : List RK := []
def oks65 : List AT := owns sig65
def P65 (x0 : TyA0) : Prop := True
def g65_0 (x0 : TyA0) : Bool := (if (g86_0 x0.1) = true then (if (g87_0 x0.2.1) = true then (if (g88_0 x0.2.2.1) = true then (if (g90_0 x0.2.2.2.2.1) = true then (if (g91_0 x0.2.2.2.2.2.1) = true then (if (g89_0 x0.2.2.2.1) = true then (if (g92_0 x0.2.2.2.2.2.2.1 x0.2.2.2.2.2.2.2.1 x0.2.2.2.2.2.2.2.2.1 0 == 0) = true then (if (g93_0 x0.2.2.2.2.2.2.2.2.2.1) = true then (if (g94_0 x0.2.2.2.2.2.2.2.2.2.2.1) = true then g95_0 x0.2.2.2.2.2.2.2.2.2.2.2.1 else false) else false) else false) else false) else (if (g89_0 x0.2.2.2.1) = true then false else false)) else (if (g89_0 x0.2.2.2.1) = true then false else false)) else (if (g90_0 x0.2.2.2.2.1) = true then (if (g91_0 x0.2.2.2.2.2.1) = true then false else false) else false)) else (if (g90_0 x0.2.2.2.2.1) = true then (if (g91_0 x0.2.2.2.2.2.1) = true then false else false) else false)) else (if (g90_0 x0.2.2.2.2.1) = true then (if (g91_0 x0.2.2.2.2.2.1) = true then false else false) else false))
theorem at65 (x0 : TyA0) (h : P65 x0) (K : Ctx) (q : Nat → Value) : AtV Tryz.prog 65 (PostR kds65 oks65 [⟨Ty.bool, g65_0 x0⟩] [] [] q K) 60 K q [] [.code b65] (entE 0 0 sig65 (x0, ())) (entL sig65 (x0, ())) := by
  unfold P65 at h
  unfold g65_0
  by_cases b0 : (g86_0 x0.1) = true
  · try simp only [if_pos b0] at h ⊢
    by_cases b1 : (g87_0 x0.2.1) = true
    · try simp only [if_pos b1] at h ⊢
      by_cases b2 : (g88_0 x0.2.2.1) = true
      · try simp only [if_pos b2] at h ⊢
        by_cases b3 : (g90_0 x0.2.2.2.2.1) = true
        · try simp only [if_pos b3] at h ⊢
          by_cases b4 : (g91_0 x0.2.2.2.2.2.1) = true
          · try simp only [if_pos b4] at h ⊢
            by_cases b5 : (g89_0 x0.2.2.2.1) = true
            · try simp only [if_pos b5] at h ⊢
              by_cases b6 : (g92_0 x0.2.2.2.2.2.2.1 x0.2.2.2.2.2.2.2.1 x0.2.2.2.2.2.2.2.2.1 0 == 0) = true
              · try simp only [if_pos b6] at h ⊢
                by_cases b7 : (g93_0 x0.2.2.2.2.2.2.2.2.2.1) = true
                · try simp only [if_pos b7] at h ⊢
                  by_cases b8 : (g94_0 x0.2.2.2.2.2.2.2.2.2.2.1) = true
                  · try simp only [if_pos b8] at h ⊢
                    exact AtV.ret Tryz.func65 tabOk ext65Ok mixed false [] tys65 [true, true, true, true, true, true, true, true, true] (a1 trivial (a1 b0 (a1 trivial (a1 b1 (a1 trivial (a1 b2 (a1 trivial (a1 trivial (a1 b3 (a1 trivial (a1 b4 (a1 trivial (a1 b5 (a1 b6 (a1 trivial (a1 b7 (a1 trivial (a1 b8 (a1 trivial trivial))))))))))))))))))) (by kernel_rfl)
                  · try simp only [if_neg b8] at h ⊢
                    replace b8 := Bool.eq_false_iff.2 b8
                    exact AtV.ret Tryz.func65 tabOk ext65Ok mixed false [] tys65 [true, true, true, true, true, true, true, true, false] (a1 trivial (a1 b0 (a1 trivial (a1 b1 (a1 trivial (a1 b2 (a1 trivial (a1 trivial (a1 b3 (a1 trivial (a1 b4 (a1 trivial (a1 b5 (a1 b6 (a1 trivial (a1 b7 (a1 trivial (a1 b8 trivial)))))))))))))))))) (by kernel_rfl)
                · try simp only [if_neg b7] at h ⊢
                  replace b7 := Bool.eq_false_iff.2 b7
                  exact AtV.ret Tryz.func65 tabOk ext65Ok mixed false [] tys65 [true, true, true, true, true, true, true, false, false] (a1 trivial (a1 b0 (a1 trivial (a1 b1 (a1 trivial (a1 b2 (a1 trivial (a1 trivial (a1 b3 (a1 trivial (a1 b4 (a1 trivial (a1 b5 (a1 b6 (a1 trivial (a1 b7 (a1 (rfl : false = false) trivial))))))))))))))))) (by kernel_rfl)
              · try simp only [if_neg b6] at h ⊢
                replace b6 := Bool.eq_false_iff.2 b6
                exact AtV.ret Tryz.func65 tabOk ext65Ok mixed false [] tys65 [true, true, true, true, true, true, false, false, false] (a1 trivial (a1 b0 (a1 trivial (a1 b1 (a1 trivial (a1 b2 (a1 trivial (a1 trivial (a1 b3 (a1 trivial (a1 b4 (a1 trivial (a1 b5 (a1 b6 (a1 (rfl : false = false) (a1 (rfl : false = false) trivial)))))))))))))))) (by kernel_rfl)
            · try simp only [if_neg b5] at h ⊢
              replace b5 := Bool.eq_false_iff.2 b5
              exact AtV.ret Tryz.func65 tabOk ext65Ok mixed false [] tys65 [true, true, true, true, true, false, false, false, false] (a1 trivial (a1 b0 (a1 trivial (a1 b1 (a1 trivial (a1 b2 (a1 trivial (a1 trivial (a1 b3 (a1 trivial (a1 b4 (a1 trivial (a1 b5 (a1 (rfl : false = false) (a1 (rfl : false = false) (a1 (rfl : false = false) trivial)))))))))))))))) (by kernel_rfl)
          · try simp only [if_neg b4] at h ⊢
            replace b4 := Bool.eq_false_iff.2 b4
            by_cases b5 : (g89_0 x0.2.2.2.1) = true
            · try simp only [if_pos b5] at h ⊢
              exact AtV.ret Tryz.func65 tabOk ext65Ok mixed false [] tys65 [true, true, true, true, false, true, false, false, false] (a1 trivial (a1 b0 (a1 trivial (a1 b1 (a1 trivial (a1 b2 (a1 trivial (a1 trivial (a1 b3 (a1 trivial (a1 b4 (a1 b5 (a1 (rfl : false = false) (a1 (rfl : false = false) (a1 (rfl : false = false) trivial))))))))))))))) (by kernel_rfl)
            · try simp only [if_neg b5] at h ⊢
              replace b5 := Bool.eq_false_iff.2 b5
              exact AtV.ret Tryz.func65 tabOk ext65Ok mixed false [] tys65 [true, true, true, true, false, false, false, false, false] (a1 trivial (a1 b0 (a1 trivial (a1 b1 (a1 trivial (a1 b2 (a1 trivial (a1 trivial (a1 b3 (a1 trivial (a1 b4 (a1 b5 (a1 (rfl : false = false) (a1 (rfl : false = false) (a1 (rfl : false = false) trivial))))))))))))))) (by kernel_rfl)
        · try simp only [if_neg b3] at h ⊢
          replace b3 := Bool.eq_false_iff.2 b3
          by_cases b4 : (g89_0 x0.2.2.2.1) = true
          · try simp only [if_pos b4] at h ⊢
            exact AtV.ret Tryz.func65 tabOk ext65Ok mixed false [] tys65 [true, true, true, false, false, true, false, false, false] (a1 trivial (a1 b0 (a1 trivial (a1 b1 (a1 trivial (a1 b2 (a1 trivial (a1 trivial (a1 b3 (a1 (rfl : false = false) (a1 b4 (a1 (rfl : false = false) (a1 (rfl : false = false) (a1 (rfl : false = false) trivial)))))))))))))) (by kernel_rfl)
          · try simp only [if_neg b4] at h ⊢
            replace b4 := Bool.eq_false_iff.2 b4
            exact AtV.ret Tryz.func65 tabOk ext65Ok mixed false [] tys65 [true, true, true, false, false, false, false, false, false] (a1 trivial (a1 b0 (a1 trivial (a1 b1 (a1 trivial (a1 b2 (a1 trivial (a1 trivial (a1 b3 (a1 (rfl : false = false) (a1 b4 (a1 (rfl : false = false) (a1 (rfl : false = false) (a1 (rfl : false = false) trivial)))))))))))))) (by kernel_rfl)
      · try simp only [if_neg b2] at h ⊢
        replace b2 := Bool.eq_false_iff.2 b2
        by_cases b3 : (g90_0 x0.2.2.2.2.1) = true
        · try simp only [if_pos b3] at h ⊢
          by_cases b4 : (g91_0 x0.2.2.2.2.2.1) = true
          · try simp only [if_pos b4] at h ⊢
            exact AtV.ret Tryz.func65 tabOk ext65Ok mixed false [] tys65 [true, true, false, true, true, false, false, false, false] (a1 trivial (a1 b0 (a1 trivial (a1 b1 (a1 trivial (a1 b2 (a1 trivial (a1 b3 (a1 trivial (a1 b4 (a1 trivial (a1 (rfl : false = false) (a1 (rfl : false = false) (a1 (rfl : false = false) (a1 (rfl : false = false) trivial))))))))))))))) (by kernel_rfl)
          · try simp only [if_neg b4] at h ⊢
            replace b4 := Bool.eq_false_iff.2 b4
            exact AtV.ret Tryz.func65 tabOk ext65Ok mixed false [] tys65 [true, true, false, true, false, false, false, false, false] (a1 trivial (a1 b0 (a1 trivial (a1 b1 (a1 trivial (a1 b2 (a1 trivial (a1 b3 (a1 trivial (a1 b4 (a1 (rfl : false = false) (a1 (rfl : false = false) (a1 (rfl : false = false) (a1 (rfl : false = false) trivial)))))))))))))) (by kernel_rfl)
        · try simp only [if_neg b3] at h ⊢
          replace b3 := Bool.eq_false_iff.2 b3
          exact AtV.ret Tryz.func65 tabOk ext65Ok mixed false [] tys65 [true, true, false, false, false, false, false, false, false] (a1 trivial (a1 b0 (a1 trivial (a1 b1 (a1 trivial (a1 b2 (a1 trivial (a1 b3 (a1 (rfl : false = false) (a1 (rfl : false = false) (a1 (rfl : false = false) (a1 (rfl : false = false) (a1 (rfl : false = false) trivial))))))))))))) (by kernel_rfl)
    · try simp only [if_neg b1] at h ⊢
      replace b1 := Bool.eq_false_iff.2 b1
      by_cases b2 : (g90_0 x0.2.2.2.2.1) = true
      · try simp only [if_pos b2] at h ⊢
        by_cases b3 : (g91_0 x0.2.2.2.2.2.1) = true
        · try simp only [if_pos b3] at h ⊢
          exact AtV.ret Tryz.func65 tabOk ext65Ok mixed false [] tys65 [true, false, false, true, true, false, false, false, false] (a1 trivial (a1 b0 (a1 trivial (a1 b1 (a1 (rfl : false = false) (a1 trivial (a1 b2 (a1 trivial (a1 b3 (a1 trivial (a1 (rfl : false = false) (a1 (rfl : false = false) (a1 (rfl : false = false) (a1 (rfl : false = false) trivial)))))))))))))) (by kernel_rfl)
        · try simp only [if_neg b3] at h ⊢
          replace b3 := Bool.eq_false_iff.2 b3
          exact AtV.ret Tryz.func65 tabOk ext65Ok mixed false [] tys65 [true, false, false, true, false, false, false, false, false] (a1 trivial (a1 b0 (a1 trivial (a1 b1 (a1 (rfl : false = false) (a1 trivial (a1 b2 (a1 trivial (a1 b3 (a1 (rfl : false = false) (a1 (rfl : false = false) (a1 (rfl : false = false) (a1 (rfl : false = false) trivial))))))))))))) (by kernel_rfl)
      · try simp only [if_neg b2] at h ⊢
        replace b2 := Bool.eq_false_iff.2 b2
        exact AtV.ret Tryz.func65 tabOk ext65Ok mixed false [] tys65 [true, false, false, false, false, false, false, false, false] (a1 trivial (a1 b0 (a1 trivial (a1 b1 (a1 (rfl : false = false) (a1 trivial (a1 b2 (a1 (rfl : false = false) (a1 (rfl : false = false) (a1 (rfl : false = false) (a1 (rfl : false = false) (a1 (rfl : false = false) trivial)))))))))))) (by kernel_rfl)
  · try simp only [if_neg b0] at h ⊢
    replace b0 := Bool.eq_false_iff.2 b0
    by_cases b1 : (g90_0 x0.2.2.2.2.1) = true
    · try simp only [if_pos b1] at h ⊢
      by_cases b2 : (g91_0 x0.2.2.2.2.2.1) = true
      · try simp only [if_pos b2] at h ⊢
        exact AtV.ret Tryz.func65 tabOk ext65Ok mixed false [] tys65 [false, false, false, true, true, false, false, false, false] (a1 trivial (a1 b0 (a1 (rfl : false = false) (a1 (rfl : false = false) (a1 trivial (a1 b1 (a1 trivial (a1 b2 (a1 trivial (a1 (rfl : false = false) (a1 (rfl : false = false) (a1 (rfl : false = false) (a1 (rfl : false = false) trivial))))))))))))) (by kernel_rfl)
      · try simp only [if_neg b2] at h ⊢
        replace b2 := Bool.eq_false_iff.2 b2
        exact AtV.ret Tryz.func65 tabOk ext65Ok mixed false [] tys65 [false, false, false, true, false, false, false, false, false] (a1 trivial (a1 b0 (a1 (rfl : false = false) (a1 (rfl : false = false) (a1 trivial (a1 b1 (a1 trivial (a1 b2 (a1 (rfl : false = false) (a1 (rfl : false = false) (a1 (rfl : false = false) (a1 (rfl : false = false) trivial)))))))))))) (by kernel_rfl)
    · try simp only [if_neg b1] at h ⊢
      replace b1 := Bool.eq_false_iff.2 b1
      exact AtV.ret Tryz.func65 tabOk ext65Ok mixed false [] tys65 [false, false, false, false, false, false, false, false, false] (a1 trivial (a1 b0 (a1 (rfl : false = false) (a1 (rfl : false = false) (a1 trivial (a1 b1 (a1 (rfl : false = false) (a1 (rfl : false = false) (a1 (rfl : false = false) (a1 (rfl : false = false) (a1 (rfl : false = false) trivial))))))))))) (by kernel_rfl)
def S65 : Am.Spec := { sig := sig65, pre := fun ⟨x0, _⟩ => P65 x0, res := fun ⟨x0, _⟩ => [⟨Ty.bool, g65_0 x0⟩], kds := kds65 }
theorem con65 : Contract Tryz.prog 65 S65 := contract_of Tryz.func65 hb65 (Nat.le_of_ble_eq_true (by kernel_rfl)) (fun ⟨x0, _⟩ h _ K q => at65 x0 h K q)
end
set_option maxHeartbeats 2000000 in
theorem nil118 (w : World) : Calls Tryz.prog 118 #[.slice none 0 0] w fun e w' => e = .returned (.slice none 0 0) ∧ w' = w := by
  have mixed := mixed
  have q22 : ∀ (w : World) (a : Option Addr) (n c n' c' : Nat), (binOp .eql 50 (.slice a n c) (.slice none n' c')).run Tryz.prog w = .ok (.bool a.isNone) w := fun w a n c n' c' => Lib.run_eql_slice_nil w _ _ a n c n' c' Tryz.underlying50
  go_enter Tryz.func118, Tryz.ntmps118
  go_wp2
  go_ret
  exact ⟨rfl, rfl⟩
set_option maxHeartbeats 4000000 in
theorem some118 (w : World) (a : Addr) (n c : Nat) (news : List Value) (hl : news.length = n * (Ty.size YA6)) (hn : n ≤ 1048576) (hc : ∀ (j : Nat) (u : Value), news[j]? = some u → w.cell? (a.add j) = some u) (h1 : ∀ u ∈ news, u.oneCell' = true) :
    Calls Tryz.prog 118 #[.slice (some a) n c] w fun r w' => ∃ v', r = .returned v' ∧ w'.ownsRow w.heap.size 119 (Ty.size YA6) v' n news ∧ Go.RowKit.Below w.heap.size w w' := by
  have mixed := mixed
  have q22 : ∀ (w : World) (a : Option Addr) (n c n' c' : Nat), (binOp .eql 50 (.slice a n c) (.slice none n' c')).run Tryz.prog w = .ok (.bool a.isNone) w := fun w a n c n' c' => Lib.run_eql_slice_nil w _ _ a n c n' c' Tryz.underlying50
  have hinfo : TIOk Tryz.prog 50 (tabGet tab 50) := tabOk 50
  obtain ⟨_, _, ⟨_, ⟨i0, hi0, hz1, z, hz0, hzs, _⟩⟩, hby⟩ := hinfo
  rw [hi0] at hby
  simp only [Option.map_some, Option.some.injEq] at hby
  have hzs' : z.cells.size = Ty.size YA6 := by rw [← Array.length_toList, hzs]; rfl
  have A : Aside (∀ (j : Nat) (u : Value), news[j]? = some u → w.cell? (a.add j) = some u) := hc
  clear hc
  go_enter Tryz.func118, Tryz.ntmps118
  go_wp2_with (at_builtin; refine wpList_append_own _ rfl _ _ 50 rfl w.heap.size 119 i0 z (Ty.size YA6) i0.bytes Tryz.underlying50 hi0 hz0 hz1 rfl hzs' (by decide) _ _ _ rfl (World.ownsRow_made w #[] 0 (Nat.le_refl _) (Nat.zero_le _) (by simp)) a n c news rfl ?qc1 ?qc2 ?qc3 ?qc4 ?qc5 ?qc6 ?_)
  case qc1 => exact hl
  case qc2 => intro j u hj; exact Lib.cell?_alloc_some _ (A.out j u hj)
  case qc3 => exact h1
  case qc4 => unfold maxLen; omega
  case qc5 => rw [hby]; omega
  case qc6 => simp
  intro v' w1 hown hgrow hnil
  go_wp2
  go_ret
  exact ⟨v', rfl, by simpa using hown, ((Go.RowKit.Below.refl _ w).alloc (Nat.le_refl _) _).grown hgrow (by simp) (by intro k hk; simp [Value.ownBlock] at hk; omega)⟩
def sig118 : List AT := [AT.v (Ty.sl YA6)]
def g118_0 (x0 : List TyB2) : List TyB2 := x0
def P118 (x0 : List TyB2) : Prop := x0.length ≤ 1048576
def S118 : Am.Spec := { sig := sig118, pre := fun ⟨x0, _⟩ => P118 x0, res := fun ⟨x0, _⟩ => [⟨Ty.sl YA6, g118_0 x0⟩] }
theorem con118 : Contract Tryz.prog 118 S118 := clone_contract (t := YA6) (e := 119) rfl nil118 some118
def sig97 : List AT := [AT.v (Ty.int .i64), AT.v (Ty.int .i64)]
def g97_0 (x0 x1 : Int) : ByteArray := numB x0
def P97 (x0 x1 : Int) : Prop := x1 = 10
def S97 : Am.Spec := { sig := sig97, pre := fun ⟨x0, x1, _⟩ => P97 x0 x1, res := fun ⟨x0, x1, _⟩ => [⟨Ty.str, g97_0 x0 x1⟩] }
theorem con97 : Contract Tryz.prog 97 S97 := contract_flat rfl fun w ⟨x0, x1, _⟩ vs bss hg hp hw ha => by
  obtain ⟨v0, s0, _, _, rfl, _, ⟨_, rfl, hi⟩, v1, s1, _, _, rfl, _, ⟨_, rfl, _⟩, rfl, _⟩ := ha
  obtain rfl : x1 = 10 := hp
  have hi : InR .i64 x0 := hi
  rw [i64_iff] at hi
  refine ⟨fun d hd => ?_, ?_⟩
  · rw [List.mem_singleton.1 hd]
    refine ⟨rfl, ?_⟩
    show (numB x0).size ≤ maxLen
    have := numB_size x0 hi.1 hi.2
    unfold maxLen; omega
  · refine (Tryz.strconv_FormatInt_10 x0 hi.1 hi.2 w (pow10G hg)).mono ?_
    rintro e w' ⟨rfl, n, os, rfl⟩
    exact ⟨rfl, kept_grow _ _ _⟩
noncomputable section
def ext67 : Ext := [(97, S97)]
theorem ext67Ok : ExtOk Tryz.prog ext67 := ⟨⟨ca97, con97⟩, trivial⟩
noncomputable def b67 : Code := bodyOf Tryz.f67
theorem hb67 : Tryz.f67.body = some b67 := by kernel_rfl
def sig67 : List AT := [AT.v (Ty.int .i64)]
def tys67 : List Ty := [Ty.str]
def kds67 : List RK := []
def oks67 : List AT := owns sig67
def P67 (x0 : Int) : Prop := ((P97 x0 10) ∧ True)
def g67_0 (x0 : Int) : ByteArray := g97_0 x0 10
theorem at67 (x0 : Int) (h : P67 x0) (K : Ctx) (q : Nat → Value) : AtV Tryz.prog 67 (PostR kds67 oks67 [⟨Ty.str, g67_0 x0⟩] [] [] q K) 5 K q [] [.code b67] (entE 0 0 sig67 (x0, ())) (entL sig67 (x0, ())) := by
  unfold P67 at h
  unfold g67_0
  obtain ⟨s0, h⟩ := h
  exact AtV.ret Tryz.func67 tabOk ext67Ok mixed false [] tys67 [] (a1 s0 trivial) (by kernel_rfl)
def S67 : Am.Spec := { sig := sig67, pre := fun ⟨x0, _⟩ => P67 x0, res := fun ⟨x0, _⟩ => [⟨Ty.str, g67_0 x0⟩], kds := kds67 }
theorem con67 : Contract Tryz.prog 67 S67 := contract_of Tryz.func67 hb67 (Nat.le_of_ble_eq_true (by kernel_rfl)) (fun ⟨x0, _⟩ h _ K q => at67 x0 h K q)
end
noncomputable section
def ext132 : Ext := [(67, S67)]
theorem ext132Ok : ExtOk Tryz.prog ext132 := ⟨⟨ca67, con67⟩, trivial⟩
noncomputable def b132 : Code := bodyOf Tryz.f132
theorem hb132 : Tryz.f132.body = some b132 := by kernel_rfl
def sig132 : List AT := [AT.v YA6]
def tys132 : List Ty := [Ty.str]
def kds132 : List RK := []
def oks132 : List AT := owns sig132
def P132 (x0 : Int × Int × ByteArray × Int × Unit) : Prop := ((P67 x0.1) ∧ ((ByteArray.size (g67_0 x0.1) + 1 ≤ 9223372036854775807) ∧ ((P67 x0.2.1) ∧ ((ByteArray.size (g67_0 x0.1 ++ ByteArray.mk #[32]) + ByteArray.size (g67_0 x0.2.1) ≤ 9223372036854775807) ∧ ((ByteArray.size (g67_0 x0.1 ++ ByteArray.mk #[32] ++ g67_0 x0.2.1) + 1 ≤ 9223372036854775807) ∧ ((ByteArray.size (g67_0 x0.1 ++ ByteArray.mk #[32] ++ g67_0 x0.2.1 ++ ByteArray.mk #[32]) + ByteArray.size x0.2.2.1 ≤ 9223372036854775807) ∧ True))))))
def g132_0 (x0 : Int × Int × ByteArray × Int × Unit) : ByteArray := g67_0 x0.1 ++ ByteArray.mk #[32] ++ g67_0 x0.2.1 ++ ByteArray.mk #[32] ++ x0.2.2.1
theorem at132 (x0 : Int × Int × ByteArray × Int × Unit) (h : P132 x0) (K : Ctx) (q : Nat → Value) : AtV Tryz.prog 132 (PostR kds132 oks132 [⟨Ty.str, g132_0 x0⟩] [] [] q K) 15 K q [] [.code b132] (entE 0 0 sig132 (x0, ())) (entL sig132 (x0, ())) := by
  unfold P132 at h
  unfold g132_0
  obtain ⟨s0, h⟩ := h
  obtain ⟨s1, h⟩ := h
  obtain ⟨s2, h⟩ := h
  obtain ⟨s3, h⟩ := h
  obtain ⟨s4, h⟩ := h
  obtain ⟨s5, h⟩ := h
  exact AtV.ret Tryz.func132 tabOk ext132Ok mixed false [] tys132 [] (a1 s0 (a1 s1 (a1 s2 (a1 s3 (a1 s4 (a1 s5 trivial)))))) (by kernel_rfl)
def S132 : Am.Spec := { sig := sig132, pre := fun ⟨x0, _⟩ => P132 x0, res := fun ⟨x0, _⟩ => [⟨Ty.str, g132_0 x0⟩], kds := kds132 }
theorem con132 : Contract Tryz.prog 132 S132 := contract_of Tryz.func132 hb132 (Nat.le_of_ble_eq_true (by kernel_rfl)) (fun ⟨x0, _⟩ h _ K q => at132 x0 h K q)
end
noncomputable section
def ext131 : Ext := [(105, S105)]
theorem ext131Ok : ExtOk Tryz.prog ext131 := ⟨⟨ca105, con105⟩, trivial⟩
noncomputable def b131 : Code := bodyOf Tryz.f131
theorem hb131 : Tryz.f131.body = some b131 := by kernel_rfl
def sig131 : List AT := [AT.v (Ty.str), AT.v (Ty.int .i64)]
def tys131 : List Ty := [Ty.int .i64]
def kds131 : List RK := []
def oks131 : List AT := owns sig131
def E131_5 (v15 : Int) (x1 : Int) (x0 : ByteArray) : Env := [(5, PV.a (Atom.val (Value.int .i64 x1))), (13, PV.a (Atom.osl 0 Option.none)), (14, PV.a (Atom.val (Value.int .i64 (↑(List.length (bytesOf x0)) : Int)))), (15, PV.a (Atom.val (Value.int .i64 v15)))]
def L131_5 (v15 : Int) (x1 : Int) (x0 : ByteArray) : Heap := [Option.some (Arr.mk (Ty.int .u8) (bytesOf x0) false Option.none Option.none)]
def E131_9 (v5 : Int) (v24 : Int) (x0 : ByteArray) (v15 : Int) : Env := [(5, PV.a (Atom.val (Value.int .i64 v5))), (13, PV.a (Atom.osl 0 Option.none)), (14, PV.a (Atom.val (Value.int .i64 (↑(List.length (bytesOf x0)) : Int)))), (15, PV.a (Atom.val (Value.int .i64 v15))), (24, PV.a (Atom.val (Value.int .i64 v24)))]
def L131_9 (v5 : Int) (v24 : Int) (x0 : ByteArray) (v15 : Int) : Heap := [Option.some (Arr.mk (Ty.int .u8) (bytesOf x0) false Option.none Option.none)]
mutual
def R131 : Nat → ByteArray → Int → List Dyn → Prop
  | 0, _, _, _ => False
  | n + 1, x0, x1, ds => (if (!g105_0 x1 0 65535) = true then (ds = [Dyn.mk (Ty.int .i64) 0]) else (R131_5 n (0) (x1) (x0) ds))
def R131_5 : Nat → Int → Int → ByteArray → List Dyn → Prop
  | 0, _, _, _, _ => False
  | n + 1, v15, x1, x0, ds => (if (decide (v15 < (↑(List.length (bytesOf x0)) : Int))) = true then ((0 ≤ v15) ∧ (v15 < (↑(List.length (bytesOf x0)) : Int)) ∧ ((InR .i64 (List.getD (bytesOf x0) (Int.toNat v15) 0)) ∧ (R131_9 n (IntKind.wrap IntKind.i64 (↑(BitVec.toNat (BitVec.ofInt 64 x1 ^^^ BitVec.ofInt 64 (IntKind.wrap IntKind.i64 (List.getD (bytesOf x0) (Int.toNat v15) 0 * 256)))) : Int)) (0) (x0) (v15) ds))) else (ds = [Dyn.mk (Ty.int .i64) x1]))
def R131_9 : Nat → Int → Int → ByteArray → Int → List Dyn → Prop
  | 0, _, _, _, _, _ => False
  | n + 1, v5, v24, x0, v15, ds => (if (decide (v24 < 8)) = true then (if (decide (IntKind.wrap IntKind.i64 (v5 * 2) > 65535)) = true then ((InR .i64 (v24 + 1)) ∧ (R131_9 n (IntKind.wrap IntKind.i64 (↑(BitVec.toNat (BitVec.ofInt 64 (IntKind.wrap IntKind.i64 (↑(BitVec.toNat (BitVec.ofInt 64 (IntKind.wrap IntKind.i64 (v5 * 2)) &&& BitVec.ofInt 64 65535)) : Int)) ^^^ BitVec.ofInt 64 4129)) : Int)) (v24 + 1) (x0) (v15) ds)) else ((InR .i64 (v24 + 1)) ∧ (R131_9 n (IntKind.wrap IntKind.i64 (v5 * 2)) (v24 + 1) (x0) (v15) ds))) else ((InR .i64 (v15 + 1)) ∧ (R131_5 n (v15 + 1) (v5) (x0) ds)))
end
theorem snd131 : ∀ n, (∀ (x0 : ByteArray) (x1 : Int) ds, R131 n x0 x1 ds → ∀ K q, AtV Tryz.prog 131 (PostR kds131 oks131 ds [] [] q K) 36 K q [] [.code b131] (entE 0 0 sig131 (x0, x1, ())) (entL sig131 (x0, x1, ()))) ∧ (∀ (v15 : Int) (x1 : Int) (x0 : ByteArray) ds, R131_5 n v15 x1 x0 ds → ∀ K q, AtV Tryz.prog 131 (PostR kds131 oks131 ds [] [] q K) 36 K q [] (cutAt b131 5) (E131_5 v15 x1 x0) (L131_5 v15 x1 x0)) ∧ (∀ (v5 : Int) (v24 : Int) (x0 : ByteArray) (v15 : Int) ds, R131_9 n v5 v24 x0 v15 ds → ∀ K q, AtV Tryz.prog 131 (PostR kds131 oks131 ds [] [] q K) 36 K q [] (cutAt b131 9) (E131_9 v5 v24 x0 v15) (L131_9 v5 v24 x0 v15)) := by
  intro n
  induction n with
  | zero => exact ⟨fun _ _ _ h => by simp only [R131] at h, fun _ _ _ _ h => by simp only [R131_5] at h, fun _ _ _ _ _ h => by simp only [R131_9] at h⟩
  | succ n ih =>
  obtain ⟨ih, ih5, ih9⟩ := ih
  refine ⟨?_, ?_, ?_⟩
  · intro x0 x1 ds h K q
    rw [R131] at h
    by_cases b0 : (!g105_0 x1 0 65535) = true
    · rw [if_pos b0] at h
      subst h
      exact AtV.ret Tryz.func131 tabOk ext131Ok mixed false [] tys131 [true] (a1 trivial (a1 b0 trivial)) (by kernel_rfl)
    · rw [if_neg b0] at h
      replace b0 := Bool.eq_false_iff.2 b0
      exact AtV.go tabOk ext131Ok mixed false [] [] [5, 13, 14, 15] [0] [false] (a1 trivial (a1 b0 trivial)) (ih5 _ _ _ _ h K q) (by kernel_rfl)
  · intro v15 x1 x0 ds h K q
    rw [R131_5] at h
    by_cases b0 : (decide (v15 < (↑(List.length (bytesOf x0)) : Int))) = true
    · rw [if_pos b0] at h
      obtain ⟨s0, s1, h⟩ := h
      obtain ⟨s2, h⟩ := h
      exact AtV.go tabOk ext131Ok mixed false [] [] [5, 13, 14, 15, 24] [0] [true] (a1 b0 (a1 s0 (a1 s1 (a1 s2 (a1 ((by decide) : (0 : Int) ≤ (8 : Int)) trivial))))) (ih9 _ _ _ _ _ h K q) (by kernel_rfl)
    · rw [if_neg b0] at h
      replace b0 := Bool.eq_false_iff.2 b0
      subst h
      exact AtV.ret Tryz.func131 tabOk ext131Ok mixed false [] tys131 [false] (a1 b0 trivial) (by kernel_rfl)
  · intro v5 v24 x0 v15 ds h K q
    rw [R131_9] at h
    by_cases b0 : (decide (v24 < 8)) = true
    · rw [if_pos b0] at h
      by_cases b1 : (decide (IntKind.wrap IntKind.i64 (v5 * 2) > 65535)) = true
      · rw [if_pos b1] at h
        obtain ⟨s0, h⟩ := h
        exact AtV.go tabOk ext131Ok mixed false [] [] [5, 13, 14, 15, 24] [0] [true, true] (a1 b0 (a1 ((by decide) : (0 : Int) ≤ (1 : Int)) (a1 b1 (a1 s0 trivial)))) (ih9 _ _ _ _ _ h K q) (by kernel_rfl)
      · rw [if_neg b1] at h
        replace b1 := Bool.eq_false_iff.2 b1
        obtain ⟨s0, h⟩ := h
        exact AtV.go tabOk ext131Ok mixed false [] [] [5, 13, 14, 15, 24] [0] [true, false] (a1 b0 (a1 ((by decide) : (0 : Int) ≤ (1 : Int)) (a1 b1 (a1 s0 trivial)))) (ih9 _ _ _ _ _ h K q) (by kernel_rfl)
    · rw [if_neg b0] at h
      replace b0 := Bool.eq_false_iff.2 b0
      obtain ⟨s0, h⟩ := h
      exact AtV.go tabOk ext131Ok mixed false [] [] [5, 13, 14, 15] [0] [false] (a1 b0 (a1 s0 trivial)) (ih5 _ _ _ _ h K q) (by kernel_rfl)
def bit131 (s : Int) : Int := if (decide (IntKind.wrap IntKind.i64 (s * 2) > 65535)) = true then (IntKind.wrap IntKind.i64 (↑(BitVec.toNat (BitVec.ofInt 64 (IntKind.wrap IntKind.i64 (↑(BitVec.toNat (BitVec.ofInt 64 (IntKind.wrap IntKind.i64 (s * 2)) &&& BitVec.ofInt 64 65535)) : Int)) ^^^ BitVec.ofInt 64 4129)) : Int)) else (IntKind.wrap IntKind.i64 (s * 2))
def bits131 : Nat → Int → Int
  | 0, s => s
  | k + 1, s => bits131 k (bit131 s)
def byte131 (s c : Int) : Int := bits131 8 (IntKind.wrap IntKind.i64 (↑(BitVec.toNat (BitVec.ofInt 64 s ^^^ BitVec.ofInt 64 (IntKind.wrap IntKind.i64 (c * 256)))) : Int))
def g131_0 (x0 : ByteArray) (x1 : Int) : Int := if (!g105_0 x1 0 65535) = true then 0 else (bytesOf x0).foldl byte131 x1
def P131 (x0 : ByteArray) (x1 : Int) : Prop := True
theorem inner131 (x0 : ByteArray) (hm : (bytesOf x0).length ≤ maxLen) (i n : Nat) (hi : i < (bytesOf x0).length) (ds : List Dyn) : ∀ (k j : Nat) (s : Int), j + k = 8 → R131_5 n ((i : Int) + 1) (bits131 k s) x0 ds → R131_9 (n + 1 + k) s (j : Int) x0 (i : Int) ds := by
  intro k
  induction k with
  | zero =>
    intro j s hj hr
    rw [R131_9, if_neg (by simp; omega)]
    exact ⟨inR_up hm hi, hr⟩
  | succ k ih =>
    intro j s hj hr
    have e2 : (j : Int) + 1 = ((j + 1 : Nat) : Int) := by omega
    rw [show n + 1 + (k + 1) = (n + 1 + k) + 1 by omega, R131_9, if_pos (by simp; omega)]
    unfold bits131 bit131 at hr
    by_cases hc : (decide (IntKind.wrap IntKind.i64 (s * 2) > 65535)) = true
    · rw [if_pos hc] at hr ⊢
      rw [e2]
      exact ⟨by rw [i64_iff]; omega, ih (j + 1) _ (by omega) hr⟩
    · rw [if_neg hc] at hr ⊢
      rw [e2]
      exact ⟨by rw [i64_iff]; omega, ih (j + 1) _ (by omega) hr⟩
theorem run131 (x0 : ByteArray) (hm : x0.size ≤ maxLen) : ∀ (k i : Nat) (s : Int), i + k = x0.size → ∃ n, R131_5 n (i : Int) s x0 [⟨.int .i64, ((bytesOf x0).drop i).foldl byte131 s⟩] := by
  intro k
  have hl := bytesOf_length x0
  induction k with
  | zero =>
    intro i s hi
    refine ⟨1, ?_⟩
    rw [R131_5, if_neg (by rw [hl]; simp; omega), List.drop_of_length_le (by omega)]
    rfl
  | succ k ih =>
    intro i s hi
    have hlt : i < (bytesOf x0).length := by omega
    have hcons := drop_get (bytesOf x0) i 0 hlt
    obtain ⟨n, hn⟩ := ih (i + 1) (byte131 s ((bytesOf x0).getD i 0)) (by omega)
    refine ⟨n + 1 + 8 + 1, ?_⟩
    have hb := bytesOf_range x0 _ (mem_getD (bytesOf x0) i 0 hlt)
    rw [R131_5, if_pos (by rw [hl]; simp; omega)]
    simp only [Int.toNat_natCast]
    rw [hcons, List.foldl_cons]
    exact ⟨by omega, by omega, by rw [i64_iff]; omega, inner131 x0 (by rw [hl]; exact hm) i n hlt _ 8 0 _ (by omega) hn⟩
theorem top131 (x0 : ByteArray) (x1 : Int) (hm : x0.size ≤ maxLen) : ∃ n, R131 n x0 x1 [⟨.int .i64, g131_0 x0 x1⟩] := by
  obtain ⟨n, hn⟩ := run131 x0 hm x0.size 0 x1 (by omega)
  refine ⟨n + 1, ?_⟩
  rw [R131]
  unfold g131_0
  by_cases hc : (!g105_0 x1 0 65535) = true
  · rw [if_pos hc, if_pos hc]
  · rw [if_neg hc, if_neg hc]
    exact hn
def S131 : Am.Spec := { sig := sig131, pre := fun ⟨x0, x1, _⟩ => P131 x0 x1, res := fun ⟨x0, x1, _⟩ => [⟨Ty.int .i64, g131_0 x0 x1⟩] }
theorem con131 : Contract Tryz.prog 131 S131 := contract_of Tryz.func131 hb131 (Nat.le_of_ble_eq_true (by kernel_rfl)) (fun ⟨x0, x1, _⟩ h hwf K q =>
  let ⟨n, hn⟩ := top131 x0 x1 hwf.1
  (snd131 n).1 x0 x1 _ hn K q)
end
noncomputable section
def ext119 : Ext := [(132, S132), (131, S131)]
theorem ext119Ok : ExtOk Tryz.prog ext119 := ⟨⟨ca132, con132⟩, ⟨ca131, con131⟩, trivial⟩
noncomputable def b119 : Code := bodyOf Tryz.f119
theorem hb119 : Tryz.f119.body = some b119 := by kernel_rfl
def sig119 : List AT := [AT.v (Ty.int .i64), AT.v YA6]
def tys119 : List Ty := [Ty.int .i64]
def kds119 : List RK := []
def oks119 : List AT := owns sig119
def P119 (x0 : Int) (x1 : Int × Int × ByteArray × Int × Unit) : Prop := ((P132 x1) ∧ True)
def g119_0 (x0 : Int) (x1 : Int × Int × ByteArray × Int × Unit) : Int := g131_0 (g132_0 x1) x0
theorem at119 (x0 : Int) (x1 : Int × Int × ByteArray × Int × Unit) (h : P119 x0 x1) (K : Ctx) (q : Nat → Value) : AtV Tryz.prog 119 (PostR kds119 oks119 [⟨Ty.int .i64, g119_0 x0 x1⟩] [] [] q K) 9 K q [] [.code b119] (entE 0 0 sig119 (x0, x1, ())) (entL sig119 (x0, x1, ())) := by
  unfold P119 at h
  unfold g119_0
  obtain ⟨s0, h⟩ := h
  exact AtV.ret Tryz.func119 tabOk ext119Ok mixed false [] tys119 [] (a1 s0 (a1 trivial trivial)) (by kernel_rfl)
def S119 : Am.Spec := { sig := sig119, pre := fun ⟨x0, x1, _⟩ => P119 x0 x1, res := fun ⟨x0, x1, _⟩ => [⟨Ty.int .i64, g119_0 x0 x1⟩], kds := kds119 }
theorem con119 : Contract Tryz.prog 119 S119 := contract_of Tryz.func119 hb119 (Nat.le_of_ble_eq_true (by kernel_rfl)) (fun ⟨x0, x1, _⟩ h _ K q => at119 x0 x1 h K q)
end
noncomputable section
def ext96 : Ext := [(118, S118), (119, S119)]
theorem ext96Ok : ExtOk Tryz.prog ext96 := ⟨⟨ca118, con118⟩, ⟨ca119, con119⟩, trivial⟩
noncomputable def b96 : Code := bodyOf Tryz.f96
theorem hb96 : Tryz.f96.body = some b96 := by kernel_rfl
def sig96 : List AT := [AT.v (Ty.sl YA6)]
def tys96 : List Ty := [Ty.sl YA6]
def kds96 : List RK := []
def oks96 : List AT := owns sig96
def E96_4 (v4 : Int) (v11 : Int) (h0 : List TyB2) (x0 : List TyB2) : Env := [(3, PV.a (Atom.osl 0 Option.none)), (4, PV.a (Atom.val (Value.int .i64 v4))), (9, PV.a (Atom.osl 0 Option.none)), (10, PV.a (Atom.val (Value.int .i64 (↑(List.length (g118_0 x0)) : Int)))), (11, PV.a (Atom.val (Value.int .i64 v11)))]
def L96_4 (v4 : Int) (v11 : Int) (h0 : List TyB2) (x0 : List TyB2) : Heap := [Option.some (Arr.mk YA6 h0 false Option.none Option.none)]
mutual
def R96 : Nat → List TyB2 → List Dyn → Prop
  | 0, _, _ => False
  | n + 1, x0, ds => ((P118 x0) ∧ (R96_4 n (65535) (0) (g118_0 x0) (x0) ds))
def R96_4 : Nat → Int → Int → List TyB2 → List TyB2 → List Dyn → Prop
  | 0, _, _, _, _, _ => False
  | n + 1, v4, v11, h0, x0, ds => (if (decide (v11 < (↑(List.length (g118_0 x0)) : Int))) = true then ((0 ≤ v11) ∧ (v11 < (↑(List.length h0) : Int)) ∧ ((P119 v4 (List.getD h0 (Int.toNat v11) (0, 0, ByteArray.empty, 0, ()))) ∧ ((0 ≤ v11) ∧ (v11 < (↑(List.length h0) : Int)) ∧ ((InR .i64 (v11 + 1)) ∧ (R96_4 n (g119_0 v4 (List.getD h0 (Int.toNat v11) (0, 0, ByteArray.empty, 0, ()))) (v11 + 1) (List.set h0 (Int.toNat v11) ((List.getD h0 (Int.toNat v11) (0, 0, ByteArray.empty, 0, ())).1, (List.getD h0 (Int.toNat v11) (0, 0, ByteArray.empty, 0, ())).2.1, (List.getD h0 (Int.toNat v11) (0, 0, ByteArray.empty, 0, ())).2.2.1, g119_0 v4 (List.getD h0 (Int.toNat v11) (0, 0, ByteArray.empty, 0, ())), (List.getD h0 (Int.toNat v11) (0, 0, ByteArray.empty, 0, ())).2.2.2.2)) (x0) ds))))) else (ds = [Dyn.mk (Ty.sl YA6) h0]))
end
theorem snd96 : ∀ n, (∀ (x0 : List TyB2) ds, R96 n x0 ds → ∀ K q, AtV Tryz.prog 96 (PostR kds96 oks96 ds [] [] q K) 26 K q [] [.code b96] (entE 0 0 sig96 (x0, ())) (entL sig96 (x0, ()))) ∧ (∀ (v4 : Int) (v11 : Int) (h0 : List TyB2) (x0 : List TyB2) ds, R96_4 n v4 v11 h0 x0 ds → ∀ K q, AtV Tryz.prog 96 (PostR kds96 oks96 ds [] [] q K) 26 K q [] (cutAt b96 4) (E96_4 v4 v11 h0 x0) (L96_4 v4 v11 h0 x0)) := by
  intro n
  induction n with
  | zero => exact ⟨fun _ _ h => by simp only [R96] at h, fun _ _ _ _ _ h => by simp only [R96_4] at h⟩
  | succ n ih =>
  obtain ⟨ih, ih4⟩ := ih
  refine ⟨?_, ?_⟩
  · intro x0 ds h K q
    rw [R96] at h
    obtain ⟨s0, h⟩ := h
    exact AtV.go tabOk ext96Ok mixed false [] [] [3, 4, 9, 10, 11] [0] [] (a1 s0 trivial) (ih4 _ _ _ _ _ h K q) (by kernel_rfl)
  · intro v4 v11 h0 x0 ds h K q
    rw [R96_4] at h
    by_cases b0 : (decide (v11 < (↑(List.length (g118_0 x0)) : Int))) = true
    · rw [if_pos b0] at h
      obtain ⟨s0, s1, h⟩ := h
      obtain ⟨s2, h⟩ := h
      obtain ⟨s3, s4, h⟩ := h
      obtain ⟨s5, h⟩ := h
      exact AtV.go tabOk ext96Ok mixed false [] [] [3, 4, 9, 10, 11] [0] [true] (a1 b0 (a1 s0 (a1 s1 (a1 s2 (a1 s3 (a1 s4 (a1 s5 trivial))))))) (ih4 _ _ _ _ _ h K q) (by kernel_rfl)
    · rw [if_neg b0] at h
      replace b0 := Bool.eq_false_iff.2 b0
      subst h
      exact AtV.ret Tryz.func96 tabOk ext96Ok mixed false [] tys96 [false] (a1 b0 trivial) (by kernel_rfl)
def sl96 (c : Int) : List TyB2 → List TyB2
  | [] => []
  | x :: r => (x.1, x.2.1, x.2.2.1, g119_0 c x, x.2.2.2.2) :: sl96 (g119_0 c x) r
def g96_0 (x0 : List TyB2) : List TyB2 := sl96 65535 x0
def P96 (x0 : List TyB2) : Prop := x0.length ≤ 1048576 ∧ ∀ x ∈ x0, ∀ c, P119 c x
theorem set_take96 {α : Type} (l : List α) (i : Nat) (y : α) (h : i < l.length) : (l.set i y).take (i + 1) = l.take i ++ [y] := by
  rw [List.set_eq_take_append_cons_drop, if_pos h, List.take_append, List.length_take, Nat.min_eq_left (Nat.le_of_lt h), List.take_of_length_le (by rw [List.length_take]; omega), Nat.add_sub_cancel_left]
  rfl
theorem set_drop96 {α : Type} (l : List α) (i : Nat) (y : α) : (l.set i y).drop (i + 1) = l.drop (i + 1) := by
  rw [List.drop_set_of_lt (by omega)]
theorem run96 (x0 : List TyB2) (hm : x0.length ≤ maxLen) (hx : ∀ x ∈ x0, ∀ c, P119 c x) : ∀ (k i : Nat) (c : Int) (h0 : List TyB2), i + k = x0.length → h0.length = x0.length → h0.drop i = x0.drop i →
    R96_4 (k + 1) c (i : Int) h0 x0 [⟨.sl (.cons (.int .i64) (.cons (.int .i64) (.cons .str (.cons (.int .i64) .unit)))), h0.take i ++ sl96 c (x0.drop i)⟩] := by
  intro k
  induction k with
  | zero =>
    intro i c h0 hi hl hd
    rw [R96_4, if_neg (by simp only [decide_eq_true_eq]; show ¬ (i : Int) < (x0.length : Int); omega), drop_end x0 _ (by omega)]
    rw [List.take_of_length_le (by omega)]
    simp [sl96]
  | succ k ih =>
    intro i c h0 hi hl hd
    have hlt : i < x0.length := by omega
    have e0 := drop_get x0 i ((0 : Int), (0 : Int), ByteArray.empty, (0 : Int), ()) hlt
    have e1 := drop_get h0 i ((0 : Int), (0 : Int), ByteArray.empty, (0 : Int), ()) (by omega)
    have hp := hx _ (mem_getD x0 i ((0 : Int), (0 : Int), ByteArray.empty, (0 : Int), ()) hlt) c
    have e2 : h0.getD i ((0 : Int), (0 : Int), ByteArray.empty, (0 : Int), ()) = x0.getD i ((0 : Int), (0 : Int), ByteArray.empty, (0 : Int), ()) ∧ h0.drop (i + 1) = x0.drop (i + 1) := by
      rw [e0, e1] at hd
      exact List.cons.inj hd
    rw [R96_4, if_pos (by simp only [decide_eq_true_eq]; show (i : Int) < (x0.length : Int); omega), e0]
    simp only [Int.toNat_natCast, e2.1]
    generalize hy : x0.getD i ((0 : Int), (0 : Int), ByteArray.empty, (0 : Int), ()) = y at hp
    refine ⟨by omega, by omega, hp, by omega, by omega, inR_up hm hlt, ?_⟩
    have h := ih (i + 1) (g119_0 c y) (h0.set i (y.1, y.2.1, y.2.2.1, g119_0 c y, y.2.2.2.2)) (by omega) (by rw [List.length_set]; exact hl) (by rw [set_drop96]; exact e2.2)
    rw [set_take96 _ _ _ (by omega), List.append_assoc] at h
    exact h
theorem top96 (x0 : List TyB2) (hm : x0.length ≤ maxLen) (hx : P96 x0) : R96 (x0.length + 1 + 1) x0 [⟨.sl (.cons (.int .i64) (.cons (.int .i64) (.cons .str (.cons (.int .i64) .unit)))), g96_0 x0⟩] := by
  rw [R96]
  exact ⟨hx.1, by simpa [g96_0, g118_0] using run96 x0 hm hx.2 x0.length 0 65535 x0 (by omega) rfl rfl⟩
def S96 : Am.Spec := { sig := sig96, pre := fun ⟨x0, _⟩ => P96 x0, res := fun ⟨x0, _⟩ => [⟨.sl (.cons (.int .i64) (.cons (.int .i64) (.cons .str (.cons (.int .i64) .unit)))), g96_0 x0⟩] }
theorem con96 : Contract Tryz.prog 96 S96 := contract_of Tryz.func96 hb96 (Nat.le_of_ble_eq_true (by kernel_rfl)) (fun ⟨x0, _⟩ h hwf K q =>
  (snd96 _).1 x0 _ (top96 x0 hwf.1.1 h) K q)
theorem sl96_len : ∀ (l : List TyB2) (c : Int), (sl96 c l).length = l.length
  | [], _ => rfl
  | x :: r, c => by simp [sl96, sl96_len r]
end
noncomputable section
def ext66 : Ext := [(95, S95), (96, S96)]
theorem ext66Ok : ExtOk Tryz.prog ext66 := ⟨⟨ca95, con95⟩, ⟨ca96, con96⟩, trivial⟩
noncomputable def b66 : Code := bodyOf Tryz.f66
theorem hb66 : Tryz.f66.body = some b66 := by kernel_rfl
def sig66 : List AT := [AT.v (Ty.sl YA6)]
def tys66 : List Ty := [Ty.int .i64, Ty.int .i64]
def kds66 : List RK := []
def oks66 : List AT := owns sig66
def E66_4 (v12 : Int) (x0 : List TyB2) : Env := [(0, PV.a (Atom.sl YA6 x0)), (10, PV.a (Atom.osl 0 Option.none)), (11, PV.a (Atom.val (Value.int .i64 (↑(List.length (g96_0 x0)) : Int)))), (12, PV.a (Atom.val (Value.int .i64 v12)))]
def L66_4 (v12 : Int) (x0 : List TyB2) : Heap := [Option.some (Arr.mk YA6 (g96_0 x0) false Option.none Option.none)]
mutual
def R66 : Nat → List TyB2 → List Dyn → Prop
  | 0, _, _ => False
  | n + 1, x0, ds => (if (!g95_0 x0) = true then (ds = [Dyn.mk (Ty.int .i64) 0, Dyn.mk (Ty.int .i64) 1]) else ((P96 x0) ∧ (R66_4 n (0) (x0) ds)))
def R66_4 : Nat → Int → List TyB2 → List Dyn → Prop
  | 0, _, _, _ => False
  | n + 1, v12, x0, ds => (if (decide (v12 < (↑(List.length (g96_0 x0)) : Int))) = true then ((0 ≤ v12) ∧ (v12 < (↑(List.length (g96_0 x0)) : Int)) ∧ ((0 ≤ v12) ∧ (v12 < (↑(List.length x0) : Int)) ∧ (if (!eqD YA6 (List.getD x0 (Int.toNat v12) (0, 0, ByteArray.empty, 0, ())) (List.getD (g96_0 x0) (Int.toNat v12) (0, 0, ByteArray.empty, 0, ()))) = true then (ds = [Dyn.mk (Ty.int .i64) v12, Dyn.mk (Ty.int .i64) 0]) else ((InR .i64 (v12 + 1)) ∧ (R66_4 n (v12 + 1) (x0) ds))))) else (ds = [Dyn.mk (Ty.int .i64) 0, Dyn.mk (Ty.int .i64) 3]))
end
theorem snd66 : ∀ n, (∀ (x0 : List TyB2) ds, R66 n x0 ds → ∀ K q, AtV Tryz.prog 66 (PostR kds66 oks66 ds [] [] q K) 25 K q [] [.code b66] (entE 0 0 sig66 (x0, ())) (entL sig66 (x0, ()))) ∧ (∀ (v12 : Int) (x0 : List TyB2) ds, R66_4 n v12 x0 ds → ∀ K q, AtV Tryz.prog 66 (PostR kds66 oks66 ds [] [] q K) 25 K q [] (cutAt b66 4) (E66_4 v12 x0) (L66_4 v12 x0)) := by
  intro n
  induction n with
  | zero => exact ⟨fun _ _ h => by simp only [R66] at h, fun _ _ _ h => by simp only [R66_4] at h⟩
  | succ n ih =>
  obtain ⟨ih, ih4⟩ := ih
  refine ⟨?_, ?_⟩
  · intro x0 ds h K q
    rw [R66] at h
    by_cases b0 : (!g95_0 x0) = true
    · rw [if_pos b0] at h
      subst h
      exact AtV.ret Tryz.func66 tabOk ext66Ok mixed false [] tys66 [true] (a1 trivial (a1 b0 trivial)) (by kernel_rfl)
    · rw [if_neg b0] at h
      replace b0 := Bool.eq_false_iff.2 b0
      obtain ⟨s0, h⟩ := h
      exact AtV.go tabOk ext66Ok mixed false [] [] [0, 10, 11, 12] [0] [false] (a1 trivial (a1 b0 (a1 s0 trivial))) (ih4 _ _ _ h K q) (by kernel_rfl)
  · intro v12 x0 ds h K q
    rw [R66_4] at h
    by_cases b0 : (decide (v12 < (↑(List.length (g96_0 x0)) : Int))) = true
    · rw [if_pos b0] at h
      obtain ⟨s0, s1, h⟩ := h
      obtain ⟨s2, s3, h⟩ := h
      by_cases b1 : (!eqD YA6 (List.getD x0 (Int.toNat v12) (0, 0, ByteArray.empty, 0, ())) (List.getD (g96_0 x0) (Int.toNat v12) (0, 0, ByteArray.empty, 0, ()))) = true
      · rw [if_pos b1] at h
        subst h
        exact AtV.ret Tryz.func66 tabOk ext66Ok mixed false [] tys66 [true, true] (a1 b0 (a1 s0 (a1 s1 (a1 s2 (a1 s3 (a1 b1 trivial)))))) (by kernel_rfl)
      · rw [if_neg b1] at h
        replace b1 := Bool.eq_false_iff.2 b1
        obtain ⟨s4, h⟩ := h
        exact AtV.go tabOk ext66Ok mixed false [] [] [0, 10, 11, 12] [0] [true, false] (a1 b0 (a1 s0 (a1 s1 (a1 s2 (a1 s3 (a1 b1 (a1 s4 trivial))))))) (ih4 _ _ _ h K q) (by kernel_rfl)
    · rw [if_neg b0] at h
      replace b0 := Bool.eq_false_iff.2 b0
      subst h
      exact AtV.ret Tryz.func66 tabOk ext66Ok mixed false [] tys66 [false] (a1 b0 trivial) (by kernel_rfl)
def fb66 (i : Int) : List TyB2 → List TyB2 → Option Int
  | x :: r, y :: s => if (!eqD YA6 x y) = true then some i else fb66 (i + 1) r s
  | _, _ => none
def out66 : Option Int → List Dyn
  | some k => [⟨.int .i64, k⟩, ⟨.int .i64, (0 : Int)⟩]
  | none => [⟨.int .i64, (0 : Int)⟩, ⟨.int .i64, (3 : Int)⟩]
def g66_0 (x0 : List TyB2) : Int := if g95_0 x0 = true then (match fb66 0 x0 (g96_0 x0) with | some k => k | none => 0) else 0
def g66_1 (x0 : List TyB2) : Int := if g95_0 x0 = true then (match fb66 0 x0 (g96_0 x0) with | some _ => 0 | none => 3) else 1
def P66 (x0 : List TyB2) : Prop := g95_0 x0 = true → P96 x0
theorem run66 (x0 : List TyB2) (hm : x0.length ≤ maxLen) : ∀ (k i : Nat), i + k = x0.length → R66_4 (k + 1) (i : Int) x0 (out66 (fb66 i (x0.drop i) ((g96_0 x0).drop i))) := by
  have hl : (g96_0 x0).length = x0.length := sl96_len x0 _
  intro k
  induction k with
  | zero =>
    intro i hi
    rw [R66_4, if_neg (by simp only [decide_eq_true_eq]; omega), drop_end x0 _ (by omega)]
    rfl
  | succ k ih =>
    intro i hi
    have hlt : i < x0.length := by omega
    rw [R66_4, if_pos (by simp only [decide_eq_true_eq]; omega), drop_get x0 i ((0 : Int), (0 : Int), ByteArray.empty, (0 : Int), ()) hlt, drop_get (g96_0 x0) i ((0 : Int), (0 : Int), ByteArray.empty, (0 : Int), ()) (by omega)]
    simp only [Int.toNat_natCast]
    have h := ih (i + 1) (by omega)
    refine ⟨by omega, by omega, by omega, by omega, ?_⟩
    simp only [fb66]
    by_cases hc : (!eqD YA6 (x0.getD i ((0 : Int), (0 : Int), ByteArray.empty, (0 : Int), ())) ((g96_0 x0).getD i ((0 : Int), (0 : Int), ByteArray.empty, (0 : Int), ()))) = true
    · rw [if_pos hc, if_pos hc]; rfl
    · rw [if_neg hc, if_neg hc]
      exact ⟨inR_up hm hlt, by simpa using h⟩
theorem top66 (x0 : List TyB2) (hm : x0.length ≤ maxLen) (hx : P66 x0) : R66 (x0.length + 1 + 1) x0 [⟨.int .i64, g66_0 x0⟩, ⟨.int .i64, g66_1 x0⟩] := by
  rw [R66]
  unfold g66_0 g66_1
  by_cases hv : g95_0 x0 = true
  · rw [if_neg (by rw [hv]; simp), if_pos hv, if_pos hv]
    refine ⟨hx hv, ?_⟩
    have h := run66 x0 hm x0.length 0 (by omega)
    simp only [List.drop_zero] at h
    revert h
    show R66_4 _ _ _ (out66 (fb66 0 x0 (g96_0 x0))) → _
    cases fb66 0 x0 (g96_0 x0) <;> exact fun h => h
  · rw [if_pos (by rw [Bool.eq_false_iff.2 hv]; rfl), if_neg hv, if_neg hv]
def S66 : Am.Spec := { sig := sig66, pre := fun ⟨x0, _⟩ => P66 x0, res := fun ⟨x0, _⟩ => [⟨.int .i64, g66_0 x0⟩, ⟨.int .i64, g66_1 x0⟩] }
theorem con66 : Contract Tryz.prog 66 S66 := contract_of Tryz.func66 hb66 (Nat.le_of_ble_eq_true (by kernel_rfl)) (fun ⟨x0, _⟩ h hwf K q =>
  (snd66 _).1 x0 _ (top66 x0 hwf.1.1 h) K q)
end
noncomputable section
def ext29 : Ext := [(66, S66), (67, S67)]
theorem ext29Ok : ExtOk Tryz.prog ext29 := ⟨⟨ca66, con66⟩, ⟨ca67, con67⟩, trivial⟩
noncomputable def b29 : Code := bodyOf Tryz.f29
theorem hb29 : Tryz.f29.body = some b29 := by kernel_rfl
def sig29 : List AT := [AT.v YA0]
def tys29 : List Ty := [Ty.sl YA8]
def kds29 : List RK := []
def oks29 : List AT := owns sig29
def P29 (x0 : TyA0) : Prop := ((P66 x0.2.2.2.2.2.2.2.2.2.2.2.1) ∧ (if (g66_1 x0.2.2.2.2.2.2.2.2.2.2.2.1 != 0) = true then True else ((P67 (g66_0 x0.2.2.2.2.2.2.2.2.2.2.2.1)) ∧ ((0 ≤ g66_0 x0.2.2.2.2.2.2.2.2.2.2.2.1) ∧ (g66_0 x0.2.2.2.2.2.2.2.2.2.2.2.1 < (↑(List.length x0.2.2.2.2.2.2.2.2.2.2.2.1) : Int)) ∧ ((P67 (List.getD x0.2.2.2.2.2.2.2.2.2.2.2.1 (Int.toNat (g66_0 x0.2.2.2.2.2.2.2.2.2.2.2.1)) (0, 0, ByteArray.empty, 0, ())).2.2.2.1) ∧ True)))))
def g29_0 (x0 : TyA0) : List TyB3 := (if (g66_1 x0.2.2.2.2.2.2.2.2.2.2.2.1 != 0) = true then [] else [(6, g67_0 (g66_0 x0.2.2.2.2.2.2.2.2.2.2.2.1), g67_0 (List.getD x0.2.2.2.2.2.2.2.2.2.2.2.1 (Int.toNat (g66_0 x0.2.2.2.2.2.2.2.2.2.2.2.1)) (0, 0, ByteArray.empty, 0, ())).2.2.2.1, ())])
theorem at29 (x0 : TyA0) (h : P29 x0) (K : Ctx) (q : Nat → Value) : AtV Tryz.prog 29 (PostR kds29 oks29 [⟨Ty.sl YA8, g29_0 x0⟩] [] [] q K) 24 K q [] [.code b29] (entE 0 0 sig29 (x0, ())) (entL sig29 (x0, ())) := by
  unfold P29 at h
  unfold g29_0
  obtain ⟨s0, h⟩ := h
  by_cases b0 : (g66_1 x0.2.2.2.2.2.2.2.2.2.2.2.1 != 0) = true
  · try simp only [if_pos b0] at h ⊢
    exact AtV.ret Tryz.func29 tabOk ext29Ok mixed false [] tys29 [true] (a1 s0 (a1 b0 trivial)) (by kernel_rfl)
  · try simp only [if_neg b0] at h ⊢
    replace b0 := Bool.eq_false_iff.2 b0
    obtain ⟨s1, h⟩ := h
    obtain ⟨s2, s3, h⟩ := h
    obtain ⟨s4, h⟩ := h
    exact AtV.ret Tryz.func29 tabOk ext29Ok mixed false [] tys29 [false] (a1 s0 (a1 b0 (a1 s1 (a1 s2 (a1 s3 (a1 s4 trivial)))))) (by kernel_rfl)
def S29 : Am.Spec := { sig := sig29, pre := fun ⟨x0, _⟩ => P29 x0, res := fun ⟨x0, _⟩ => [⟨Ty.sl YA8, g29_0 x0⟩], kds := kds29 }
theorem con29 : Contract Tryz.prog 29 S29 := contract_of Tryz.func29 hb29 (Nat.le_of_ble_eq_true (by kernel_rfl)) (fun ⟨x0, _⟩ h _ K q => at29 x0 h K q)
end
noncomputable section
def ext28c29 : Ext := [(65, S65), (29, S29)]
theorem ext28c29Ok : ExtOk Tryz.prog ext28c29 := ⟨⟨ca65, con65⟩, ⟨ca29, con29⟩, trivial⟩
noncomputable def b28c29 : Code := bodyOf Tryz.f28
theorem hb28c29 : Tryz.f28.body = some b28c29 := by kernel_rfl
def sig28c29 : List AT := [AT.v YA0, AT.fns [29]]
def tys28c29 : List Ty := [Ty.sl YA8, Ty.int .i64]
def kds28c29 : List RK := []
def oks28c29 : List AT := owns sig28c29
def P28c29 (x0 : TyA0) : Prop := (if (!g65_0 x0) = true then True else ((P29 x0) ∧ ((List.length (g29_0 x0) * 40 ≤ 140737488355328) ∧ True)))
def g28c29_0 (x0 : TyA0) : List TyB3 := (if (!g65_0 x0) = true then [] else g29_0 x0)
def g28c29_1 (x0 : TyA0) : Int := (if (!g65_0 x0) = true then 1 else 0)
theorem at28c29 (x0 : TyA0) (h : P28c29 x0) (K : Ctx) (q : Nat → Value) : AtV Tryz.prog 28 (PostR kds28c29 oks28c29 [⟨Ty.sl YA8, g28c29_0 x0⟩, ⟨Ty.int .i64, g28c29_1 x0⟩] [] [] q K) 25 K q [] [.code b28c29] (entE 0 0 sig28c29 (x0, (), ())) (entL sig28c29 (x0, (), ())) := by
  unfold P28c29 at h
  unfold g28c29_0 g28c29_1
  by_cases b0 : (!g65_0 x0) = true
  · try simp only [if_pos b0] at h ⊢
    exact AtV.ret Tryz.func28 tabOk ext28c29Ok mixed false [1000007] tys28c29 [true] (a1 trivial (a1 b0 trivial)) (by kernel_rfl)
  · try simp only [if_neg b0] at h ⊢
    replace b0 := Bool.eq_false_iff.2 b0
    obtain ⟨s0, h⟩ := h
    obtain ⟨s1, h⟩ := h
    exact AtV.ret Tryz.func28 tabOk ext28c29Ok mixed false [1000007] tys28c29 [false, true, false] (a1 trivial (a1 b0 (a1 (rfl : true = true) (a1 ((by decide) : (0 : Int) ≤ (0 : Int)) (a1 ((by decide) : (0 : Int) < (1 : Int)) (a1 s0 (a1 s1 (a1 ((by decide) : InR .i64 1) (a1 (rfl : false = false) trivial))))))))) (by kernel_rfl)
def S28c29 : Am.Spec := { sig := sig28c29, pre := fun ⟨x0, _⟩ => P28c29 x0, res := fun ⟨x0, _⟩ => [⟨Ty.sl YA8, g28c29_0 x0⟩, ⟨Ty.int .i64, g28c29_1 x0⟩], kds := kds28c29 }
theorem con28c29 : Contract Tryz.prog 28 S28c29 := contract_of Tryz.func28 hb28c29 (Nat.le_of_ble_eq_true (by kernel_rfl)) (fun ⟨x0, _⟩ h _ K q => at28c29 x0 h K q)
end
noncomputable section
def ext7 : Ext := [(28, S28c29)]
theorem ext7Ok : ExtOk Tryz.prog ext7 := ⟨⟨ca28, con28c29⟩, trivial⟩
noncomputable def b7 : Code := bodyOf Tryz.f7
theorem hb7 : Tryz.f7.body = some b7 := by kernel_rfl
def sig7 : List AT := [AT.v YA0]
def tys7 : List Ty := [Ty.sl YA8, Ty.int .i64]
def kds7 : List RK := []
def oks7 : List AT := owns sig7
def P7 (x0 : TyA0) : Prop := ((P28c29 x0) ∧ True)
def g7_0 (x0 : TyA0) : List TyB3 := g28c29_0 x0
def g7_1 (x0 : TyA0) : Int := g28c29_1 x0
theorem at7 (x0 : TyA0) (h : P7 x0) (K : Ctx) (q : Nat → Value) : AtV Tryz.prog 7 (PostR kds7 oks7 [⟨Ty.sl YA8, g7_0 x0⟩, ⟨Ty.int .i64, g7_1 x0⟩] [] [] q K) 9 K q [] [.code b7] (entE 0 0 sig7 (x0, ())) (entL sig7 (x0, ())) := by
  unfold P7 at h
  unfold g7_0 g7_1
  obtain ⟨s0, h⟩ := h
  exact AtV.ret Tryz.func7 tabOk ext7Ok mixed false [] tys7 [] (a1 s0 trivial) (by kernel_rfl)
def S7 : Am.Spec := { sig := sig7, pre := fun ⟨x0, _⟩ => P7 x0, res := fun ⟨x0, _⟩ => [⟨Ty.sl YA8, g7_0 x0⟩, ⟨Ty.int .i64, g7_1 x0⟩], kds := kds7 }
theorem con7 : Contract Tryz.prog 7 S7 := contract_of Tryz.func7 hb7 (Nat.le_of_ble_eq_true (by kernel_rfl)) (fun ⟨x0, _⟩ h _ K q => at7 x0 h K q)
end
noncomputable section
def ext74 : Ext := []
theorem ext74Ok : ExtOk Tryz.prog ext74 := trivial
noncomputable def b74 : Code := bodyOf Tryz.f74
theorem hb74 : Tryz.f74.body = some b74 := by kernel_rfl
def sig74 : List AT := [AT.v (Ty.int .i64), AT.v (Ty.int .i64), AT.v (Ty.int .i64)]
def tys74 : List Ty := [Ty.bool]
def kds74 : List RK := []
def oks74 : List AT := owns sig74
def P74 (x0 : Int) (x1 : Int) (x2 : Int) : Prop := True
def g74_0 (x0 : Int) (x1 : Int) (x2 : Int) : Bool := (if (decide (x0 ≥ x1)) = true then decide (x0 ≤ x2) else false)
theorem at74 (x0 : Int) (x1 : Int) (x2 : Int) (h : P74 x0 x1 x2) (K : Ctx) (q : Nat → Value) : AtV Tryz.prog 74 (PostR kds74 oks74 [⟨Ty.bool, g74_0 x0 x1 x2⟩] [] [] q K) 15 K q [] [.code b74] (entE 0 0 sig74 (x0, x1, x2, ())) (entL sig74 (x0, x1, x2, ())) := by
  unfold P74 at h
  unfold g74_0
  by_cases b0 : (decide (x0 ≥ x1)) = true
  · try simp only [if_pos b0] at h ⊢
    exact AtV.ret Tryz.func74 tabOk ext74Ok mixed false [] tys74 [true] (a1 b0 trivial) (by kernel_rfl)
  · try simp only [if_neg b0] at h ⊢
    replace b0 := Bool.eq_false_iff.2 b0
    exact AtV.ret Tryz.func74 tabOk ext74Ok mixed false [] tys74 [false] (a1 b0 trivial) (by kernel_rfl)
def S74 : Am.Spec := { sig := sig74, pre := fun ⟨x0, x1, x2, _⟩ => P74 x0 x1 x2, res := fun ⟨x0, x1, x2, _⟩ => [⟨Ty.bool, g74_0 x0 x1 x2⟩], kds := kds74 }
theorem con74 : Contract Tryz.prog 74 S74 := contract_of Tryz.func74 hb74 (Nat.le_of_ble_eq_true (by kernel_rfl)) (fun ⟨x0, x1, x2, _⟩ h _ K q => at74 x0 x1 x2 h K q)
end
noncomputable section
def ext75 : Ext := []
theorem ext75Ok : ExtOk Tryz.prog ext75 := trivial
noncomputable def b75 : Code := bodyOf Tryz.f75
theorem hb75 : Tryz.f75.body = some b75 := by kernel_rfl
def sig75 : List AT := [AT.p YA2]
def tys75 : List Ty := [Ty.int .i64]
def kds75 : List RK := []
def oks75 : List AT := owns sig75
def E75_3 (v3 : Int) (v4 : Int) (x0 : List TyB4 × Int × Int × Unit) : Env := [(0, PV.a (Atom.ptr YA2 x0)), (3, PV.a (Atom.val (Value.int .i64 v3))), (4, PV.a (Atom.val (Value.int .i64 v4)))]
def L75_3 (v3 : Int) (v4 : Int) (x0 : List TyB4 × Int × Int × Unit) : Heap := []
mutual
def R75 : Nat → List TyB4 × Int × Int × Unit → List Dyn → Prop
  | 0, _, _ => False
  | n + 1, x0, ds => (R75_3 n (0) (0) (x0) ds)
def R75_3 : Nat → Int → Int → List TyB4 × Int × Int × Unit → List Dyn → Prop
  | 0, _, _, _, _ => False
  | n + 1, v3, v4, x0, ds => (if (decide (v4 < (↑(List.length x0.1) : Int))) = true then ((0 ≤ v4) ∧ (v4 < (↑(List.length x0.1) : Int)) ∧ ((InR .i64 (v3 + (List.getD x0.1 (Int.toNat v4) (0, 0, ())).1)) ∧ ((InR .i64 (v4 + 1)) ∧ (R75_3 n (v3 + (List.getD x0.1 (Int.toNat v4) (0, 0, ())).1) (v4 + 1) (x0) ds)))) else (ds = [Dyn.mk (Ty.int .i64) v3]))
end
theorem snd75 : ∀ n, (∀ (x0 : List TyB4 × Int × Int × Unit) ds, R75 n x0 ds → ∀ K q, AtV Tryz.prog 75 (PostR kds75 oks75 ds [] [] q K) 25 K q [] [.code b75] (entE 0 0 sig75 (x0, ())) (entL sig75 (x0, ()))) ∧ (∀ (v3 : Int) (v4 : Int) (x0 : List TyB4 × Int × Int × Unit) ds, R75_3 n v3 v4 x0 ds → ∀ K q, AtV Tryz.prog 75 (PostR kds75 oks75 ds [] [] q K) 25 K q [] (cutAt b75 3) (E75_3 v3 v4 x0) (L75_3 v3 v4 x0)) := by
  intro n
  induction n with
  | zero => exact ⟨fun _ _ h => by simp only [R75] at h, fun _ _ _ _ h => by simp only [R75_3] at h⟩
  | succ n ih =>
  obtain ⟨ih, ih3⟩ := ih
  refine ⟨?_, ?_⟩
  · intro x0 ds h K q
    rw [R75] at h
    exact AtV.go tabOk ext75Ok mixed false [] [] [0, 3, 4] [] [] trivial (ih3 _ _ _ _ h K q) (by kernel_rfl)
  · intro v3 v4 x0 ds h K q
    rw [R75_3] at h
    by_cases b0 : (decide (v4 < (↑(List.length x0.1) : Int))) = true
    · rw [if_pos b0] at h
      obtain ⟨s0, s1, h⟩ := h
      obtain ⟨s2, h⟩ := h
      obtain ⟨s3, h⟩ := h
      exact AtV.go tabOk ext75Ok mixed false [] [] [0, 3, 4] [] [true] (a1 b0 (a1 s0 (a1 s1 (a1 s2 (a1 s3 trivial))))) (ih3 _ _ _ _ h K q) (by kernel_rfl)
    · rw [if_neg b0] at h
      replace b0 := Bool.eq_false_iff.2 b0
      subst h
      exact AtV.ret Tryz.func75 tabOk ext75Ok mixed false [] tys75 [false] (a1 b0 trivial) (by kernel_rfl)
def sum75 (xs : List TyB4) : Int := xs.foldr (fun x n => x.1 + n) 0
def g75_0 (x0 : List TyB4 × Int × Int × Unit) : Int := sum75 x0.1
def P75 (x0 : List TyB4 × Int × Int × Unit) : Prop := x0.1.length ≤ 1000000 ∧ ∀ x ∈ x0.1, 0 ≤ x.1 ∧ x.1 ≤ 1000000000
theorem run75 (x0 : List TyB4 × Int × Int × Unit) (hl : x0.1.length ≤ 1000000) (hx : ∀ x ∈ x0.1, 0 ≤ x.1 ∧ x.1 ≤ 1000000000) : ∀ (k i : Nat) (v : Int), i + k = x0.1.length → 0 ≤ v → v ≤ 1000000000 * (i : Int) →
    R75_3 (k + 1) v (i : Int) x0 [⟨.int .i64, v + sum75 (x0.1.drop i)⟩] := by
  intro k
  induction k with
  | zero =>
    intro i v hi h0 h1
    rw [R75_3, if_neg (by simp only [decide_eq_true_eq]; omega), drop_end _ _ (by omega)]
    simp [sum75]
  | succ k ih =>
    intro i v hi h0 h1
    have hlt : i < x0.1.length := by omega
    have hm := hx _ (mem_getD x0.1 i ((0 : Int), (0 : Int), ()) hlt)
    have h := ih (i + 1) (v + (x0.1.getD i ((0 : Int), (0 : Int), ())).1) (by omega) (by omega) (by omega)
    rw [R75_3, if_pos (by simp only [decide_eq_true_eq]; omega)]
    simp only [Int.toNat_natCast]
    refine ⟨by omega, by omega, by rw [i64_iff]; omega, by rw [i64_iff]; omega, ?_⟩
    rw [drop_get x0.1 i ((0 : Int), (0 : Int), ()) hlt]
    have e : ∀ (y : Int × Int × Unit) l, v + sum75 (y :: l) = v + y.1 + sum75 l := fun y l => by
      show v + (y.1 + sum75 l) = _; omega
    rw [e]
    exact h
theorem top75 (x0 : List TyB4 × Int × Int × Unit) (h : P75 x0) : R75 (x0.1.length + 1 + 1) x0 [⟨.int .i64, g75_0 x0⟩] := by
  rw [R75]
  have := run75 x0 h.1 h.2 x0.1.length 0 0 (by omega) (by omega) (by omega)
  simpa [g75_0] using this
def S75 : Am.Spec := { sig := sig75, pre := fun ⟨x0, _⟩ => P75 x0, res := fun ⟨x0, _⟩ => [⟨.int .i64, g75_0 x0⟩] }
theorem con75 : Contract Tryz.prog 75 S75 := contract_of Tryz.func75 hb75 (Nat.le_of_ble_eq_true (by kernel_rfl)) (fun ⟨x0, _⟩ h hwf K q =>
  (snd75 _).1 x0 _ (top75 x0 h) K q)
theorem sum75_le (xs : List TyB4) (h : ∀ x ∈ xs, 0 ≤ x.1 ∧ x.1 ≤ 3000000) : 0 ≤ sum75 xs ∧ sum75 xs ≤ 3000000 * (xs.length : Int) := by
  induction xs with
  | nil => exact ⟨Int.le_refl _, Int.le_refl _⟩
  | cons x r ih =>
    obtain ⟨i1, i2⟩ := ih fun y hy => h y (List.mem_cons_of_mem _ hy)
    obtain ⟨x1, x2⟩ := h x (List.mem_cons_self ..)
    show 0 ≤ x.1 + sum75 r ∧ x.1 + sum75 r ≤ _
    simp only [List.length_cons]
    omega
end
noncomputable section
def ext49 : Ext := [(74, S74), (75, S75)]
theorem ext49Ok : ExtOk Tryz.prog ext49 := ⟨⟨ca74, con74⟩, ⟨ca75, con75⟩, trivial⟩
noncomputable def b49 : Code := bodyOf Tryz.f49
theorem hb49 : Tryz.f49.body = some b49 := by kernel_rfl
def sig49 : List AT := [AT.p YA2]
def tys49 : List Ty := [Ty.bool]
def kds49 : List RK := []
def oks49 : List AT := owns sig49
def E49_2 (v3 : Int) (x0 : List TyB4 × Int × Int × Unit) : Env := [(0, PV.a (Atom.ptr YA2 x0)), (3, PV.a (Atom.val (Value.int .i64 v3)))]
def L49_2 (v3 : Int) (x0 : List TyB4 × Int × Int × Unit) : Heap := []
mutual
def R49 : Nat → List TyB4 × Int × Int × Unit → List Dyn → Prop
  | 0, _, _ => False
  | n + 1, x0, ds => (R49_2 n (0) (x0) ds)
def R49_2 : Nat → Int → List TyB4 × Int × Int × Unit → List Dyn → Prop
  | 0, _, _, _ => False
  | n + 1, v3, x0, ds => (if (decide (v3 < (↑(List.length x0.1) : Int))) = true then ((0 ≤ v3) ∧ (v3 < (↑(List.length x0.1) : Int)) ∧ (if (!g74_0 (List.getD x0.1 (Int.toNat v3) (0, 0, ())).1 1 3000000) = true then (ds = [Dyn.mk Ty.bool false]) else ((0 ≤ v3) ∧ (v3 < (↑(List.length x0.1) : Int)) ∧ (if (!g74_0 (List.getD x0.1 (Int.toNat v3) (0, 0, ())).2.1 0 900) = true then (ds = [Dyn.mk Ty.bool false]) else ((InR .i64 (v3 + 1)) ∧ (R49_2 n (v3 + 1) (x0) ds)))))) else (if ((↑(List.length x0.1) : Int) == 0) = true then (ds = [Dyn.mk Ty.bool false]) else (if (decide ((↑(List.length x0.1) : Int) > 12)) = true then (ds = [Dyn.mk Ty.bool false]) else ((P75 x0) ∧ (if (decide (g75_0 x0 ≤ 3000000)) = true then (if (g74_0 x0.2.1 0 (g75_0 x0)) = true then (ds = [Dyn.mk Ty.bool (g74_0 x0.2.2.1 x0.2.1 (g75_0 x0))]) else (ds = [Dyn.mk Ty.bool false])) else (ds = [Dyn.mk Ty.bool false]))))))
end
theorem snd49 : ∀ n, (∀ (x0 : List TyB4 × Int × Int × Unit) ds, R49 n x0 ds → ∀ K q, AtV Tryz.prog 49 (PostR kds49 oks49 ds [] [] q K) 74 K q [] [.code b49] (entE 0 0 sig49 (x0, ())) (entL sig49 (x0, ()))) ∧ (∀ (v3 : Int) (x0 : List TyB4 × Int × Int × Unit) ds, R49_2 n v3 x0 ds → ∀ K q, AtV Tryz.prog 49 (PostR kds49 oks49 ds [] [] q K) 74 K q [] (cutAt b49 2) (E49_2 v3 x0) (L49_2 v3 x0)) := by
  intro n
  induction n with
  | zero => exact ⟨fun _ _ h => by simp only [R49] at h, fun _ _ _ h => by simp only [R49_2] at h⟩
  | succ n ih =>
  obtain ⟨ih, ih2⟩ := ih
  refine ⟨?_, ?_⟩
  · intro x0 ds h K q
    rw [R49] at h
    exact AtV.go tabOk ext49Ok mixed false [] [] [0, 3] [] [] trivial (ih2 _ _ _ h K q) (by kernel_rfl)
  · intro v3 x0 ds h K q
    rw [R49_2] at h
    by_cases b0 : (decide (v3 < (↑(List.length x0.1) : Int))) = true
    · rw [if_pos b0] at h
      obtain ⟨s0, s1, h⟩ := h
      by_cases b1 : (!g74_0 (List.getD x0.1 (Int.toNat v3) (0, 0, ())).1 1 3000000) = true
      · rw [if_pos b1] at h
        subst h
        exact AtV.ret Tryz.func49 tabOk ext49Ok mixed false [] tys49 [true, true, true] (a1 b0 (a1 s0 (a1 s1 (a1 trivial (a1 b1 (a1 (rfl : true = true) trivial)))))) (by kernel_rfl)
      · rw [if_neg b1] at h
        replace b1 := Bool.eq_false_iff.2 b1
        obtain ⟨s2, s3, h⟩ := h
        by_cases b2 : (!g74_0 (List.getD x0.1 (Int.toNat v3) (0, 0, ())).2.1 0 900) = true
        · rw [if_pos b2] at h
          subst h
          exact AtV.ret Tryz.func49 tabOk ext49Ok mixed false [] tys49 [true, false, true] (a1 b0 (a1 s0 (a1 s1 (a1 trivial (a1 b1 (a1 s2 (a1 s3 (a1 trivial (a1 b2 trivial))))))))) (by kernel_rfl)
        · rw [if_neg b2] at h
          replace b2 := Bool.eq_false_iff.2 b2
          obtain ⟨s4, h⟩ := h
          exact AtV.go tabOk ext49Ok mixed false [] [] [0, 3] [] [true, false, false] (a1 b0 (a1 s0 (a1 s1 (a1 trivial (a1 b1 (a1 s2 (a1 s3 (a1 trivial (a1 b2 (a1 s4 trivial)))))))))) (ih2 _ _ _ h K q) (by kernel_rfl)
    · rw [if_neg b0] at h
      replace b0 := Bool.eq_false_iff.2 b0
      by_cases b1 : ((↑(List.length x0.1) : Int) == 0) = true
      · rw [if_pos b1] at h
        subst h
        exact AtV.ret Tryz.func49 tabOk ext49Ok mixed false [] tys49 [false, true, true] (a1 b0 (a1 b1 (a1 (rfl : true = true) trivial))) (by kernel_rfl)
      · rw [if_neg b1] at h
        replace b1 := Bool.eq_false_iff.2 b1
        by_cases b2 : (decide ((↑(List.length x0.1) : Int) > 12)) = true
        · rw [if_pos b2] at h
          subst h
          exact AtV.ret Tryz.func49 tabOk ext49Ok mixed false [] tys49 [false, false, true] (a1 b0 (a1 b1 (a1 b2 trivial))) (by kernel_rfl)
        · rw [if_neg b2] at h
          replace b2 := Bool.eq_false_iff.2 b2
          obtain ⟨s0, h⟩ := h
          by_cases b3 : (decide (g75_0 x0 ≤ 3000000)) = true
          · rw [if_pos b3] at h
            by_cases b4 : (g74_0 x0.2.1 0 (g75_0 x0)) = true
            · rw [if_pos b4] at h
              subst h
              exact AtV.ret Tryz.func49 tabOk ext49Ok mixed false [] tys49 [false, false, false, true, true] (a1 b0 (a1 b1 (a1 b2 (a1 s0 (a1 b3 (a1 trivial (a1 b4 (a1 trivial trivial)))))))) (by kernel_rfl)
            · rw [if_neg b4] at h
              replace b4 := Bool.eq_false_iff.2 b4
              subst h
              exact AtV.ret Tryz.func49 tabOk ext49Ok mixed false [] tys49 [false, false, false, true, false] (a1 b0 (a1 b1 (a1 b2 (a1 s0 (a1 b3 (a1 trivial (a1 b4 trivial))))))) (by kernel_rfl)
          · rw [if_neg b3] at h
            replace b3 := Bool.eq_false_iff.2 b3
            subst h
            exact AtV.ret Tryz.func49 tabOk ext49Ok mixed false [] tys49 [false, false, false, false, false] (a1 b0 (a1 b1 (a1 b2 (a1 s0 (a1 b3 (a1 (rfl : false = false) trivial)))))) (by kernel_rfl)
def ok49 (x : TyB4) : Bool := g74_0 x.1 1 3000000 && g74_0 x.2.1 0 900
def fine49 (x0 : (List TyB4 × Int × Int × Unit)) : Bool := if decide (g75_0 x0 ≤ 3000000) = true then (if g74_0 x0.2.1 0 (g75_0 x0) = true then g74_0 x0.2.2.1 x0.2.1 (g75_0 x0) else false) else false
def g49_0 (x0 : (List TyB4 × Int × Int × Unit)) : Bool := x0.1.all ok49 && (decide (1 ≤ x0.1.length) && decide (x0.1.length ≤ 12)) && fine49 x0
def P49 (x0 : (List TyB4 × Int × Int × Unit)) : Prop := True
theorem in49 {x a b : Int} : g74_0 x a b = true ↔ a ≤ x ∧ x ≤ b := by
  unfold g74_0
  by_cases c1 : x ≥ a
  · by_cases c2 : x ≤ b
    · simp [c1, c2]
    · simp [c1, c2]
  · have : ¬ a ≤ x := c1
    simp [c1, this]
theorem lenp49 {x0 : (List TyB4 × Int × Int × Unit)} (h : x0.1.all ok49 = true) (hl : x0.1.length ≤ 12) : P75 x0 ∧ 0 ≤ g75_0 x0 ∧ g75_0 x0 ≤ 36000000 := by
  have hx : ∀ x ∈ x0.1, 0 ≤ x.1 ∧ x.1 ≤ 3000000 := fun x hx => by
    have := List.all_eq_true.1 h x hx
    unfold ok49 at this
    rw [Bool.and_eq_true] at this
    have := in49.1 this.1
    omega
  obtain ⟨s1, s2⟩ := sum75_le x0.1 hx
  refine ⟨⟨by omega, fun x h => by have := hx x h; omega⟩, s1, ?_⟩
  show sum75 x0.1 ≤ _
  omega
theorem run49 (x0 : (List TyB4 × Int × Int × Unit)) (hm : x0.1.length ≤ maxLen) (yes : List Dyn) (hend : ∀ n, x0.1.all ok49 = true → R49_2 (n + 1) (x0.1.length : Int) x0 yes) : ∀ (k i : Nat) (B : Bool), i + k = x0.1.length → (x0.1.drop i).all ok49 = B → (∀ j, j < i → ok49 (x0.1.getD j ((0 : Int), (0 : Int), ())) = true) →
    R49_2 (k + 1) (i : Int) x0 (if B = true then yes else [⟨.bool, false⟩]) := by
  intro k
  induction k with
  | zero =>
    intro i B hi hB hp
    have : i = x0.1.length := by omega
    subst this
    rw [drop_end _ _ (by omega)] at hB
    subst hB
    refine hend 0 (List.all_eq_true.2 fun x hx => ?_)
    obtain ⟨j, hj, rfl⟩ := List.getElem_of_mem hx
    have := hp j (by omega)
    rwa [getD_lt _ _ _ hj] at this
  | succ k ih =>
    intro i B hi hB hp
    have hlt : i < x0.1.length := by omega
    have hu := inR_up hm hlt
    rw [R49_2, if_pos (by simp only [decide_eq_true_eq]; omega)]
    rw [drop_get x0.1 i ((0 : Int), (0 : Int), ()) hlt, List.all_cons] at hB
    simp only [Int.toNat_natCast]
    refine ⟨by omega, by omega, ?_⟩
    by_cases h1 : ok49 (x0.1.getD i ((0 : Int), (0 : Int), ())) = true
    case neg =>
      have h1 := Bool.eq_false_iff.2 h1
      rw [h1, Bool.false_and] at hB
      subst hB
      by_cases c1 : g74_0 (x0.1.getD i ((0 : Int), (0 : Int), ())).1 1 3000000 = true
      · rw [if_neg (by rw [c1]; simp)]
        have c2 : g74_0 (x0.1.getD i ((0 : Int), (0 : Int), ())).2.1 0 900 = false := by
          unfold ok49 at h1; rw [c1] at h1; simpa using h1
        exact ⟨by omega, by omega, by rw [if_pos (by rw [c2]; rfl)] <;> rfl⟩
      · rw [if_pos (by rw [Bool.eq_false_iff.2 c1]; rfl)] <;> rfl
    case pos =>
      have hb := h1
      rw [h1, Bool.true_and] at hB
      unfold ok49 at hb
      rw [Bool.and_eq_true] at hb
      rw [if_neg (by rw [hb.1]; simp)]
      have e1 : (((i + 1 : Nat)) : Int) = (i : Int) + 1 := by omega
      have hnext := ih (i + 1) B (by omega) hB (fun j hj => by
        rcases Nat.lt_or_ge j i with h | h
        · exact hp j h
        · have : j = i := by omega
          subst this; exact h1)
      rw [e1] at hnext
      exact ⟨by omega, by omega, by rw [if_neg (by rw [hb.2]; simp)]; exact ⟨hu, hnext⟩⟩
theorem end49 (x0 : (List TyB4 × Int × Int × Unit)) (n : Nat) (h : x0.1.all ok49 = true) : R49_2 (n + 1) (x0.1.length : Int) x0 [⟨.bool, (decide (1 ≤ x0.1.length) && decide (x0.1.length ≤ 12)) && fine49 x0⟩] := by
  rw [R49_2, if_neg (by simp)]
  by_cases c1 : ((x0.1.length : Int) == 0) = true
  · rw [if_pos c1]
    have : ¬ 1 ≤ x0.1.length := by simp only [beq_iff_eq] at c1; omega
    rw [decide_eq_false this]; rfl
  · rw [if_neg c1]
    have d1 : 1 ≤ x0.1.length := by simp only [beq_iff_eq] at c1; omega
    by_cases c2 : (x0.1.length : Int) > 12
    · rw [if_pos (decide_eq_true c2)]
      have : ¬ x0.1.length ≤ 12 := by omega
      rw [decide_eq_false this, Bool.and_false]; rfl
    · rw [if_neg (by simpa using c2)]
      have d2 : x0.1.length ≤ 12 := by omega
      rw [decide_eq_true d1, decide_eq_true d2]
      refine ⟨(lenp49 h d2).1, ?_⟩
      unfold fine49
      split
      · split
        · rfl
        · rfl
      · rfl
theorem top49 (x0 : (List TyB4 × Int × Int × Unit)) (hm : x0.1.length ≤ maxLen) : ∃ n, R49 n x0 [⟨.bool, g49_0 x0⟩] := by
  refine ⟨x0.1.length + 1 + 1, ?_⟩
  rw [R49]
  have key := run49 x0 hm _ (end49 x0) x0.1.length 0 _ (by omega) rfl (fun j hj => by omega)
  rw [List.drop_zero] at key
  unfold g49_0
  cases h : x0.1.all ok49 with
  | true => rw [if_pos h] at key; rw [Bool.true_and]; exact key
  | false => rw [if_neg (by rw [h]; simp)] at key; exact key
def S49 : Am.Spec := { sig := sig49, pre := fun ⟨x0, _⟩ => P49 x0, res := fun ⟨x0, _⟩ => [⟨Ty.bool, g49_0 x0⟩] }
theorem con49 : Contract Tryz.prog 49 S49 := contract_of Tryz.func49 hb49 (Nat.le_of_ble_eq_true (by kernel_rfl)) (fun ⟨x0, _⟩ h hwf K q =>
  let ⟨n, hn⟩ := top49 x0 hwf.1.1.1
  (snd49 n).1 x0 _ hn K q)
end
noncomputable section
def ext50 : Ext := [(74, S74)]
theorem ext50Ok : ExtOk Tryz.prog ext50 := ⟨⟨ca74, con74⟩, trivial⟩
noncomputable def b50 : Code := bodyOf Tryz.f50
theorem hb50 : Tryz.f50.body = some b50 := by kernel_rfl
def sig50 : List AT := [AT.v (Ty.int .i64)]
def tys50 : List Ty := [Ty.bool]
def kds50 : List RK := []
def oks50 : List AT := owns sig50
def P50 (x0 : Int) : Prop := True
def g50_0 (x0 : Int) : Bool := g74_0 x0 0 3000000
theorem at50 (x0 : Int) (h : P50 x0) (K : Ctx) (q : Nat → Value) : AtV Tryz.prog 50 (PostR kds50 oks50 [⟨Ty.bool, g50_0 x0⟩] [] [] q K) 5 K q [] [.code b50] (entE 0 0 sig50 (x0, ())) (entL sig50 (x0, ())) := by
  unfold P50 at h
  unfold g50_0
  exact AtV.ret Tryz.func50 tabOk ext50Ok mixed false [] tys50 [] (a1 trivial trivial) (by kernel_rfl)
def S50 : Am.Spec := { sig := sig50, pre := fun ⟨x0, _⟩ => P50 x0, res := fun ⟨x0, _⟩ => [⟨Ty.bool, g50_0 x0⟩], kds := kds50 }
theorem con50 : Contract Tryz.prog 50 S50 := contract_of Tryz.func50 hb50 (Nat.le_of_ble_eq_true (by kernel_rfl)) (fun ⟨x0, _⟩ h _ K q => at50 x0 h K q)
end
noncomputable section
def ext51 : Ext := [(74, S74)]
theorem ext51Ok : ExtOk Tryz.prog ext51 := ⟨⟨ca74, con74⟩, trivial⟩
noncomputable def b51 : Code := bodyOf Tryz.f51
theorem hb51 : Tryz.f51.body = some b51 := by kernel_rfl
def sig51 : List AT := [AT.p YA9]
def tys51 : List Ty := [Ty.bool]
def kds51 : List RK := []
def oks51 : List AT := owns sig51
def P51 (x0 : Int × Int × Unit) : Prop := True
def g51_0 (x0 : Int × Int × Unit) : Bool := (if (g74_0 x0.1 0 100) = true then g74_0 x0.2.1 1 10000 else false)
theorem at51 (x0 : Int × Int × Unit) (h : P51 x0) (K : Ctx) (q : Nat → Value) : AtV Tryz.prog 51 (PostR kds51 oks51 [⟨Ty.bool, g51_0 x0⟩] [] [] q K) 15 K q [] [.code b51] (entE 0 0 sig51 (x0, ())) (entL sig51 (x0, ())) := by
  unfold P51 at h
  unfold g51_0
  by_cases b0 : (g74_0 x0.1 0 100) = true
  · try simp only [if_pos b0] at h ⊢
    exact AtV.ret Tryz.func51 tabOk ext51Ok mixed false [] tys51 [true] (a1 trivial (a1 b0 (a1 trivial trivial))) (by kernel_rfl)
  · try simp only [if_neg b0] at h ⊢
    replace b0 := Bool.eq_false_iff.2 b0
    exact AtV.ret Tryz.func51 tabOk ext51Ok mixed false [] tys51 [false] (a1 trivial (a1 b0 trivial)) (by kernel_rfl)
def S51 : Am.Spec := { sig := sig51, pre := fun ⟨x0, _⟩ => P51 x0, res := fun ⟨x0, _⟩ => [⟨Ty.bool, g51_0 x0⟩], kds := kds51 }
theorem con51 : Contract Tryz.prog 51 S51 := contract_of Tryz.func51 hb51 (Nat.le_of_ble_eq_true (by kernel_rfl)) (fun ⟨x0, _⟩ h _ K q => at51 x0 h K q)
end
noncomputable section
def ext52 : Ext := [(74, S74)]
theorem ext52Ok : ExtOk Tryz.prog ext52 := ⟨⟨ca74, con74⟩, trivial⟩
noncomputable def b52 : Code := bodyOf Tryz.f52
theorem hb52 : Tryz.f52.body = some b52 := by kernel_rfl
def sig52 : List AT := [AT.p YA4]
def tys52 : List Ty := [Ty.bool]
def kds52 : List RK := []
def oks52 : List AT := owns sig52
def P52 (x0 : Int × Int × Int × Int × Unit) : Prop := True
def g52_0 (x0 : Int × Int × Int × Int × Unit) : Bool := (if (g74_0 x0.1 1 2000) = true then (if (g74_0 x0.2.1 100 15000) = true then (if (g74_0 x0.2.2.1 100 x0.2.1) = true then g74_0 x0.2.2.2.1 0 3000000 else false) else false) else false)
theorem at52 (x0 : Int × Int × Int × Int × Unit) (h : P52 x0) (K : Ctx) (q : Nat → Value) : AtV Tryz.prog 52 (PostR kds52 oks52 [⟨Ty.bool, g52_0 x0⟩] [] [] q K) 33 K q [] [.code b52] (entE 0 0 sig52 (x0, ())) (entL sig52 (x0, ())) := by
  unfold P52 at h
  unfold g52_0
  by_cases b0 : (g74_0 x0.1 1 2000) = true
  · try simp only [if_pos b0] at h ⊢
    by_cases b1 : (g74_0 x0.2.1 100 15000) = true
    · try simp only [if_pos b1] at h ⊢
      by_cases b2 : (g74_0 x0.2.2.1 100 x0.2.1) = true
      · try simp only [if_pos b2] at h ⊢
        exact AtV.ret Tryz.func52 tabOk ext52Ok mixed false [] tys52 [true, true, true] (a1 trivial (a1 b0 (a1 trivial (a1 b1 (a1 trivial (a1 b2 (a1 trivial trivial))))))) (by kernel_rfl)
      · try simp only [if_neg b2] at h ⊢
        replace b2 := Bool.eq_false_iff.2 b2
        exact AtV.ret Tryz.func52 tabOk ext52Ok mixed false [] tys52 [true, true, false] (a1 trivial (a1 b0 (a1 trivial (a1 b1 (a1 trivial (a1 b2 trivial)))))) (by kernel_rfl)
    · try simp only [if_neg b1] at h ⊢
      replace b1 := Bool.eq_false_iff.2 b1
      exact AtV.ret Tryz.func52 tabOk ext52Ok mixed false [] tys52 [true, false, false] (a1 trivial (a1 b0 (a1 trivial (a1 b1 (a1 (rfl : false = false) trivial))))) (by kernel_rfl)
  · try simp only [if_neg b0] at h ⊢
    replace b0 := Bool.eq_false_iff.2 b0
    exact AtV.ret Tryz.func52 tabOk ext52Ok mixed false [] tys52 [false, false, false] (a1 trivial (a1 b0 (a1 (rfl : false = false) (a1 (rfl : false = false) trivial)))) (by kernel_rfl)
def S52 : Am.Spec := { sig := sig52, pre := fun ⟨x0, _⟩ => P52 x0, res := fun ⟨x0, _⟩ => [⟨Ty.bool, g52_0 x0⟩], kds := kds52 }
theorem con52 : Contract Tryz.prog 52 S52 := contract_of Tryz.func52 hb52 (Nat.le_of_ble_eq_true (by kernel_rfl)) (fun ⟨x0, _⟩ h _ K q => at52 x0 h K q)
end
noncomputable section
def ext121 : Ext := []
theorem ext121Ok : ExtOk Tryz.prog ext121 := trivial
noncomputable def b121 : Code := bodyOf Tryz.f121
theorem hb121 : Tryz.f121.body = some b121 := by kernel_rfl
def sig121 : List AT := [AT.v (Ty.int .u8)]
def tys121 : List Ty := [Ty.bool]
def kds121 : List RK := []
def oks121 : List AT := owns sig121
def P121 (x0 : Int) : Prop := True
def g121_0 (x0 : Int) : Bool := (if (decide (x0 ≥ 97)) = true then decide (x0 ≤ 122) else false)
theorem at121 (x0 : Int) (h : P121 x0) (K : Ctx) (q : Nat → Value) : AtV Tryz.prog 121 (PostR kds121 oks121 [⟨Ty.bool, g121_0 x0⟩] [] [] q K) 9 K q [] [.code b121] (entE 0 0 sig121 (x0, ())) (entL sig121 (x0, ())) := by
  unfold P121 at h
  unfold g121_0
  by_cases b0 : (decide (x0 ≥ 97)) = true
  · try simp only [if_pos b0] at h ⊢
    exact AtV.ret Tryz.func121 tabOk ext121Ok mixed false [] tys121 [true] (a1 b0 trivial) (by kernel_rfl)
  · try simp only [if_neg b0] at h ⊢
    replace b0 := Bool.eq_false_iff.2 b0
    exact AtV.ret Tryz.func121 tabOk ext121Ok mixed false [] tys121 [false] (a1 b0 trivial) (by kernel_rfl)
def S121 : Am.Spec := { sig := sig121, pre := fun ⟨x0, _⟩ => P121 x0, res := fun ⟨x0, _⟩ => [⟨Ty.bool, g121_0 x0⟩], kds := kds121 }
theorem con121 : Contract Tryz.prog 121 S121 := contract_of Tryz.func121 hb121 (Nat.le_of_ble_eq_true (by kernel_rfl)) (fun ⟨x0, _⟩ h _ K q => at121 x0 h K q)
end
noncomputable section
def ext122 : Ext := []
theorem ext122Ok : ExtOk Tryz.prog ext122 := trivial
noncomputable def b122 : Code := bodyOf Tryz.f122
theorem hb122 : Tryz.f122.body = some b122 := by kernel_rfl
def sig122 : List AT := [AT.v (Ty.int .u8)]
def tys122 : List Ty := [Ty.bool]
def kds122 : List RK := []
def oks122 : List AT := owns sig122
def P122 (x0 : Int) : Prop := True
def g122_0 (x0 : Int) : Bool := (if (decide (x0 ≥ 48)) = true then decide (x0 ≤ 57) else false)
theorem at122 (x0 : Int) (h : P122 x0) (K : Ctx) (q : Nat → Value) : AtV Tryz.prog 122 (PostR kds122 oks122 [⟨Ty.bool, g122_0 x0⟩] [] [] q K) 9 K q [] [.code b122] (entE 0 0 sig122 (x0, ())) (entL sig122 (x0, ())) := by
  unfold P122 at h
  unfold g122_0
  by_cases b0 : (decide (x0 ≥ 48)) = true
  · try simp only [if_pos b0] at h ⊢
    exact AtV.ret Tryz.func122 tabOk ext122Ok mixed false [] tys122 [true] (a1 b0 trivial) (by kernel_rfl)
  · try simp only [if_neg b0] at h ⊢
    replace b0 := Bool.eq_false_iff.2 b0
    exact AtV.ret Tryz.func122 tabOk ext122Ok mixed false [] tys122 [false] (a1 b0 trivial) (by kernel_rfl)
def S122 : Am.Spec := { sig := sig122, pre := fun ⟨x0, _⟩ => P122 x0, res := fun ⟨x0, _⟩ => [⟨Ty.bool, g122_0 x0⟩], kds := kds122 }
theorem con122 : Contract Tryz.prog 122 S122 := contract_of Tryz.func122 hb122 (Nat.le_of_ble_eq_true (by kernel_rfl)) (fun ⟨x0, _⟩ h _ K q => at122 x0 h K q)
end
noncomputable section
def ext99 : Ext := [(121, S121), (122, S122)]
theorem ext99Ok : ExtOk Tryz.prog ext99 := ⟨⟨ca121, con121⟩, ⟨ca122, con122⟩, trivial⟩
noncomputable def b99 : Code := bodyOf Tryz.f99
theorem hb99 : Tryz.f99.body = some b99 := by kernel_rfl
def sig99 : List AT := [AT.v (Ty.str)]
def tys99 : List Ty := [Ty.bool]
def kds99 : List RK := []
def oks99 : List AT := owns sig99
def E99_4 (v3 : Int) (x0 : ByteArray) : Env := [(0, PV.a (Atom.val (Value.string x0))), (3, PV.a (Atom.val (Value.int .i64 v3)))]
def L99_4 (v3 : Int) (x0 : ByteArray) : Heap := []
mutual
def R99 : Nat → ByteArray → List Dyn → Prop
  | 0, _, _ => False
  | n + 1, x0, ds => (if (ByteArray.toList x0 == ByteArray.toList (ByteArray.mk #[])) = true then (ds = [Dyn.mk Ty.bool false]) else (if (decide ((↑(ByteArray.size x0) : Int) > 10)) = true then (ds = [Dyn.mk Ty.bool false]) else ((0 < (↑(ByteArray.size x0) : Int)) ∧ (if (!g121_0 (↑(UInt8.toNat (List.getD (Array.toList (ByteArray.data x0)) 0 0)) : Int)) = true then (ds = [Dyn.mk Ty.bool false]) else (R99_4 n (0) (x0) ds)))))
def R99_4 : Nat → Int → ByteArray → List Dyn → Prop
  | 0, _, _, _ => False
  | n + 1, v3, x0, ds => (if (decide (v3 < (↑(ByteArray.size x0) : Int))) = true then ((0 ≤ v3) ∧ (v3 < (↑(ByteArray.size x0) : Int)) ∧ (if (!g121_0 (↑(UInt8.toNat (List.getD (Array.toList (ByteArray.data x0)) (Int.toNat v3) 0)) : Int)) = true then ((0 ≤ v3) ∧ (v3 < (↑(ByteArray.size x0) : Int)) ∧ (if (!g122_0 (↑(UInt8.toNat (List.getD (Array.toList (ByteArray.data x0)) (Int.toNat v3) 0)) : Int)) = true then (ds = [Dyn.mk Ty.bool false]) else ((InR .i64 (v3 + 1)) ∧ (R99_4 n (v3 + 1) (x0) ds)))) else ((InR .i64 (v3 + 1)) ∧ (R99_4 n (v3 + 1) (x0) ds)))) else (ds = [Dyn.mk Ty.bool true]))
end
theorem snd99 : ∀ n, (∀ (x0 : ByteArray) ds, R99 n x0 ds → ∀ K q, AtV Tryz.prog 99 (PostR kds99 oks99 ds [] [] q K) 35 K q [] [.code b99] (entE 0 0 sig99 (x0, ())) (entL sig99 (x0, ()))) ∧ (∀ (v3 : Int) (x0 : ByteArray) ds, R99_4 n v3 x0 ds → ∀ K q, AtV Tryz.prog 99 (PostR kds99 oks99 ds [] [] q K) 35 K q [] (cutAt b99 4) (E99_4 v3 x0) (L99_4 v3 x0)) := by
  intro n
  induction n with
  | zero => exact ⟨fun _ _ h => by simp only [R99] at h, fun _ _ _ h => by simp only [R99_4] at h⟩
  | succ n ih =>
  obtain ⟨ih, ih4⟩ := ih
  refine ⟨?_, ?_⟩
  · intro x0 ds h K q
    rw [R99] at h
    by_cases b0 : (ByteArray.toList x0 == ByteArray.toList (ByteArray.mk #[])) = true
    · rw [if_pos b0] at h
      subst h
      exact AtV.ret Tryz.func99 tabOk ext99Ok mixed false [] tys99 [true, true, true] (a1 b0 (a1 (rfl : true = true) (a1 (rfl : true = true) trivial))) (by kernel_rfl)
    · rw [if_neg b0] at h
      replace b0 := Bool.eq_false_iff.2 b0
      by_cases b1 : (decide ((↑(ByteArray.size x0) : Int) > 10)) = true
      · rw [if_pos b1] at h
        subst h
        exact AtV.ret Tryz.func99 tabOk ext99Ok mixed false [] tys99 [false, true, true] (a1 b0 (a1 b1 (a1 (rfl : true = true) trivial))) (by kernel_rfl)
      · rw [if_neg b1] at h
        replace b1 := Bool.eq_false_iff.2 b1
        obtain ⟨s0, h⟩ := h
        by_cases b2 : (!g121_0 (↑(UInt8.toNat (List.getD (Array.toList (ByteArray.data x0)) 0 0)) : Int)) = true
        · rw [if_pos b2] at h
          subst h
          exact AtV.ret Tryz.func99 tabOk ext99Ok mixed false [] tys99 [false, false, true] (a1 b0 (a1 b1 (a1 ((by decide) : (0 : Int) ≤ (0 : Int)) (a1 s0 (a1 trivial (a1 b2 trivial)))))) (by kernel_rfl)
        · rw [if_neg b2] at h
          replace b2 := Bool.eq_false_iff.2 b2
          exact AtV.go tabOk ext99Ok mixed false [] [] [0, 3] [] [false, false, false] (a1 b0 (a1 b1 (a1 ((by decide) : (0 : Int) ≤ (0 : Int)) (a1 s0 (a1 trivial (a1 b2 trivial)))))) (ih4 _ _ _ h K q) (by kernel_rfl)
  · intro v3 x0 ds h K q
    rw [R99_4] at h
    by_cases b0 : (decide (v3 < (↑(ByteArray.size x0) : Int))) = true
    · rw [if_pos b0] at h
      obtain ⟨s0, s1, h⟩ := h
      by_cases b1 : (!g121_0 (↑(UInt8.toNat (List.getD (Array.toList (ByteArray.data x0)) (Int.toNat v3) 0)) : Int)) = true
      · rw [if_pos b1] at h
        obtain ⟨s2, s3, h⟩ := h
        by_cases b2 : (!g122_0 (↑(UInt8.toNat (List.getD (Array.toList (ByteArray.data x0)) (Int.toNat v3) 0)) : Int)) = true
        · rw [if_pos b2] at h
          subst h
          exact AtV.ret Tryz.func99 tabOk ext99Ok mixed false [] tys99 [true, true, true] (a1 b0 (a1 s0 (a1 s1 (a1 trivial (a1 b1 (a1 s2 (a1 s3 (a1 trivial (a1 b2 trivial))))))))) (by kernel_rfl)
        · rw [if_neg b2] at h
          replace b2 := Bool.eq_false_iff.2 b2
          obtain ⟨s4, h⟩ := h
          exact AtV.go tabOk ext99Ok mixed false [] [] [0, 3] [] [true, true, false] (a1 b0 (a1 s0 (a1 s1 (a1 trivial (a1 b1 (a1 s2 (a1 s3 (a1 trivial (a1 b2 (a1 s4 trivial)))))))))) (ih4 _ _ _ h K q) (by kernel_rfl)
      · rw [if_neg b1] at h
        replace b1 := Bool.eq_false_iff.2 b1
        obtain ⟨s2, h⟩ := h
        exact AtV.go tabOk ext99Ok mixed false [] [] [0, 3] [] [true, false, false] (a1 b0 (a1 s0 (a1 s1 (a1 trivial (a1 b1 (a1 (rfl : false = false) (a1 s2 trivial))))))) (ih4 _ _ _ h K q) (by kernel_rfl)
    · rw [if_neg b0] at h
      replace b0 := Bool.eq_false_iff.2 b0
      subst h
      exact AtV.ret Tryz.func99 tabOk ext99Ok mixed false [] tys99 [false] (a1 b0 trivial) (by kernel_rfl)
def g99_0 (x0 : ByteArray) : Bool := decide (1 ≤ x0.size) && decide (x0.size ≤ 10) && g121_0 ((bytesOf x0).getD 0 0) && (bytesOf x0).all fun b => g121_0 b || g122_0 b
def P99 (x0 : ByteArray) : Prop := True
theorem top99 (x0 : ByteArray) (hw : Wf .str x0) : R99 (x0.size + 1 + 1) x0 [⟨.bool, g99_0 x0⟩] := by
  have hl := bytesOf_length x0
  rw [R99]
  by_cases h0 : x0 = ByteArray.mk #[]
  · rw [if_pos ((bytes_eq _ _).2 h0)]
    subst h0
    rfl
  · rw [if_neg (fun h => h0 ((bytes_eq _ _).1 h))]
    have hs : 1 ≤ x0.size := by
      rcases Nat.lt_or_ge 0 x0.size with h | h
      · exact h
      · exact absurd (bytesOf_inj (s := x0) (t := ByteArray.mk #[]) (List.eq_nil_of_length_eq_zero (by rw [hl]; omega))) h0
    by_cases h1 : (x0.size : Int) > 10
    · rw [if_pos (by simpa using h1)]
      have : ¬ x0.size ≤ 10 := by omega
      simp [g99_0, this]
    · rw [if_neg (by simpa using h1)]
      refine ⟨by omega, ?_⟩
      rw [byte_get]
      cases h2 : g121_0 ((bytesOf x0).getD 0 0) with
      | false =>
        rw [if_pos (by simp)]
        simp [g99_0, h2, -List.getD_eq_getElem?_getD]
      | true =>
        rw [if_neg (by simp)]
        have key := loop_test (bytesOf x0) 0 (fun b => g121_0 b || g122_0 b) [(⟨.bool, false⟩ : Dyn)] [⟨.bool, true⟩] (fun n i ds => R99_4 n i x0 ds) (fun n => ?_) (fun n i hi hok ds hr => ?_) (fun n i hi hok => ?_)
        · rw [hl] at key
          have e : g99_0 x0 = (bytesOf x0).all fun b => g121_0 b || g122_0 b := by
            have : x0.size ≤ 10 := by omega
            unfold g99_0
            simp only [hs, this, decide_true, Bool.true_and, h2]
          rw [e]
          cases h : (bytesOf x0).all fun b => g121_0 b || g122_0 b with
          | true => rw [if_pos h] at key; exact key
          | false => rw [if_neg (by rw [h]; simp)] at key; exact key
        · show R99_4 (n + 1) ((bytesOf x0).length : Int) x0 _
          rw [R99_4, hl, if_neg (by simp)]
        · rw [R99_4, if_pos (by simp; omega)]
          simp only [Int.toNat_natCast, byte_get]
          generalize (bytesOf x0).getD i 0 = c at *
          refine ⟨by omega, by omega, ?_⟩
          have hu := inR_up (xs := bytesOf x0) (by rw [hl]; exact hw) hi
          cases h3 : g121_0 c with
          | true => rw [if_neg (by simp)]; exact ⟨hu, hr⟩
          | false =>
            rw [if_pos (by simp)]
            rw [h3, Bool.false_or] at hok
            refine ⟨by omega, by omega, ?_⟩
            rw [if_neg (by rw [hok]; simp)]
            exact ⟨hu, hr⟩
        · simp only [Bool.or_eq_false_iff] at hok
          rw [R99_4, if_pos (by simp; omega)]
          simp only [Int.toNat_natCast, byte_get]
          refine ⟨by omega, by omega, ?_⟩
          rw [if_pos (by rw [hok.1]; rfl)]
          refine ⟨by omega, by omega, ?_⟩
          rw [if_pos (by rw [hok.2]; rfl)] <;> trivial
def S99 : Am.Spec := { sig := sig99, pre := fun ⟨x0, _⟩ => P99 x0, res := fun ⟨x0, _⟩ => [⟨Ty.bool, g99_0 x0⟩] }
theorem con99 : Contract Tryz.prog 99 S99 := contract_of Tryz.func99 hb99 (Nat.le_of_ble_eq_true (by kernel_rfl)) (fun ⟨x0, _⟩ h hwf K q =>
  (snd99 _).1 x0 _ (top99 x0 hwf.1) K q)
end
noncomputable section
def ext76 : Ext := [(99, S99), (74, S74)]
theorem ext76Ok : ExtOk Tryz.prog ext76 := ⟨⟨ca99, con99⟩, ⟨ca74, con74⟩, trivial⟩
noncomputable def b76 : Code := bodyOf Tryz.f76
theorem hb76 : Tryz.f76.body = some b76 := by kernel_rfl
def sig76 : List AT := [AT.p YA5]
def tys76 : List Ty := [Ty.bool]
def kds76 : List RK := []
def oks76 : List AT := owns sig76
def P76 (x0 : ByteArray × Int × Int × Int × Unit) : Prop := True
def g76_0 (x0 : ByteArray × Int × Int × Int × Unit) : Bool := (if (g99_0 x0.1) = true then (if (g74_0 x0.2.1 1 200) = true then (if (g74_0 x0.2.2.1 0 40) = true then g74_0 x0.2.2.2.1 0 100000 else false) else false) else false)
theorem at76 (x0 : ByteArray × Int × Int × Int × Unit) (h : P76 x0) (K : Ctx) (q : Nat → Value) : AtV Tryz.prog 76 (PostR kds76 oks76 [⟨Ty.bool, g76_0 x0⟩] [] [] q K) 29 K q [] [.code b76] (entE 0 0 sig76 (x0, ())) (entL sig76 (x0, ())) := by
  unfold P76 at h
  unfold g76_0
  by_cases b0 : (g99_0 x0.1) = true
  · try simp only [if_pos b0] at h ⊢
    by_cases b1 : (g74_0 x0.2.1 1 200) = true
    · try simp only [if_pos b1] at h ⊢
      by_cases b2 : (g74_0 x0.2.2.1 0 40) = true
      · try simp only [if_pos b2] at h ⊢
        exact AtV.ret Tryz.func76 tabOk ext76Ok mixed false [] tys76 [true, true, true] (a1 trivial (a1 b0 (a1 trivial (a1 b1 (a1 trivial (a1 b2 (a1 trivial trivial))))))) (by kernel_rfl)
      · try simp only [if_neg b2] at h ⊢
        replace b2 := Bool.eq_false_iff.2 b2
        exact AtV.ret Tryz.func76 tabOk ext76Ok mixed false [] tys76 [true, true, false] (a1 trivial (a1 b0 (a1 trivial (a1 b1 (a1 trivial (a1 b2 trivial)))))) (by kernel_rfl)
    · try simp only [if_neg b1] at h ⊢
      replace b1 := Bool.eq_false_iff.2 b1
      exact AtV.ret Tryz.func76 tabOk ext76Ok mixed false [] tys76 [true, false, false] (a1 trivial (a1 b0 (a1 trivial (a1 b1 (a1 (rfl : false = false) trivial))))) (by kernel_rfl)
  · try simp only [if_neg b0] at h ⊢
    replace b0 := Bool.eq_false_iff.2 b0
    exact AtV.ret Tryz.func76 tabOk ext76Ok mixed false [] tys76 [false, false, false] (a1 trivial (a1 b0 (a1 (rfl : false = false) (a1 (rfl : false = false) trivial)))) (by kernel_rfl)
def S76 : Am.Spec := { sig := sig76, pre := fun ⟨x0, _⟩ => P76 x0, res := fun ⟨x0, _⟩ => [⟨Ty.bool, g76_0 x0⟩], kds := kds76 }
theorem con76 : Contract Tryz.prog 76 S76 := contract_of Tryz.func76 hb76 (Nat.le_of_ble_eq_true (by kernel_rfl)) (fun ⟨x0, _⟩ h _ K q => at76 x0 h K q)
end
noncomputable section
def ext53 : Ext := [(76, S76)]
theorem ext53Ok : ExtOk Tryz.prog ext53 := ⟨⟨ca76, con76⟩, trivial⟩
noncomputable def b53 : Code := bodyOf Tryz.f53
theorem hb53 : Tryz.f53.body = some b53 := by kernel_rfl
def sig53 : List AT := [AT.v (Ty.sl YA5)]
def tys53 : List Ty := [Ty.bool]
def kds53 : List RK := []
def oks53 : List AT := owns sig53
def E53_2 (v3 : Int) (x0 : List TyB1) : Env := [(0, PV.a (Atom.sl YA5 x0)), (3, PV.a (Atom.val (Value.int .i64 v3)))]
def L53_2 (v3 : Int) (x0 : List TyB1) : Heap := []
mutual
def R53 : Nat → List TyB1 → List Dyn → Prop
  | 0, _, _ => False
  | n + 1, x0, ds => (R53_2 n (0) (x0) ds)
def R53_2 : Nat → Int → List TyB1 → List Dyn → Prop
  | 0, _, _, _ => False
  | n + 1, v3, x0, ds => (if (decide (v3 < (↑(List.length x0) : Int))) = true then ((0 ≤ v3) ∧ (v3 < (↑(List.length x0) : Int)) ∧ (if (!g76_0 (List.getD x0 (Int.toNat v3) (ByteArray.empty, 0, 0, 0, ()))) = true then (ds = [Dyn.mk Ty.bool false]) else (if (decide (v3 > 0)) = true then ((InR .i64 (v3 - 1)) ∧ ((0 ≤ v3 - 1) ∧ (v3 - 1 < (↑(List.length x0) : Int)) ∧ ((0 ≤ v3) ∧ (v3 < (↑(List.length x0) : Int)) ∧ (if (!Op.bytesLess (ByteArray.toList (List.getD x0 (Int.toNat (v3 - 1)) (ByteArray.empty, 0, 0, 0, ())).1) (ByteArray.toList (List.getD x0 (Int.toNat v3) (ByteArray.empty, 0, 0, 0, ())).1)) = true then (ds = [Dyn.mk Ty.bool false]) else ((InR .i64 (v3 + 1)) ∧ (R53_2 n (v3 + 1) (x0) ds)))))) else ((InR .i64 (v3 + 1)) ∧ (R53_2 n (v3 + 1) (x0) ds))))) else (ds = [Dyn.mk Ty.bool (decide ((↑(List.length x0) : Int) ≤ 12))]))
end
theorem snd53 : ∀ n, (∀ (x0 : List TyB1) ds, R53 n x0 ds → ∀ K q, AtV Tryz.prog 53 (PostR kds53 oks53 ds [] [] q K) 36 K q [] [.code b53] (entE 0 0 sig53 (x0, ())) (entL sig53 (x0, ()))) ∧ (∀ (v3 : Int) (x0 : List TyB1) ds, R53_2 n v3 x0 ds → ∀ K q, AtV Tryz.prog 53 (PostR kds53 oks53 ds [] [] q K) 36 K q [] (cutAt b53 2) (E53_2 v3 x0) (L53_2 v3 x0)) := by
  intro n
  induction n with
  | zero => exact ⟨fun _ _ h => by simp only [R53] at h, fun _ _ _ h => by simp only [R53_2] at h⟩
  | succ n ih =>
  obtain ⟨ih, ih2⟩ := ih
  refine ⟨?_, ?_⟩
  · intro x0 ds h K q
    rw [R53] at h
    exact AtV.go tabOk ext53Ok mixed false [] [] [0, 3] [] [] trivial (ih2 _ _ _ h K q) (by kernel_rfl)
  · intro v3 x0 ds h K q
    rw [R53_2] at h
    by_cases b0 : (decide (v3 < (↑(List.length x0) : Int))) = true
    · rw [if_pos b0] at h
      obtain ⟨s0, s1, h⟩ := h
      by_cases b1 : (!g76_0 (List.getD x0 (Int.toNat v3) (ByteArray.empty, 0, 0, 0, ()))) = true
      · rw [if_pos b1] at h
        subst h
        exact AtV.ret Tryz.func53 tabOk ext53Ok mixed false [] tys53 [true, true, true] (a1 b0 (a1 s0 (a1 s1 (a1 trivial (a1 b1 (a1 (rfl : true = true) trivial)))))) (by kernel_rfl)
      · rw [if_neg b1] at h
        replace b1 := Bool.eq_false_iff.2 b1
        by_cases b2 : (decide (v3 > 0)) = true
        · rw [if_pos b2] at h
          obtain ⟨s2, h⟩ := h
          obtain ⟨s3, s4, h⟩ := h
          obtain ⟨s5, s6, h⟩ := h
          by_cases b3 : (!Op.bytesLess (ByteArray.toList (List.getD x0 (Int.toNat (v3 - 1)) (ByteArray.empty, 0, 0, 0, ())).1) (ByteArray.toList (List.getD x0 (Int.toNat v3) (ByteArray.empty, 0, 0, 0, ())).1)) = true
          · rw [if_pos b3] at h
            subst h
            exact AtV.ret Tryz.func53 tabOk ext53Ok mixed false [] tys53 [true, false, true, true] (a1 b0 (a1 s0 (a1 s1 (a1 trivial (a1 b1 (a1 b2 (a1 s2 (a1 s3 (a1 s4 (a1 s5 (a1 s6 (a1 b3 trivial)))))))))))) (by kernel_rfl)
          · rw [if_neg b3] at h
            replace b3 := Bool.eq_false_iff.2 b3
            obtain ⟨s7, h⟩ := h
            exact AtV.go tabOk ext53Ok mixed false [] [] [0, 3] [] [true, false, true, false] (a1 b0 (a1 s0 (a1 s1 (a1 trivial (a1 b1 (a1 b2 (a1 s2 (a1 s3 (a1 s4 (a1 s5 (a1 s6 (a1 b3 (a1 s7 trivial))))))))))))) (ih2 _ _ _ h K q) (by kernel_rfl)
        · rw [if_neg b2] at h
          replace b2 := Bool.eq_false_iff.2 b2
          obtain ⟨s2, h⟩ := h
          exact AtV.go tabOk ext53Ok mixed false [] [] [0, 3] [] [true, false, false, false] (a1 b0 (a1 s0 (a1 s1 (a1 trivial (a1 b1 (a1 b2 (a1 (rfl : false = false) (a1 s2 trivial)))))))) (ih2 _ _ _ h K q) (by kernel_rfl)
    · rw [if_neg b0] at h
      replace b0 := Bool.eq_false_iff.2 b0
      subst h
      exact AtV.ret Tryz.func53 tabOk ext53Ok mixed false [] tys53 [false] (a1 b0 trivial) (by kernel_rfl)
def ok53 (x0 : List TyB1) (i : Nat) (x : TyB1) : Bool :=
  g76_0 x && (i == 0 || Op.bytesLess (ByteArray.toList (x0.getD (i - 1) (ByteArray.empty, (0 : Int), (0 : Int), (0 : Int), ())).1) (ByteArray.toList x.1))
def g53_0 (x0 : List TyB1) : Bool := allI (ok53 x0) 0 x0 && decide (x0.length ≤ 12)
def P53 (x0 : List TyB1) : Prop := True
theorem step53 (n i : Nat) (x0 : List TyB1) (hm : x0.length ≤ maxLen) (hi : i < x0.length) (ds : List Dyn) :
    (if ok53 x0 i (x0.getD i (ByteArray.empty, (0 : Int), (0 : Int), (0 : Int), ())) = true then R53_2 n ((i : Int) + 1) x0 ds else ds = [⟨.bool, false⟩]) → R53_2 (n + 1) (i : Int) x0 ds := by
  intro h
  have hu := inR_up hm hi
  rw [R53_2, if_pos (by simp; omega)]
  refine ⟨by omega, by omega, ?_⟩
  simp only [Int.toNat_natCast]
  unfold ok53 at h
  cases h1 : g76_0 (x0.getD i (ByteArray.empty, (0 : Int), (0 : Int), (0 : Int), ())) with
  | false =>
    rw [h1] at h
    rw [if_pos (by rfl)]
    simpa using h
  | true =>
    rw [h1] at h
    rw [if_neg (by simp)]
    by_cases h0 : (i : Int) > 0
    · rw [if_pos (by simpa using h0)]
      have hi0 : (i == 0) = false := by simp; omega
      have e : ((i : Int) - 1).toNat = i - 1 := by omega
      refine ⟨by rw [i64_iff]; have : maxLen ≤ 9223372036854775807 := by decide
                 omega, by omega, by omega, by omega, by omega, ?_⟩
      rw [e]
      by_cases h2 : Op.bytesLess (ByteArray.toList (x0.getD (i - 1) (ByteArray.empty, (0 : Int), (0 : Int), (0 : Int), ())).1) (ByteArray.toList (x0.getD i (ByteArray.empty, (0 : Int), (0 : Int), (0 : Int), ())).1) = true
      · rw [h2, hi0] at h
        rw [if_neg (by rw [h2]; simp)]
        exact ⟨hu, by simpa using h⟩
      · have h2 := Bool.eq_false_iff.2 h2
        rw [h2, hi0] at h
        rw [if_pos (by rw [h2]; rfl)]
        simpa using h
    · rw [if_neg (by simpa using h0)]
      have hi0 : (i == 0) = true := by simp; omega
      rw [hi0] at h
      exact ⟨hu, by simpa using h⟩
theorem top53 (x0 : List TyB1) (hw : x0.length ≤ maxLen) : R53 (x0.length + 1 + 1) x0 [⟨.bool, g53_0 x0⟩] := by
  rw [R53]
  have key := loop_testI x0 (ByteArray.empty, (0 : Int), (0 : Int), (0 : Int), ()) (ok53 x0) [(⟨.bool, false⟩ : Dyn)] [⟨.bool, decide (x0.length ≤ 12)⟩] (fun n i ds => R53_2 n i x0 ds) (fun n => ?_) (fun n i hi hok ds hr => ?_) (fun n i hi hok => ?_)
  · unfold g53_0
    cases h : allI (ok53 x0) 0 x0 with
    | true => rw [if_pos h] at key; simpa using key
    | false => rw [if_neg (by rw [h]; simp)] at key; simpa using key
  · rw [R53_2, if_neg (by simp)]
    have hc : decide ((x0.length : Int) ≤ 12) = decide (x0.length ≤ 12) := by
      congr 1; exact propext ⟨fun h => by omega, fun h => by omega⟩
    rw [hc]
  · exact step53 n i x0 hw hi ds (by rw [if_pos hok]; exact hr)
  · exact step53 n i x0 hw hi _ (by rw [if_neg (by rw [hok]; simp)])
def S53 : Am.Spec := { sig := sig53, pre := fun ⟨x0, _⟩ => P53 x0, res := fun ⟨x0, _⟩ => [⟨Ty.bool, g53_0 x0⟩] }
theorem con53 : Contract Tryz.prog 53 S53 := contract_of Tryz.func53 hb53 (Nat.le_of_ble_eq_true (by kernel_rfl)) (fun ⟨x0, _⟩ h hwf K q =>
  (snd53 _).1 x0 _ (top53 x0 hwf.1.1) K q)
end
noncomputable section
def ext54 : Ext := [(74, S74)]
theorem ext54Ok : ExtOk Tryz.prog ext54 := ⟨⟨ca74, con74⟩, trivial⟩
noncomputable def b54 : Code := bodyOf Tryz.f54
theorem hb54 : Tryz.f54.body = some b54 := by kernel_rfl
def sig54 : List AT := [AT.p YA7]
def tys54 : List Ty := [Ty.bool]
def kds54 : List RK := []
def oks54 : List AT := owns sig54
def P54 (x0 : Int × Int × Int × Unit) : Prop := True
def g54_0 (x0 : Int × Int × Int × Unit) : Bool := (if (g74_0 x0.1 0 200) = true then (if (g74_0 x0.2.1 0 40) = true then g74_0 x0.2.2.1 0 100000 else false) else false)
theorem at54 (x0 : Int × Int × Int × Unit) (h : P54 x0) (K : Ctx) (q : Nat → Value) : AtV Tryz.prog 54 (PostR kds54 oks54 [⟨Ty.bool, g54_0 x0⟩] [] [] q K) 22 K q [] [.code b54] (entE 0 0 sig54 (x0, ())) (entL sig54 (x0, ())) := by
  unfold P54 at h
  unfold g54_0
  by_cases b0 : (g74_0 x0.1 0 200) = true
  · try simp only [if_pos b0] at h ⊢
    by_cases b1 : (g74_0 x0.2.1 0 40) = true
    · try simp only [if_pos b1] at h ⊢
      exact AtV.ret Tryz.func54 tabOk ext54Ok mixed false [] tys54 [true, true] (a1 trivial (a1 b0 (a1 trivial (a1 b1 (a1 trivial trivial))))) (by kernel_rfl)
    · try simp only [if_neg b1] at h ⊢
      replace b1 := Bool.eq_false_iff.2 b1
      exact AtV.ret Tryz.func54 tabOk ext54Ok mixed false [] tys54 [true, false] (a1 trivial (a1 b0 (a1 trivial (a1 b1 trivial)))) (by kernel_rfl)
  · try simp only [if_neg b0] at h ⊢
    replace b0 := Bool.eq_false_iff.2 b0
    exact AtV.ret Tryz.func54 tabOk ext54Ok mixed false [] tys54 [false, false] (a1 trivial (a1 b0 (a1 (rfl : false = false) trivial))) (by kernel_rfl)
def S54 : Am.Spec := { sig := sig54, pre := fun ⟨x0, _⟩ => P54 x0, res := fun ⟨x0, _⟩ => [⟨Ty.bool, g54_0 x0⟩], kds := kds54 }
theorem con54 : Contract Tryz.prog 54 S54 := contract_of Tryz.func54 hb54 (Nat.le_of_ble_eq_true (by kernel_rfl)) (fun ⟨x0, _⟩ h _ K q => at54 x0 h K q)
end
noncomputable section
def ext78 : Ext := [(74, S74)]
theorem ext78Ok : ExtOk Tryz.prog ext78 := ⟨⟨ca74, con74⟩, trivial⟩
noncomputable def b78 : Code := bodyOf Tryz.f78
theorem hb78 : Tryz.f78.body = some b78 := by kernel_rfl
def sig78 : List AT := [AT.v (Ty.int .i64)]
def tys78 : List Ty := [Ty.bool]
def kds78 : List RK := []
def oks78 : List AT := owns sig78
def P78 (x0 : Int) : Prop := True
def g78_0 (x0 : Int) : Bool := g74_0 x0 0 100000
theorem at78 (x0 : Int) (h : P78 x0) (K : Ctx) (q : Nat → Value) : AtV Tryz.prog 78 (PostR kds78 oks78 [⟨Ty.bool, g78_0 x0⟩] [] [] q K) 5 K q [] [.code b78] (entE 0 0 sig78 (x0, ())) (entL sig78 (x0, ())) := by
  unfold P78 at h
  unfold g78_0
  exact AtV.ret Tryz.func78 tabOk ext78Ok mixed false [] tys78 [] (a1 trivial trivial) (by kernel_rfl)
def S78 : Am.Spec := { sig := sig78, pre := fun ⟨x0, _⟩ => P78 x0, res := fun ⟨x0, _⟩ => [⟨Ty.bool, g78_0 x0⟩], kds := kds78 }
theorem con78 : Contract Tryz.prog 78 S78 := contract_of Tryz.func78 hb78 (Nat.le_of_ble_eq_true (by kernel_rfl)) (fun ⟨x0, _⟩ h _ K q => at78 x0 h K q)
end
noncomputable section
def ext79 : Ext := [(74, S74)]
theorem ext79Ok : ExtOk Tryz.prog ext79 := ⟨⟨ca74, con74⟩, trivial⟩
noncomputable def b79 : Code := bodyOf Tryz.f79
theorem hb79 : Tryz.f79.body = some b79 := by kernel_rfl
def sig79 : List AT := [AT.v (Ty.int .i64)]
def tys79 : List Ty := [Ty.bool]
def kds79 : List RK := []
def oks79 : List AT := owns sig79
def P79 (x0 : Int) : Prop := True
def g79_0 (x0 : Int) : Bool := g74_0 x0 0 1000000
theorem at79 (x0 : Int) (h : P79 x0) (K : Ctx) (q : Nat → Value) : AtV Tryz.prog 79 (PostR kds79 oks79 [⟨Ty.bool, g79_0 x0⟩] [] [] q K) 5 K q [] [.code b79] (entE 0 0 sig79 (x0, ())) (entL sig79 (x0, ())) := by
  unfold P79 at h
  unfold g79_0
  exact AtV.ret Tryz.func79 tabOk ext79Ok mixed false [] tys79 [] (a1 trivial trivial) (by kernel_rfl)
def S79 : Am.Spec := { sig := sig79, pre := fun ⟨x0, _⟩ => P79 x0, res := fun ⟨x0, _⟩ => [⟨Ty.bool, g79_0 x0⟩], kds := kds79 }
theorem con79 : Contract Tryz.prog 79 S79 := contract_of Tryz.func79 hb79 (Nat.le_of_ble_eq_true (by kernel_rfl)) (fun ⟨x0, _⟩ h _ K q => at79 x0 h K q)
end
noncomputable section
def ext100 : Ext := [(99, S99), (74, S74), (78, S78), (79, S79)]
theorem ext100Ok : ExtOk Tryz.prog ext100 := ⟨⟨ca99, con99⟩, ⟨ca74, con74⟩, ⟨ca78, con78⟩, ⟨ca79, con79⟩, trivial⟩
noncomputable def b100 : Code := bodyOf Tryz.f100
theorem hb100 : Tryz.f100.body = some b100 := by kernel_rfl
def sig100 : List AT := [AT.p YA3]
def tys100 : List Ty := [Ty.bool]
def kds100 : List RK := []
def oks100 : List AT := owns sig100
def P100 (x0 : ByteArray × Int × Int × Int × Int × Unit) : Prop := True
def g100_0 (x0 : ByteArray × Int × Int × Int × Int × Unit) : Bool := (if (g99_0 x0.1) = true then (if (g74_0 x0.2.1 1 100000) = true then (if (g74_0 x0.2.2.1 1 1000000) = true then (if (g78_0 x0.2.2.2.1) = true then g79_0 x0.2.2.2.2.1 else false) else false) else false) else false)
theorem at100 (x0 : ByteArray × Int × Int × Int × Int × Unit) (h : P100 x0) (K : Ctx) (q : Nat → Value) : AtV Tryz.prog 100 (PostR kds100 oks100 [⟨Ty.bool, g100_0 x0⟩] [] [] q K) 36 K q [] [.code b100] (entE 0 0 sig100 (x0, ())) (entL sig100 (x0, ())) := by
  unfold P100 at h
  unfold g100_0
  by_cases b0 : (g99_0 x0.1) = true
  · try simp only [if_pos b0] at h ⊢
    by_cases b1 : (g74_0 x0.2.1 1 100000) = true
    · try simp only [if_pos b1] at h ⊢
      by_cases b2 : (g74_0 x0.2.2.1 1 1000000) = true
      · try simp only [if_pos b2] at h ⊢
        by_cases b3 : (g78_0 x0.2.2.2.1) = true
        · try simp only [if_pos b3] at h ⊢
          exact AtV.ret Tryz.func100 tabOk ext100Ok mixed false [] tys100 [true, true, true, true] (a1 trivial (a1 b0 (a1 trivial (a1 b1 (a1 trivial (a1 b2 (a1 trivial (a1 b3 (a1 trivial trivial))))))))) (by kernel_rfl)
        · try simp only [if_neg b3] at h ⊢
          replace b3 := Bool.eq_false_iff.2 b3
          exact AtV.ret Tryz.func100 tabOk ext100Ok mixed false [] tys100 [true, true, true, false] (a1 trivial (a1 b0 (a1 trivial (a1 b1 (a1 trivial (a1 b2 (a1 trivial (a1 b3 trivial)))))))) (by kernel_rfl)
      · try simp only [if_neg b2] at h ⊢
        replace b2 := Bool.eq_false_iff.2 b2
        exact AtV.ret Tryz.func100 tabOk ext100Ok mixed false [] tys100 [true, true, false, false] (a1 trivial (a1 b0 (a1 trivial (a1 b1 (a1 trivial (a1 b2 (a1 (rfl : false = false) trivial))))))) (by kernel_rfl)
    · try simp only [if_neg b1] at h ⊢
      replace b1 := Bool.eq_false_iff.2 b1
      exact AtV.ret Tryz.func100 tabOk ext100Ok mixed false [] tys100 [true, false, false, false] (a1 trivial (a1 b0 (a1 trivial (a1 b1 (a1 (rfl : false = false) (a1 (rfl : false = false) trivial)))))) (by kernel_rfl)
  · try simp only [if_neg b0] at h ⊢
    replace b0 := Bool.eq_false_iff.2 b0
    exact AtV.ret Tryz.func100 tabOk ext100Ok mixed false [] tys100 [false, false, false, false] (a1 trivial (a1 b0 (a1 (rfl : false = false) (a1 (rfl : false = false) (a1 (rfl : false = false) trivial))))) (by kernel_rfl)
def S100 : Am.Spec := { sig := sig100, pre := fun ⟨x0, _⟩ => P100 x0, res := fun ⟨x0, _⟩ => [⟨Ty.bool, g100_0 x0⟩], kds := kds100 }
theorem con100 : Contract Tryz.prog 100 S100 := contract_of Tryz.func100 hb100 (Nat.le_of_ble_eq_true (by kernel_rfl)) (fun ⟨x0, _⟩ h _ K q => at100 x0 h K q)
end
noncomputable section
def ext77 : Ext := [(100, S100)]
theorem ext77Ok : ExtOk Tryz.prog ext77 := ⟨⟨ca100, con100⟩, trivial⟩
noncomputable def b77 : Code := bodyOf Tryz.f77
theorem hb77 : Tryz.f77.body = some b77 := by kernel_rfl
def sig77 : List AT := [AT.v (Ty.sl YA3)]
def tys77 : List Ty := [Ty.bool]
def kds77 : List RK := []
def oks77 : List AT := owns sig77
def E77_2 (v3 : Int) (x0 : List TyB0) : Env := [(0, PV.a (Atom.sl YA3 x0)), (3, PV.a (Atom.val (Value.int .i64 v3)))]
def L77_2 (v3 : Int) (x0 : List TyB0) : Heap := []
mutual
def R77 : Nat → List TyB0 → List Dyn → Prop
  | 0, _, _ => False
  | n + 1, x0, ds => (R77_2 n (0) (x0) ds)
def R77_2 : Nat → Int → List TyB0 → List Dyn → Prop
  | 0, _, _, _ => False
  | n + 1, v3, x0, ds => (if (decide (v3 < (↑(List.length x0) : Int))) = true then ((0 ≤ v3) ∧ (v3 < (↑(List.length x0) : Int)) ∧ (if (!g100_0 (List.getD x0 (Int.toNat v3) (ByteArray.empty, 0, 0, 0, 0, ()))) = true then (ds = [Dyn.mk Ty.bool false]) else (if (decide (v3 > 0)) = true then ((InR .i64 (v3 - 1)) ∧ ((0 ≤ v3 - 1) ∧ (v3 - 1 < (↑(List.length x0) : Int)) ∧ ((0 ≤ v3) ∧ (v3 < (↑(List.length x0) : Int)) ∧ (if (!Op.bytesLess (ByteArray.toList (List.getD x0 (Int.toNat (v3 - 1)) (ByteArray.empty, 0, 0, 0, 0, ())).1) (ByteArray.toList (List.getD x0 (Int.toNat v3) (ByteArray.empty, 0, 0, 0, 0, ())).1)) = true then (ds = [Dyn.mk Ty.bool false]) else ((InR .i64 (v3 + 1)) ∧ (R77_2 n (v3 + 1) (x0) ds)))))) else ((InR .i64 (v3 + 1)) ∧ (R77_2 n (v3 + 1) (x0) ds))))) else (ds = [Dyn.mk Ty.bool (decide ((↑(List.length x0) : Int) ≤ 16))]))
end
theorem snd77 : ∀ n, (∀ (x0 : List TyB0) ds, R77 n x0 ds → ∀ K q, AtV Tryz.prog 77 (PostR kds77 oks77 ds [] [] q K) 36 K q [] [.code b77] (entE 0 0 sig77 (x0, ())) (entL sig77 (x0, ()))) ∧ (∀ (v3 : Int) (x0 : List TyB0) ds, R77_2 n v3 x0 ds → ∀ K q, AtV Tryz.prog 77 (PostR kds77 oks77 ds [] [] q K) 36 K q [] (cutAt b77 2) (E77_2 v3 x0) (L77_2 v3 x0)) := by
  intro n
  induction n with
  | zero => exact ⟨fun _ _ h => by simp only [R77] at h, fun _ _ _ h => by simp only [R77_2] at h⟩
  | succ n ih =>
  obtain ⟨ih, ih2⟩ := ih
  refine ⟨?_, ?_⟩
  · intro x0 ds h K q
    rw [R77] at h
    exact AtV.go tabOk ext77Ok mixed false [] [] [0, 3] [] [] trivial (ih2 _ _ _ h K q) (by kernel_rfl)
  · intro v3 x0 ds h K q
    rw [R77_2] at h
    by_cases b0 : (decide (v3 < (↑(List.length x0) : Int))) = true
    · rw [if_pos b0] at h
      obtain ⟨s0, s1, h⟩ := h
      by_cases b1 : (!g100_0 (List.getD x0 (Int.toNat v3) (ByteArray.empty, 0, 0, 0, 0, ()))) = true
      · rw [if_pos b1] at h
        subst h
        exact AtV.ret Tryz.func77 tabOk ext77Ok mixed false [] tys77 [true, true, true] (a1 b0 (a1 s0 (a1 s1 (a1 trivial (a1 b1 (a1 (rfl : true = true) trivial)))))) (by kernel_rfl)
      · rw [if_neg b1] at h
        replace b1 := Bool.eq_false_iff.2 b1
        by_cases b2 : (decide (v3 > 0)) = true
        · rw [if_pos b2] at h
          obtain ⟨s2, h⟩ := h
          obtain ⟨s3, s4, h⟩ := h
          obtain ⟨s5, s6, h⟩ := h
          by_cases b3 : (!Op.bytesLess (ByteArray.toList (List.getD x0 (Int.toNat (v3 - 1)) (ByteArray.empty, 0, 0, 0, 0, ())).1) (ByteArray.toList (List.getD x0 (Int.toNat v3) (ByteArray.empty, 0, 0, 0, 0, ())).1)) = true
          · rw [if_pos b3] at h
            subst h
            exact AtV.ret Tryz.func77 tabOk ext77Ok mixed false [] tys77 [true, false, true, true] (a1 b0 (a1 s0 (a1 s1 (a1 trivial (a1 b1 (a1 b2 (a1 s2 (a1 s3 (a1 s4 (a1 s5 (a1 s6 (a1 b3 trivial)))))))))))) (by kernel_rfl)
          · rw [if_neg b3] at h
            replace b3 := Bool.eq_false_iff.2 b3
            obtain ⟨s7, h⟩ := h
            exact AtV.go tabOk ext77Ok mixed false [] [] [0, 3] [] [true, false, true, false] (a1 b0 (a1 s0 (a1 s1 (a1 trivial (a1 b1 (a1 b2 (a1 s2 (a1 s3 (a1 s4 (a1 s5 (a1 s6 (a1 b3 (a1 s7 trivial))))))))))))) (ih2 _ _ _ h K q) (by kernel_rfl)
        · rw [if_neg b2] at h
          replace b2 := Bool.eq_false_iff.2 b2
          obtain ⟨s2, h⟩ := h
          exact AtV.go tabOk ext77Ok mixed false [] [] [0, 3] [] [true, false, false, false] (a1 b0 (a1 s0 (a1 s1 (a1 trivial (a1 b1 (a1 b2 (a1 (rfl : false = false) (a1 s2 trivial)))))))) (ih2 _ _ _ h K q) (by kernel_rfl)
    · rw [if_neg b0] at h
      replace b0 := Bool.eq_false_iff.2 b0
      subst h
      exact AtV.ret Tryz.func77 tabOk ext77Ok mixed false [] tys77 [false] (a1 b0 trivial) (by kernel_rfl)
def ok77 (x0 : List TyB0) (i : Nat) (x : TyB0) : Bool :=
  g100_0 x && (i == 0 || Op.bytesLess (ByteArray.toList (x0.getD (i - 1) (ByteArray.empty, (0 : Int), (0 : Int), (0 : Int), (0 : Int), ())).1) (ByteArray.toList x.1))
def g77_0 (x0 : List TyB0) : Bool := allI (ok77 x0) 0 x0 && decide (x0.length ≤ 16)
def P77 (x0 : List TyB0) : Prop := True
theorem step77 (n i : Nat) (x0 : List TyB0) (hm : x0.length ≤ maxLen) (hi : i < x0.length) (ds : List Dyn) :
    (if ok77 x0 i (x0.getD i (ByteArray.empty, (0 : Int), (0 : Int), (0 : Int), (0 : Int), ())) = true then R77_2 n ((i : Int) + 1) x0 ds else ds = [⟨.bool, false⟩]) → R77_2 (n + 1) (i : Int) x0 ds := by
  intro h
  have hu := inR_up hm hi
  rw [R77_2, if_pos (by simp; omega)]
  refine ⟨by omega, by omega, ?_⟩
  simp only [Int.toNat_natCast]
  unfold ok77 at h
  cases h1 : g100_0 (x0.getD i (ByteArray.empty, (0 : Int), (0 : Int), (0 : Int), (0 : Int), ())) with
  | false =>
    rw [h1] at h
    rw [if_pos (by rfl)]
    simpa using h
  | true =>
    rw [h1] at h
    rw [if_neg (by simp)]
    by_cases h0 : (i : Int) > 0
    · rw [if_pos (by simpa using h0)]
      have hi0 : (i == 0) = false := by simp; omega
      have e : ((i : Int) - 1).toNat = i - 1 := by omega
      refine ⟨by rw [i64_iff]; have : maxLen ≤ 9223372036854775807 := by decide
                 omega, by omega, by omega, by omega, by omega, ?_⟩
      rw [e]
      by_cases h2 : Op.bytesLess (ByteArray.toList (x0.getD (i - 1) (ByteArray.empty, (0 : Int), (0 : Int), (0 : Int), (0 : Int), ())).1) (ByteArray.toList (x0.getD i (ByteArray.empty, (0 : Int), (0 : Int), (0 : Int), (0 : Int), ())).1) = true
      · rw [h2, hi0] at h
        rw [if_neg (by rw [h2]; simp)]
        exact ⟨hu, by simpa using h⟩
      · have h2 := Bool.eq_false_iff.2 h2
        rw [h2, hi0] at h
        rw [if_pos (by rw [h2]; rfl)]
        simpa using h
    · rw [if_neg (by simpa using h0)]
      have hi0 : (i == 0) = true := by simp; omega
      rw [hi0] at h
      exact ⟨hu, by simpa using h⟩
theorem top77 (x0 : List TyB0) (hw : x0.length ≤ maxLen) : R77 (x0.length + 1 + 1) x0 [⟨.bool, g77_0 x0⟩] := by
  rw [R77]
  have key := loop_testI x0 (ByteArray.empty, (0 : Int), (0 : Int), (0 : Int), (0 : Int), ()) (ok77 x0) [(⟨.bool, false⟩ : Dyn)] [⟨.bool, decide (x0.length ≤ 16)⟩] (fun n i ds => R77_2 n i x0 ds) (fun n => ?_) (fun n i hi hok ds hr => ?_) (fun n i hi hok => ?_)
  · unfold g77_0
    cases h : allI (ok77 x0) 0 x0 with
    | true => rw [if_pos h] at key; simpa using key
    | false => rw [if_neg (by rw [h]; simp)] at key; simpa using key
  · rw [R77_2, if_neg (by simp)]
    have hc : decide ((x0.length : Int) ≤ 16) = decide (x0.length ≤ 16) := by
      congr 1; exact propext ⟨fun h => by omega, fun h => by omega⟩
    rw [hc]
  · exact step77 n i x0 hw hi ds (by rw [if_pos hok]; exact hr)
  · exact step77 n i x0 hw hi _ (by rw [if_neg (by rw [hok]; simp)])
def S77 : Am.Spec := { sig := sig77, pre := fun ⟨x0, _⟩ => P77 x0, res := fun ⟨x0, _⟩ => [⟨Ty.bool, g77_0 x0⟩] }
theorem con77 : Contract Tryz.prog 77 S77 := contract_of Tryz.func77 hb77 (Nat.le_of_ble_eq_true (by kernel_rfl)) (fun ⟨x0, _⟩ h hwf K q =>
  (snd77 _).1 x0 _ (top77 x0 hwf.1.1) K q)
end
noncomputable section
def ext80 : Ext := []
theorem ext80Ok : ExtOk Tryz.prog ext80 := trivial
noncomputable def b80 : Code := bodyOf Tryz.f80
theorem hb80 : Tryz.f80.body = some b80 := by kernel_rfl
def sig80 : List AT := [AT.p YA3, AT.v (Ty.int .i64), AT.v (Ty.int .i64)]
def tys80 : List Ty := [Ty.bool]
def kds80 : List RK := []
def oks80 : List AT := owns sig80
def P80 (x0 : ByteArray × Int × Int × Int × Int × Unit) (x1 : Int) (x2 : Int) : Prop := True
def g80_0 (x0 : ByteArray × Int × Int × Int × Int × Unit) (x1 : Int) (x2 : Int) : Bool := (if (decide (x0.2.2.2.1 ≤ x1)) = true then decide (x0.2.2.2.2.1 ≤ x2) else false)
theorem at80 (x0 : ByteArray × Int × Int × Int × Int × Unit) (x1 : Int) (x2 : Int) (h : P80 x0 x1 x2) (K : Ctx) (q : Nat → Value) : AtV Tryz.prog 80 (PostR kds80 oks80 [⟨Ty.bool, g80_0 x0 x1 x2⟩] [] [] q K) 21 K q [] [.code b80] (entE 0 0 sig80 (x0, x1, x2, ())) (entL sig80 (x0, x1, x2, ())) := by
  unfold P80 at h
  unfold g80_0
  by_cases b0 : (decide (x0.2.2.2.1 ≤ x1)) = true
  · try simp only [if_pos b0] at h ⊢
    exact AtV.ret Tryz.func80 tabOk ext80Ok mixed false [] tys80 [true] (a1 b0 trivial) (by kernel_rfl)
  · try simp only [if_neg b0] at h ⊢
    replace b0 := Bool.eq_false_iff.2 b0
    exact AtV.ret Tryz.func80 tabOk ext80Ok mixed false [] tys80 [false] (a1 b0 trivial) (by kernel_rfl)
def S80 : Am.Spec := { sig := sig80, pre := fun ⟨x0, x1, x2, _⟩ => P80 x0 x1 x2, res := fun ⟨x0, x1, x2, _⟩ => [⟨Ty.bool, g80_0 x0 x1 x2⟩], kds := kds80 }
theorem con80 : Contract Tryz.prog 80 S80 := contract_of Tryz.func80 hb80 (Nat.le_of_ble_eq_true (by kernel_rfl)) (fun ⟨x0, x1, x2, _⟩ h _ K q => at80 x0 x1 x2 h K q)
end
noncomputable section
def ext55 : Ext := [(77, S77), (78, S78), (79, S79), (80, S80)]
theorem ext55Ok : ExtOk Tryz.prog ext55 := ⟨⟨ca77, con77⟩, ⟨ca78, con78⟩, ⟨ca79, con79⟩, ⟨ca80, con80⟩, trivial⟩
noncomputable def b55 : Code := bodyOf Tryz.f55
theorem hb55 : Tryz.f55.body = some b55 := by kernel_rfl
def sig55 : List AT := [AT.v (Ty.sl YA3), AT.v (Ty.int .i64), AT.v (Ty.int .i64)]
def tys55 : List Ty := [Ty.int .i64]
def kds55 : List RK := []
def oks55 : List AT := owns sig55
def E55_6 (v7 : Int) (x0 : List TyB0) (x1 : Int) (x2 : Int) : Env := [(0, PV.a (Atom.sl YA3 x0)), (1, PV.a (Atom.val (Value.int .i64 x1))), (2, PV.a (Atom.val (Value.int .i64 x2))), (7, PV.a (Atom.val (Value.int .i64 v7)))]
def L55_6 (v7 : Int) (x0 : List TyB0) (x1 : Int) (x2 : Int) : Heap := []
mutual
def R55 : Nat → List TyB0 → Int → Int → List Dyn → Prop
  | 0, _, _, _, _ => False
  | n + 1, x0, x1, x2, ds => (if (!g77_0 x0) = true then (ds = [Dyn.mk (Ty.int .i64) 1]) else (if (!g78_0 x1) = true then (ds = [Dyn.mk (Ty.int .i64) 2]) else (if (!g79_0 x2) = true then (ds = [Dyn.mk (Ty.int .i64) 2]) else (R55_6 n (0) (x0) (x1) (x2) ds))))
def R55_6 : Nat → Int → List TyB0 → Int → Int → List Dyn → Prop
  | 0, _, _, _, _, _ => False
  | n + 1, v7, x0, x1, x2, ds => (if (decide (v7 < (↑(List.length x0) : Int))) = true then ((0 ≤ v7) ∧ (v7 < (↑(List.length x0) : Int)) ∧ (if (!g80_0 (List.getD x0 (Int.toNat v7) (ByteArray.empty, 0, 0, 0, 0, ())) x1 x2) = true then (ds = [Dyn.mk (Ty.int .i64) 6]) else ((InR .i64 (v7 + 1)) ∧ (R55_6 n (v7 + 1) (x0) (x1) (x2) ds)))) else (ds = [Dyn.mk (Ty.int .i64) 0]))
end
theorem snd55 : ∀ n, (∀ (x0 : List TyB0) (x1 : Int) (x2 : Int) ds, R55 n x0 x1 x2 ds → ∀ K q, AtV Tryz.prog 55 (PostR kds55 oks55 ds [] [] q K) 32 K q [] [.code b55] (entE 0 0 sig55 (x0, x1, x2, ())) (entL sig55 (x0, x1, x2, ()))) ∧ (∀ (v7 : Int) (x0 : List TyB0) (x1 : Int) (x2 : Int) ds, R55_6 n v7 x0 x1 x2 ds → ∀ K q, AtV Tryz.prog 55 (PostR kds55 oks55 ds [] [] q K) 32 K q [] (cutAt b55 6) (E55_6 v7 x0 x1 x2) (L55_6 v7 x0 x1 x2)) := by
  intro n
  induction n with
  | zero => exact ⟨fun _ _ _ _ h => by simp only [R55] at h, fun _ _ _ _ _ h => by simp only [R55_6] at h⟩
  | succ n ih =>
  obtain ⟨ih, ih6⟩ := ih
  refine ⟨?_, ?_⟩
  · intro x0 x1 x2 ds h K q
    rw [R55] at h
    by_cases b0 : (!g77_0 x0) = true
    · rw [if_pos b0] at h
      subst h
      exact AtV.ret Tryz.func55 tabOk ext55Ok mixed false [] tys55 [true] (a1 trivial (a1 b0 trivial)) (by kernel_rfl)
    · rw [if_neg b0] at h
      replace b0 := Bool.eq_false_iff.2 b0
      by_cases b1 : (!g78_0 x1) = true
      · rw [if_pos b1] at h
        subst h
        exact AtV.ret Tryz.func55 tabOk ext55Ok mixed false [] tys55 [false, true, true] (a1 trivial (a1 b0 (a1 trivial (a1 b1 (a1 (rfl : true = true) trivial))))) (by kernel_rfl)
      · rw [if_neg b1] at h
        replace b1 := Bool.eq_false_iff.2 b1
        by_cases b2 : (!g79_0 x2) = true
        · rw [if_pos b2] at h
          subst h
          exact AtV.ret Tryz.func55 tabOk ext55Ok mixed false [] tys55 [false, false, true] (a1 trivial (a1 b0 (a1 trivial (a1 b1 (a1 trivial (a1 b2 trivial)))))) (by kernel_rfl)
        · rw [if_neg b2] at h
          replace b2 := Bool.eq_false_iff.2 b2
          exact AtV.go tabOk ext55Ok mixed false [] [] [0, 1, 2, 7] [] [false, false, false] (a1 trivial (a1 b0 (a1 trivial (a1 b1 (a1 trivial (a1 b2 trivial)))))) (ih6 _ _ _ _ _ h K q) (by kernel_rfl)
  · intro v7 x0 x1 x2 ds h K q
    rw [R55_6] at h
    by_cases b0 : (decide (v7 < (↑(List.length x0) : Int))) = true
    · rw [if_pos b0] at h
      obtain ⟨s0, s1, h⟩ := h
      by_cases b1 : (!g80_0 (List.getD x0 (Int.toNat v7) (ByteArray.empty, 0, 0, 0, 0, ())) x1 x2) = true
      · rw [if_pos b1] at h
        subst h
        exact AtV.ret Tryz.func55 tabOk ext55Ok mixed false [] tys55 [true, true] (a1 b0 (a1 s0 (a1 s1 (a1 trivial (a1 b1 trivial))))) (by kernel_rfl)
      · rw [if_neg b1] at h
        replace b1 := Bool.eq_false_iff.2 b1
        obtain ⟨s2, h⟩ := h
        exact AtV.go tabOk ext55Ok mixed false [] [] [0, 1, 2, 7] [] [true, false] (a1 b0 (a1 s0 (a1 s1 (a1 trivial (a1 b1 (a1 s2 trivial)))))) (ih6 _ _ _ _ _ h K q) (by kernel_rfl)
    · rw [if_neg b0] at h
      replace b0 := Bool.eq_false_iff.2 b0
      subst h
      exact AtV.ret Tryz.func55 tabOk ext55Ok mixed false [] tys55 [false] (a1 b0 trivial) (by kernel_rfl)
def q55 (x1 x2 : Int) (x : TyB0) : Bool := g80_0 x x1 x2
def g55_0 (x0 : List TyB0) (x1 x2 : Int) : Int := if g77_0 x0 = true then (if g78_0 x1 = true then (if g79_0 x2 = true then (if x0.all (q55 x1 x2) = true then 0 else 6) else 2) else 2) else 1
def P55 (x0 : List TyB0) (x1 x2 : Int) : Prop := True
theorem top55 (x0 : List TyB0) (x1 x2 : Int) (hm : x0.length ≤ maxLen) : R55 (x0.length + 1 + 1) x0 x1 x2 [⟨.int .i64, g55_0 x0 x1 x2⟩] := by
  rw [R55]
  unfold g55_0
  cases h0 : g77_0 x0 with
  | false => rw [if_pos (show (!false) = true from rfl), if_neg (by simp)]
  | true =>
  cases h1 : g78_0 x1 with
  | false => rw [if_neg (show ¬ (!true) = true by decide), if_pos (show (!false) = true from rfl), if_pos rfl, if_neg (by simp)]
  | true =>
  cases h2 : g79_0 x2 with
  | false => rw [if_neg (show ¬ (!true) = true by decide), if_neg (show ¬ (!true) = true by decide), if_pos (show (!false) = true from rfl), if_pos rfl, if_pos rfl, if_neg (by simp)]
  | true =>
  rw [if_neg (show ¬ (!true) = true by decide), if_neg (show ¬ (!true) = true by decide), if_neg (show ¬ (!true) = true by decide), if_pos rfl, if_pos rfl, if_pos rfl]
  have key := loop_test x0 (ByteArray.empty, (0 : Int), (0 : Int), (0 : Int), (0 : Int), ()) (q55 x1 x2) [(⟨.int .i64, 6⟩ : Dyn)] [⟨.int .i64, 0⟩] (fun n i ds => R55_6 n i x0 x1 x2 ds) (fun n => ?_) (fun n i hi hok ds hr => ?_) (fun n i hi hok => ?_)
  · cases h : x0.all (q55 x1 x2) <;> rw [h] at key <;> simpa using key
  · rw [R55_6, if_neg (by simp)]
  · rw [R55_6, if_pos (by simp; omega)]
    simp only [Int.toNat_natCast]
    unfold q55 at hok
    refine ⟨by omega, by omega, ?_⟩
    rw [if_neg (by rw [hok]; simp)]
    exact ⟨inR_up hm hi, hr⟩
  · rw [R55_6, if_pos (by simp; omega)]
    simp only [Int.toNat_natCast]
    unfold q55 at hok
    refine ⟨by omega, by omega, ?_⟩
    rw [if_pos (by rw [hok]; rfl)] <;> trivial
def S55 : Am.Spec := { sig := sig55, pre := fun ⟨x0, x1, x2, _⟩ => P55 x0 x1 x2, res := fun ⟨x0, x1, x2, _⟩ => [⟨.int .i64, g55_0 x0 x1 x2⟩] }
theorem con55 : Contract Tryz.prog 55 S55 := contract_of Tryz.func55 hb55 (Nat.le_of_ble_eq_true (by kernel_rfl)) (fun ⟨x0, x1, x2, _⟩ h hwf K q =>
  (snd55 _).1 x0 x1 x2 _ (top55 x0 x1 x2 hwf.1.1) K q)
end
noncomputable section
def ext82 : Ext := [(74, S74)]
theorem ext82Ok : ExtOk Tryz.prog ext82 := ⟨⟨ca74, con74⟩, trivial⟩
noncomputable def b82 : Code := bodyOf Tryz.f82
theorem hb82 : Tryz.f82.body = some b82 := by kernel_rfl
def sig82 : List AT := [AT.v (Ty.int .i64)]
def tys82 : List Ty := [Ty.bool]
def kds82 : List RK := []
def oks82 : List AT := owns sig82
def P82 (x0 : Int) : Prop := True
def g82_0 (x0 : Int) : Bool := g74_0 x0 0 1440
theorem at82 (x0 : Int) (h : P82 x0) (K : Ctx) (q : Nat → Value) : AtV Tryz.prog 82 (PostR kds82 oks82 [⟨Ty.bool, g82_0 x0⟩] [] [] q K) 5 K q [] [.code b82] (entE 0 0 sig82 (x0, ())) (entL sig82 (x0, ())) := by
  unfold P82 at h
  unfold g82_0
  exact AtV.ret Tryz.func82 tabOk ext82Ok mixed false [] tys82 [] (a1 trivial trivial) (by kernel_rfl)
def S82 : Am.Spec := { sig := sig82, pre := fun ⟨x0, _⟩ => P82 x0, res := fun ⟨x0, _⟩ => [⟨Ty.bool, g82_0 x0⟩], kds := kds82 }
theorem con82 : Contract Tryz.prog 82 S82 := contract_of Tryz.func82 hb82 (Nat.le_of_ble_eq_true (by kernel_rfl)) (fun ⟨x0, _⟩ h _ K q => at82 x0 h K q)
end
noncomputable section
def ext101 : Ext := [(82, S82), (74, S74)]
theorem ext101Ok : ExtOk Tryz.prog ext101 := ⟨⟨ca82, con82⟩, ⟨ca74, con74⟩, trivial⟩
noncomputable def b101 : Code := bodyOf Tryz.f101
theorem hb101 : Tryz.f101.body = some b101 := by kernel_rfl
def sig101 : List AT := [AT.p YA9]
def tys101 : List Ty := [Ty.bool]
def kds101 : List RK := []
def oks101 : List AT := owns sig101
def P101 (x0 : Int × Int × Unit) : Prop := (if (g82_0 x0.1) = true then (if (g74_0 x0.2.1 1 1440) = true then ((InR .i64 (x0.1 + x0.2.1)) ∧ True) else True) else True)
def g101_0 (x0 : Int × Int × Unit) : Bool := (if (g82_0 x0.1) = true then (if (g74_0 x0.2.1 1 1440) = true then decide (x0.1 + x0.2.1 ≤ 1440) else false) else false)
theorem at101 (x0 : Int × Int × Unit) (h : P101 x0) (K : Ctx) (q : Nat → Value) : AtV Tryz.prog 101 (PostR kds101 oks101 [⟨Ty.bool, g101_0 x0⟩] [] [] q K) 27 K q [] [.code b101] (entE 0 0 sig101 (x0, ())) (entL sig101 (x0, ())) := by
  unfold P101 at h
  unfold g101_0
  by_cases b0 : (g82_0 x0.1) = true
  · try simp only [if_pos b0] at h ⊢
    by_cases b1 : (g74_0 x0.2.1 1 1440) = true
    · try simp only [if_pos b1] at h ⊢
      obtain ⟨s0, h⟩ := h
      exact AtV.ret Tryz.func101 tabOk ext101Ok mixed false [] tys101 [true, true] (a1 trivial (a1 b0 (a1 trivial (a1 b1 (a1 s0 trivial))))) (by kernel_rfl)
    · try simp only [if_neg b1] at h ⊢
      replace b1 := Bool.eq_false_iff.2 b1
      exact AtV.ret Tryz.func101 tabOk ext101Ok mixed false [] tys101 [true, false] (a1 trivial (a1 b0 (a1 trivial (a1 b1 trivial)))) (by kernel_rfl)
  · try simp only [if_neg b0] at h ⊢
    replace b0 := Bool.eq_false_iff.2 b0
    exact AtV.ret Tryz.func101 tabOk ext101Ok mixed false [] tys101 [false, false] (a1 trivial (a1 b0 (a1 (rfl : false = false) trivial))) (by kernel_rfl)
def S101 : Am.Spec := { sig := sig101, pre := fun ⟨x0, _⟩ => P101 x0, res := fun ⟨x0, _⟩ => [⟨Ty.bool, g101_0 x0⟩], kds := kds101 }
theorem con101 : Contract Tryz.prog 101 S101 := contract_of Tryz.func101 hb101 (Nat.le_of_ble_eq_true (by kernel_rfl)) (fun ⟨x0, _⟩ h _ K q => at101 x0 h K q)
end
noncomputable section
def ext81 : Ext := [(101, S101)]
theorem ext81Ok : ExtOk Tryz.prog ext81 := ⟨⟨ca101, con101⟩, trivial⟩
noncomputable def b81 : Code := bodyOf Tryz.f81
theorem hb81 : Tryz.f81.body = some b81 := by kernel_rfl
def sig81 : List AT := [AT.v (Ty.sl YA9)]
def tys81 : List Ty := [Ty.bool]
def kds81 : List RK := []
def oks81 : List AT := owns sig81
def E81_2 (v3 : Int) (x0 : List TyB4) : Env := [(0, PV.a (Atom.sl YA9 x0)), (3, PV.a (Atom.val (Value.int .i64 v3)))]
def L81_2 (v3 : Int) (x0 : List TyB4) : Heap := []
mutual
def R81 : Nat → List TyB4 → List Dyn → Prop
  | 0, _, _ => False
  | n + 1, x0, ds => (R81_2 n (0) (x0) ds)
def R81_2 : Nat → Int → List TyB4 → List Dyn → Prop
  | 0, _, _, _ => False
  | n + 1, v3, x0, ds => (if (decide (v3 < (↑(List.length x0) : Int))) = true then ((0 ≤ v3) ∧ (v3 < (↑(List.length x0) : Int)) ∧ ((P101 (List.getD x0 (Int.toNat v3) (0, 0, ()))) ∧ (if (!g101_0 (List.getD x0 (Int.toNat v3) (0, 0, ()))) = true then (ds = [Dyn.mk Ty.bool false]) else (if (decide (v3 > 0)) = true then ((InR .i64 (v3 - 1)) ∧ ((0 ≤ v3 - 1) ∧ (v3 - 1 < (↑(List.length x0) : Int)) ∧ ((InR .i64 (v3 - 1)) ∧ ((0 ≤ v3 - 1) ∧ (v3 - 1 < (↑(List.length x0) : Int)) ∧ ((InR .i64 ((List.getD x0 (Int.toNat (v3 - 1)) (0, 0, ())).1 + (List.getD x0 (Int.toNat (v3 - 1)) (0, 0, ())).2.1)) ∧ ((0 ≤ v3) ∧ (v3 < (↑(List.length x0) : Int)) ∧ (if (decide ((List.getD x0 (Int.toNat (v3 - 1)) (0, 0, ())).1 + (List.getD x0 (Int.toNat (v3 - 1)) (0, 0, ())).2.1 > (List.getD x0 (Int.toNat v3) (0, 0, ())).1)) = true then (ds = [Dyn.mk Ty.bool false]) else ((InR .i64 (v3 + 1)) ∧ (R81_2 n (v3 + 1) (x0) ds))))))))) else ((InR .i64 (v3 + 1)) ∧ (R81_2 n (v3 + 1) (x0) ds)))))) else (ds = [Dyn.mk Ty.bool (decide ((↑(List.length x0) : Int) ≤ 24))]))
end
theorem snd81 : ∀ n, (∀ (x0 : List TyB4) ds, R81 n x0 ds → ∀ K q, AtV Tryz.prog 81 (PostR kds81 oks81 ds [] [] q K) 43 K q [] [.code b81] (entE 0 0 sig81 (x0, ())) (entL sig81 (x0, ()))) ∧ (∀ (v3 : Int) (x0 : List TyB4) ds, R81_2 n v3 x0 ds → ∀ K q, AtV Tryz.prog 81 (PostR kds81 oks81 ds [] [] q K) 43 K q [] (cutAt b81 2) (E81_2 v3 x0) (L81_2 v3 x0)) := by
  intro n
  induction n with
  | zero => exact ⟨fun _ _ h => by simp only [R81] at h, fun _ _ _ h => by simp only [R81_2] at h⟩
  | succ n ih =>
  obtain ⟨ih, ih2⟩ := ih
  refine ⟨?_, ?_⟩
  · intro x0 ds h K q
    rw [R81] at h
    exact AtV.go tabOk ext81Ok mixed false [] [] [0, 3] [] [] trivial (ih2 _ _ _ h K q) (by kernel_rfl)
  · intro v3 x0 ds h K q
    rw [R81_2] at h
    by_cases b0 : (decide (v3 < (↑(List.length x0) : Int))) = true
    · rw [if_pos b0] at h
      obtain ⟨s0, s1, h⟩ := h
      obtain ⟨s2, h⟩ := h
      by_cases b1 : (!g101_0 (List.getD x0 (Int.toNat v3) (0, 0, ()))) = true
      · rw [if_pos b1] at h
        subst h
        exact AtV.ret Tryz.func81 tabOk ext81Ok mixed false [] tys81 [true, true, true] (a1 b0 (a1 s0 (a1 s1 (a1 s2 (a1 b1 (a1 (rfl : true = true) trivial)))))) (by kernel_rfl)
      · rw [if_neg b1] at h
        replace b1 := Bool.eq_false_iff.2 b1
        by_cases b2 : (decide (v3 > 0)) = true
        · rw [if_pos b2] at h
          obtain ⟨s3, h⟩ := h
          obtain ⟨s4, s5, h⟩ := h
          obtain ⟨s6, h⟩ := h
          obtain ⟨s7, s8, h⟩ := h
          obtain ⟨s9, h⟩ := h
          obtain ⟨s10, s11, h⟩ := h
          by_cases b3 : (decide ((List.getD x0 (Int.toNat (v3 - 1)) (0, 0, ())).1 + (List.getD x0 (Int.toNat (v3 - 1)) (0, 0, ())).2.1 > (List.getD x0 (Int.toNat v3) (0, 0, ())).1)) = true
          · rw [if_pos b3] at h
            subst h
            exact AtV.ret Tryz.func81 tabOk ext81Ok mixed false [] tys81 [true, false, true, true] (a1 b0 (a1 s0 (a1 s1 (a1 s2 (a1 b1 (a1 b2 (a1 s3 (a1 s4 (a1 s5 (a1 s6 (a1 s7 (a1 s8 (a1 s9 (a1 s10 (a1 s11 (a1 b3 trivial)))))))))))))))) (by kernel_rfl)
          · rw [if_neg b3] at h
            replace b3 := Bool.eq_false_iff.2 b3
            obtain ⟨s12, h⟩ := h
            exact AtV.go tabOk ext81Ok mixed false [] [] [0, 3] [] [true, false, true, false] (a1 b0 (a1 s0 (a1 s1 (a1 s2 (a1 b1 (a1 b2 (a1 s3 (a1 s4 (a1 s5 (a1 s6 (a1 s7 (a1 s8 (a1 s9 (a1 s10 (a1 s11 (a1 b3 (a1 s12 trivial))))))))))))))))) (ih2 _ _ _ h K q) (by kernel_rfl)
        · rw [if_neg b2] at h
          replace b2 := Bool.eq_false_iff.2 b2
          obtain ⟨s3, h⟩ := h
          exact AtV.go tabOk ext81Ok mixed false [] [] [0, 3] [] [true, false, false, false] (a1 b0 (a1 s0 (a1 s1 (a1 s2 (a1 b1 (a1 b2 (a1 (rfl : false = false) (a1 s3 trivial)))))))) (ih2 _ _ _ h K q) (by kernel_rfl)
    · rw [if_neg b0] at h
      replace b0 := Bool.eq_false_iff.2 b0
      subst h
      exact AtV.ret Tryz.func81 tabOk ext81Ok mixed false [] tys81 [false] (a1 b0 trivial) (by kernel_rfl)
def one81 (x : TyB4) : Bool := g101_0 x
def ok81 (x0 : List TyB4) (i : Nat) (x : TyB4) : Bool := one81 x && (i == 0 || decide ((x0.getD (i - 1) ((0 : Int), (0 : Int), ())).1 + (x0.getD (i - 1) ((0 : Int), (0 : Int), ())).2.1 ≤ x.1))
def g81_0 (x0 : List TyB4) : Bool := allI (ok81 x0) 0 x0 && decide ((x0.length : Int) ≤ 24)
def P81 (x0 : List TyB4) : Prop := True
theorem in81 {x a b : Int} : g74_0 x a b = true ↔ a ≤ x ∧ x ≤ b := by
  unfold g74_0
  by_cases c1 : x ≥ a
  · by_cases c2 : x ≤ b
    · simp [c1, c2]
    · simp [c1, c2]
  · have : ¬ a ≤ x := c1
    simp [c1, this]
theorem one81_pre (x : TyB4) : P101 x := by
  unfold P101
  split
  · rename_i h1
    split
    · rename_i h2
      have h1 := in81.1 (show g74_0 x.1 0 1440 = true from h1)
      have h2 := in81.1 (show g74_0 x.2.1 1 1440 = true from h2)
      exact ⟨by rw [i64_iff]; omega, trivial⟩
    · trivial
  · trivial
theorem one81_b {x : TyB4} (h : one81 x = true) : (0 ≤ x.1 ∧ x.1 ≤ 1440) ∧ (1 ≤ x.2.1 ∧ x.2.1 ≤ 1440) := by
  unfold one81 g101_0 at h
  split at h
  · rename_i h0
    split at h
    · rename_i h1
      exact ⟨in81.1 h0, in81.1 h1⟩
    · cases h
  · cases h
theorem run81 (x0 : List TyB4) (hm : x0.length ≤ maxLen) : ∀ (k i : Nat), i + k = x0.length → (∀ j, j < i → one81 (x0.getD j ((0 : Int), (0 : Int), ())) = true) →
    R81_2 (k + 1) (i : Int) x0 [⟨.bool, allI (ok81 x0) i (x0.drop i) && decide ((x0.length : Int) ≤ 24)⟩] := by
  intro k
  induction k with
  | zero =>
    intro i hi _
    rw [R81_2, if_neg (by simp only [decide_eq_true_eq]; omega), drop_end _ _ (by omega)]
    rfl
  | succ k ih =>
    intro i hi hp
    have hlt : i < x0.length := by omega
    have hu := inR_up hm hlt
    have hmx : maxLen ≤ 9223372036854775807 := by decide
    rw [R81_2, if_pos (by simp only [decide_eq_true_eq]; omega), drop_get x0 i ((0 : Int), (0 : Int), ()) hlt]
    simp only [Int.toNat_natCast, allI]
    refine ⟨by omega, by omega, one81_pre _, ?_⟩
    cases h1 : one81 (x0.getD i ((0 : Int), (0 : Int), ())) with
    | false =>
      unfold one81 at h1
      rw [if_pos (by rw [h1]; rfl)]
      have : ok81 x0 i (x0.getD i ((0 : Int), (0 : Int), ())) = false := by unfold ok81 one81; rw [h1]; rfl
      rw [this]; rfl
    | true =>
      have h1' := h1
      unfold one81 at h1
      rw [if_neg (by rw [h1]; simp)]
      have hnext := ih (i + 1) (by omega) (fun j hj => by
        rcases Nat.lt_or_ge j i with h | h
        · exact hp j h
        · have : j = i := by omega
          subst this; exact h1')
      have e1 : (((i + 1 : Nat)) : Int) = (i : Int) + 1 := by omega
      rw [e1] at hnext
      by_cases h0 : (i : Int) > 0
      · rw [if_pos (by simpa using h0)]
        have hi0 : (i == 0) = false := by simp; omega
        have e : ((i : Int) - 1).toNat = i - 1 := by omega
        obtain ⟨b1, b2⟩ := one81_b (hp (i - 1) (by omega))
        have hd : InR .i64 ((i : Int) - 1) := by rw [i64_iff]; omega
        simp only [e]
        refine ⟨hd, by omega, by omega, hd, by omega, by omega, by rw [i64_iff]; omega, by omega, by omega, ?_⟩
        by_cases hc : (x0.getD (i - 1) ((0 : Int), (0 : Int), ())).1 + (x0.getD (i - 1) ((0 : Int), (0 : Int), ())).2.1 ≤ (x0.getD i ((0 : Int), (0 : Int), ())).1
        · rw [if_neg (by show ¬ decide ((x0.getD (i - 1) ((0 : Int), (0 : Int), ())).1 + (x0.getD (i - 1) ((0 : Int), (0 : Int), ())).2.1 > (x0.getD i ((0 : Int), (0 : Int), ())).1) = true; rw [decide_eq_true_eq]; omega)]
          have : ok81 x0 i (x0.getD i ((0 : Int), (0 : Int), ())) = true := by unfold ok81; rw [h1', hi0, decide_eq_true hc]; rfl
          rw [this, Bool.true_and]
          exact ⟨hu, hnext⟩
        · rw [if_pos (by show decide ((x0.getD (i - 1) ((0 : Int), (0 : Int), ())).1 + (x0.getD (i - 1) ((0 : Int), (0 : Int), ())).2.1 > (x0.getD i ((0 : Int), (0 : Int), ())).1) = true; rw [decide_eq_true_eq]; omega)]
          have : ok81 x0 i (x0.getD i ((0 : Int), (0 : Int), ())) = false := by unfold ok81; rw [hi0, decide_eq_false hc, Bool.or_false, Bool.and_false]
          rw [this, Bool.false_and, Bool.false_and]
      · rw [if_neg (by simpa using h0)]
        have hi0 : (i == 0) = true := by simp; omega
        have : ok81 x0 i (x0.getD i ((0 : Int), (0 : Int), ())) = true := by unfold ok81; rw [h1', hi0]; rfl
        rw [this, Bool.true_and]
        exact ⟨hu, hnext⟩
theorem top81 (x0 : List TyB4) (hw : x0.length ≤ maxLen) : R81 (x0.length + 1 + 1) x0 [⟨.bool, g81_0 x0⟩] := by
  rw [R81]
  exact run81 x0 hw x0.length 0 (by omega) (fun j hj => by omega)
def S81 : Am.Spec := { sig := sig81, pre := fun ⟨x0, _⟩ => P81 x0, res := fun ⟨x0, _⟩ => [⟨Ty.bool, g81_0 x0⟩] }
theorem con81 : Contract Tryz.prog 81 S81 := contract_of Tryz.func81 hb81 (Nat.le_of_ble_eq_true (by kernel_rfl)) (fun ⟨x0, _⟩ h hwf K q =>
  (snd81 _).1 x0 _ (top81 x0 hwf.1.1) K q)
end
noncomputable section
def ext56 : Ext := [(81, S81), (82, S82)]
theorem ext56Ok : ExtOk Tryz.prog ext56 := ⟨⟨ca81, con81⟩, ⟨ca82, con82⟩, trivial⟩
noncomputable def b56 : Code := bodyOf Tryz.f56
theorem hb56 : Tryz.f56.body = some b56 := by kernel_rfl
def sig56 : List AT := [AT.v (Ty.sl YA9), AT.v (Ty.int .i64)]
def tys56 : List Ty := [Ty.int .i64]
def kds56 : List RK := []
def oks56 : List AT := owns sig56
def P56 (x0 : List TyB4) (x1 : Int) : Prop := True
def g56_0 (x0 : List TyB4) (x1 : Int) : Int := (if (!g81_0 x0) = true then 1 else (if (!g82_0 x1) = true then 2 else 0))
theorem at56 (x0 : List TyB4) (x1 : Int) (h : P56 x0 x1) (K : Ctx) (q : Nat → Value) : AtV Tryz.prog 56 (PostR kds56 oks56 [⟨Ty.int .i64, g56_0 x0 x1⟩] [] [] q K) 11 K q [] [.code b56] (entE 0 0 sig56 (x0, x1, ())) (entL sig56 (x0, x1, ())) := by
  unfold P56 at h
  unfold g56_0
  by_cases b0 : (!g81_0 x0) = true
  · try simp only [if_pos b0] at h ⊢
    exact AtV.ret Tryz.func56 tabOk ext56Ok mixed false [] tys56 [true] (a1 trivial (a1 b0 trivial)) (by kernel_rfl)
  · try simp only [if_neg b0] at h ⊢
    replace b0 := Bool.eq_false_iff.2 b0
    by_cases b1 : (!g82_0 x1) = true
    · try simp only [if_pos b1] at h ⊢
      exact AtV.ret Tryz.func56 tabOk ext56Ok mixed false [] tys56 [false, true] (a1 trivial (a1 b0 (a1 trivial (a1 b1 trivial)))) (by kernel_rfl)
    · try simp only [if_neg b1] at h ⊢
      replace b1 := Bool.eq_false_iff.2 b1
      exact AtV.ret Tryz.func56 tabOk ext56Ok mixed false [] tys56 [false, false] (a1 trivial (a1 b0 (a1 trivial (a1 b1 trivial)))) (by kernel_rfl)
def S56 : Am.Spec := { sig := sig56, pre := fun ⟨x0, x1, _⟩ => P56 x0 x1, res := fun ⟨x0, x1, _⟩ => [⟨Ty.int .i64, g56_0 x0 x1⟩], kds := kds56 }
theorem con56 : Contract Tryz.prog 56 S56 := contract_of Tryz.func56 hb56 (Nat.le_of_ble_eq_true (by kernel_rfl)) (fun ⟨x0, x1, _⟩ h _ K q => at56 x0 x1 h K q)
end
noncomputable section
def ext123 : Ext := []
theorem ext123Ok : ExtOk Tryz.prog ext123 := trivial
noncomputable def b123 : Code := bodyOf Tryz.f123
theorem hb123 : Tryz.f123.body = some b123 := by kernel_rfl
def sig123 : List AT := [AT.v (Ty.str), AT.v (Ty.int .u8)]
def tys123 : List Ty := [Ty.sl Ty.str]
def kds123 : List RK := []
def oks123 : List AT := owns sig123
def E123_4 (v6 : Int) (v7 : Int) (h0 : List ByteArray) (x0 : ByteArray) (x1 : Int) : Env := [(0, PV.a (Atom.val (Value.string x0))), (1, PV.a (Atom.val (Value.int .u8 x1))), (5, PV.a (Atom.osl 0 Option.none)), (6, PV.a (Atom.val (Value.int .i64 v6))), (7, PV.a (Atom.val (Value.int .i64 v7)))]
def L123_4 (v6 : Int) (v7 : Int) (h0 : List ByteArray) (x0 : ByteArray) (x1 : Int) : Heap := [Option.some (Arr.mk Ty.str h0 false Option.none Option.none)]
mutual
def R123 : Nat → ByteArray → Int → List Dyn → Prop
  | 0, _, _, _ => False
  | n + 1, x0, x1, ds => (R123_4 n (0) (0) ([]) (x0) (x1) ds)
def R123_4 : Nat → Int → Int → List ByteArray → ByteArray → Int → List Dyn → Prop
  | 0, _, _, _, _, _, _ => False
  | n + 1, v6, v7, h0, x0, x1, ds => (if (decide (v7 < (↑(ByteArray.size x0) : Int))) = true then ((0 ≤ v7) ∧ (v7 < (↑(ByteArray.size x0) : Int)) ∧ (if ((↑(UInt8.toNat (List.getD (Array.toList (ByteArray.data x0)) (Int.toNat v7) 0)) : Int) == x1) = true then ((0 ≤ v6) ∧ (v6 ≤ v7) ∧ (v7 ≤ (↑(ByteArray.size x0) : Int)) ∧ (((List.length h0 + 1) * 16 ≤ 140737488355328) ∧ ((InR .i64 (v7 + 1)) ∧ ((InR .i64 (v7 + 1)) ∧ (R123_4 n (v7 + 1) (v7 + 1) (h0 ++ [ByteArray.extract x0 (Int.toNat v6) (Int.toNat v7)]) (x0) (x1) ds))))) else ((InR .i64 (v7 + 1)) ∧ (R123_4 n (v6) (v7 + 1) (h0) (x0) (x1) ds)))) else ((0 ≤ v6) ∧ (v6 ≤ (↑(ByteArray.size x0) : Int)) ∧ (((List.length h0 + 1) * 16 ≤ 140737488355328) ∧ (ds = [Dyn.mk (Ty.sl Ty.str) (h0 ++ [ByteArray.extract x0 (Int.toNat v6) (Int.toNat (↑(ByteArray.size x0) : Int))])]))))
end
theorem snd123 : ∀ n, (∀ (x0 : ByteArray) (x1 : Int) ds, R123 n x0 x1 ds → ∀ K q, AtV Tryz.prog 123 (PostR kds123 oks123 ds [] [] q K) 35 K q [] [.code b123] (entE 0 0 sig123 (x0, x1, ())) (entL sig123 (x0, x1, ()))) ∧ (∀ (v6 : Int) (v7 : Int) (h0 : List ByteArray) (x0 : ByteArray) (x1 : Int) ds, R123_4 n v6 v7 h0 x0 x1 ds → ∀ K q, AtV Tryz.prog 123 (PostR kds123 oks123 ds [] [] q K) 35 K q [] (cutAt b123 4) (E123_4 v6 v7 h0 x0 x1) (L123_4 v6 v7 h0 x0 x1)) := by
  intro n
  induction n with
  | zero => exact ⟨fun _ _ _ h => by simp only [R123] at h, fun _ _ _ _ _ _ h => by simp only [R123_4] at h⟩
  | succ n ih =>
  obtain ⟨ih, ih4⟩ := ih
  refine ⟨?_, ?_⟩
  · intro x0 x1 ds h K q
    rw [R123] at h
    exact AtV.go tabOk ext123Ok mixed false [] [] [0, 1, 5, 6, 7] [0] [] trivial (ih4 _ _ _ _ _ _ h K q) (by kernel_rfl)
  · intro v6 v7 h0 x0 x1 ds h K q
    rw [R123_4] at h
    by_cases b0 : (decide (v7 < (↑(ByteArray.size x0) : Int))) = true
    · rw [if_pos b0] at h
      obtain ⟨s0, s1, h⟩ := h
      by_cases b1 : ((↑(UInt8.toNat (List.getD (Array.toList (ByteArray.data x0)) (Int.toNat v7) 0)) : Int) == x1) = true
      · rw [if_pos b1] at h
        obtain ⟨s2, s3, s4, h⟩ := h
        obtain ⟨s5, h⟩ := h
        obtain ⟨s6, h⟩ := h
        obtain ⟨s7, h⟩ := h
        exact AtV.go tabOk ext123Ok mixed false [] [] [0, 1, 5, 6, 7] [0] [true, true] (a1 b0 (a1 s0 (a1 s1 (a1 b1 (a1 s2 (a1 s3 (a1 s4 (a1 s5 (a1 s6 (a1 s7 trivial)))))))))) (ih4 _ _ _ _ _ _ h K q) (by kernel_rfl)
      · rw [if_neg b1] at h
        replace b1 := Bool.eq_false_iff.2 b1
        obtain ⟨s2, h⟩ := h
        exact AtV.go tabOk ext123Ok mixed false [] [] [0, 1, 5, 6, 7] [0] [true, false] (a1 b0 (a1 s0 (a1 s1 (a1 b1 (a1 s2 trivial))))) (ih4 _ _ _ _ _ _ h K q) (by kernel_rfl)
    · rw [if_neg b0] at h
      replace b0 := Bool.eq_false_iff.2 b0
      obtain ⟨s0, s1, h⟩ := h
      obtain ⟨s2, h⟩ := h
      subst h
      exact AtV.ret Tryz.func123 tabOk ext123Ok mixed false [] tys123 [false] (a1 b0 (a1 s0 (a1 s1 (a1 s2 trivial)))) (by kernel_rfl)
def c123 (x1 : Int) : UInt8 := UInt8.ofNat x1.toNat
def g123_0 (x0 : ByteArray) (x1 : Int) : List ByteArray := bss (splitC (c123 x1) x0.data.toList)
def P123 (x0 : ByteArray) (x1 : Int) : Prop := x0.size < 4294967281 ∧ 0 ≤ x1 ∧ x1 ≤ 255
theorem run123 (x0 : ByteArray) (x1 : Int) (hs : x0.size < 4294967281) (h0 : 0 ≤ x1) (h1 : x1 ≤ 255) : ∀ (k i frm : Nat) (h : List ByteArray), i + k = x0.size → frm ≤ i → c123 x1 ∉ (x0.data.toList.drop frm).take (i - frm) → h.length ≤ i →
    R123_4 (k + 1) (frm : Int) (i : Int) h x0 x1 [⟨.sl .str, h ++ bss (splitC (c123 x1) (x0.data.toList.drop frm))⟩] := by
  intro k
  have hll : x0.data.toList.length = x0.size := rfl
  induction k with
  | zero =>
    intro i frm h hi hf hc hl
    rw [R123_4, if_neg (by simp; omega)]
    refine ⟨by omega, by omega, by omega, ?_⟩
    have e : (x0.data.toList.drop frm).take (i - frm) = x0.data.toList.drop frm := List.take_of_length_le (by rw [List.length_drop]; omega)
    rw [e] at hc
    rw [splitC_free _ hc, Int.toNat_natCast, Int.toNat_natCast, Lib.extract_from]
    rfl
  | succ k ih =>
    intro i frm h hi hf hc hl
    have hup : InR .i64 ((i : Int) + 1) := by rw [i64_iff]; omega
    have hlt : i < x0.data.toList.length := by rw [hll]; omega
    have hcons : x0.data.toList.drop i = x0.data.toList.getD i 0 :: x0.data.toList.drop (i + 1) := drop_get _ i 0 hlt
    have hsplit : x0.data.toList.drop frm = (x0.data.toList.drop frm).take (i - frm) ++ x0.data.toList.drop i := by
      conv => lhs; rw [← List.take_append_drop (i - frm) (x0.data.toList.drop frm)]
      rw [List.drop_drop, show frm + (i - frm) = i by omega]
    rw [R123_4, if_pos (by simp; omega)]
    simp only [Int.toNat_natCast]
    refine ⟨by omega, by omega, ?_⟩
    have hb : (((x0.data.toList.getD i 0).toNat : Int) == x1) = true ↔ x0.data.toList.getD i 0 = c123 x1 := by
      have hlt' := (x0.data.toList.getD i 0).toNat_lt
      rw [beq_iff_eq, ← UInt8.toNat_inj]
      unfold c123
      have : (UInt8.ofNat x1.toNat).toNat = x1.toNat := by rw [UInt8.toNat_ofNat']; omega
      rw [this]
      omega
    by_cases he : x0.data.toList.getD i 0 = c123 x1
    · rw [if_pos (hb.2 he)]
      refine ⟨by omega, by omega, by omega, by omega, hup, hup, ?_⟩
      have := ih (i + 1) (i + 1) (h ++ [x0.extract frm i]) (by omega) (Nat.le_refl _) (by simp) (by simp; omega)
      have e2 : x0.extract frm i = ⟨((x0.data.toList.drop frm).take (i - frm)).toArray⟩ := Lib.extract_mk x0.data.toList frm i
      have e3 : splitC (c123 x1) (x0.data.toList.drop frm) = (x0.data.toList.drop frm).take (i - frm) :: splitC (c123 x1) (x0.data.toList.drop (i + 1)) := by
        conv => lhs; rw [hsplit, hcons, he]
        exact splitC_hit _ _ hc
      rw [e3, e2]
      rw [List.append_assoc, e2] at this
      exact this
    · rw [if_neg (fun hh => he (hb.1 hh))]
      refine ⟨hup, ?_⟩
      refine ih (i + 1) frm h (by omega) (by omega) (fun hm => ?_) (by omega)
      have e4 : (x0.data.toList.drop frm).take (i + 1 - frm) = (x0.data.toList.drop frm).take (i - frm) ++ [x0.data.toList.getD i 0] := by
        conv => lhs; rw [hsplit, hcons]
        rw [List.take_append, List.take_of_length_le (by rw [List.length_take, List.length_drop]; omega)]
        have : i + 1 - frm - ((x0.data.toList.drop frm).take (i - frm)).length = 1 := by rw [List.length_take, List.length_drop]; omega
        rw [this]
        rfl
      rw [e4] at hm
      rcases List.mem_append.1 hm with hm | hm
      · exact hc hm
      · exact he (List.mem_singleton.1 hm).symm
theorem top123 (x0 : ByteArray) (x1 : Int) (h : P123 x0 x1) : R123 (x0.size + 1 + 1) x0 x1 [⟨.sl .str, g123_0 x0 x1⟩] := by
  rw [R123]
  have := run123 x0 x1 h.1 h.2.1 h.2.2 x0.size 0 0 [] (by omega) (Nat.le_refl _) (by simp) (by simp)
  simpa [g123_0] using this
def S123 : Am.Spec := { sig := sig123, pre := fun ⟨x0, x1, _⟩ => P123 x0 x1, res := fun ⟨x0, x1, _⟩ => [⟨.sl .str, g123_0 x0 x1⟩] }
theorem con123 : Contract Tryz.prog 123 S123 := contract_of Tryz.func123 hb123 (Nat.le_of_ble_eq_true (by kernel_rfl)) (fun ⟨x0, x1, _⟩ h hwf K q =>
  (snd123 _).1 x0 x1 _ (top123 x0 x1 h) K q)
end
end Go.Proofs.YtnclnmljkoicdaaGreatDoor
