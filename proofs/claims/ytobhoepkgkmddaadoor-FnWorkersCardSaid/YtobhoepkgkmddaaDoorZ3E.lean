/- Several texts in one: the functions that this law reaches, and their laws. -/
import Derived.Test.YtobhoepkgkmddaaDoorZ3A
import Derived.Test.YtobhoepkgkmddaaDoorZ3B
import Derived.Test.YtobhoepkgkmddaaDoorZ3C
import Derived.Test.YtobhoepkgkmddaaDoorZ3D
import Derived.Lib.ItoaNum
import Derived.Lib.TrimByte

/- Function 13 (impl.WorkerText): its runs between cut points. Written by a program of this repo (gen). -/
set_option linter.unusedVariables false
set_option linter.unusedSimpArgs false
set_option maxRecDepth 100000
namespace Go.Proofs.YtobhoepkgkmddaaDoor
open Go Go.Am Go.Proofs
noncomputable section
def ext13 : Ext := [(32, S32), (33, S33)]
theorem call13_32 : Callable Tryd.prog 32 := ⟨Tryd.f32, Tryd.func32, by kernel_rfl, by kernel_rfl⟩
theorem call13_33 : Callable Tryd.prog 33 := ⟨Tryd.f33, Tryd.func33, by kernel_rfl, by kernel_rfl⟩
theorem ext13Ok : ExtOk Tryd.prog ext13 := ⟨⟨call13_32, con32⟩, ⟨call13_33, con33⟩, trivial⟩

noncomputable def b13 : Code := bodyOf Tryd.f13
theorem hb13 : Tryd.f13.body = some b13 := by kernel_rfl
def sig13 : List AT := [AT.v (Ty.cons Ty.str (Ty.cons (Ty.int IntKind.i64) (Ty.cons (Ty.int IntKind.i64) Ty.unit)))]
def tys13 : List Ty := [Ty.str]
def kds13 : List RK := []
def oks13 : List AT := owns sig13
def P13 (x0 : ByteArray × Int × Int × Unit) : Prop := (if (!g32_0 x0) = true then True else ((ByteArray.size (Prod.fst x0) + 1 ≤ 9223372036854775807) ∧ ((P33 (Prod.fst (Prod.snd x0))) ∧ ((ByteArray.size (Prod.fst x0 ++ ByteArray.mk #[32]) + ByteArray.size (g33_0 (Prod.fst (Prod.snd x0))) ≤ 9223372036854775807) ∧ ((ByteArray.size (Prod.fst x0 ++ ByteArray.mk #[32] ++ g33_0 (Prod.fst (Prod.snd x0))) + 1 ≤ 9223372036854775807) ∧ ((P33 (Prod.fst (Prod.snd (Prod.snd x0)))) ∧ ((ByteArray.size (Prod.fst x0 ++ ByteArray.mk #[32] ++ g33_0 (Prod.fst (Prod.snd x0)) ++ ByteArray.mk #[32]) + ByteArray.size (g33_0 (Prod.fst (Prod.snd (Prod.snd x0)))) ≤ 9223372036854775807) ∧ True)))))))
def g13_0 (x0 : ByteArray × Int × Int × Unit) : ByteArray := (if (!g32_0 x0) = true then ByteArray.mk #[] else Prod.fst x0 ++ ByteArray.mk #[32] ++ g33_0 (Prod.fst (Prod.snd x0)) ++ ByteArray.mk #[32] ++ g33_0 (Prod.fst (Prod.snd (Prod.snd x0))))
theorem at13 (x0 : ByteArray × Int × Int × Unit) (h : P13 x0) (K : Ctx) (q : Nat → Value) : AtV Tryd.prog 13 (PostR kds13 oks13 [⟨Ty.str, g13_0 x0⟩] [] [] q K) 18 K q [] [.code b13] (entE 0 0 sig13 (x0, ())) (entL sig13 (x0, ())) := by
  unfold P13 at h
  unfold g13_0
  by_cases b0 : (!g32_0 x0) = true
  · try simp only [if_pos b0] at h ⊢
    exact AtV.ret Tryd.func13 tabOk ext13Ok mixed false [] tys13 [true] (a1 trivial (a1 b0 trivial)) (by kernel_rfl)
  · try simp only [if_neg b0] at h ⊢
    replace b0 := Bool.eq_false_iff.2 b0
    obtain ⟨s0, h⟩ := h
    obtain ⟨s1, h⟩ := h
    obtain ⟨s2, h⟩ := h
    obtain ⟨s3, h⟩ := h
    obtain ⟨s4, h⟩ := h
    obtain ⟨s5, h⟩ := h
    exact AtV.ret Tryd.func13 tabOk ext13Ok mixed false [] tys13 [false] (a1 trivial (a1 b0 (a1 s0 (a1 s1 (a1 s2 (a1 s3 (a1 s4 (a1 s5 trivial)))))))) (by kernel_rfl)

def S13 : Am.Spec := { sig := sig13, pre := fun ⟨x0, _⟩ => P13 x0, res := fun ⟨x0, _⟩ => [⟨Ty.str, g13_0 x0⟩], kds := kds13 }
theorem con13 : Contract Tryd.prog 13 S13 := contract_of Tryd.func13 hb13 (Nat.le_of_ble_eq_true (by kernel_rfl)) (fun ⟨x0, _⟩ h _ K q => at13 x0 h K q)


end
end Go.Proofs.YtobhoepkgkmddaaDoor

/- Function 30 (strings.Split): its contract, off what is known of the library. -/
set_option linter.unusedVariables false
set_option linter.unusedSimpArgs false
set_option maxRecDepth 100000
namespace Go.Proofs.YtobhoepkgkmddaaDoor
open Go Go.Am Go.Proofs

def sig30 : List AT := [AT.v Ty.str, AT.v Ty.str]
def g30_0 (x0 x1 : ByteArray) : List ByteArray := Lib.splitB x1 0 (Lib.countB x0 x1) x0
def P30 (x0 x1 : ByteArray) : Prop := x0.size < 4294967281 ∧ 1 ≤ x1.size
def S30 : Am.Spec := { sig := sig30, pre := fun ⟨x0, x1, _⟩ => P30 x0 x1, res := fun ⟨x0, x1, _⟩ => [⟨Ty.sl Ty.str, g30_0 x0 x1⟩] }

theorem con30 : Contract Tryd.prog 30 S30 := by
  refine Contract0.up rfl rfl ?_
  rintro w ⟨x0, x1, u⟩ vs bss hgo hp ⟨v0, s0, b0, bs0, rfl, rfl, ⟨rfl, rfl, _⟩, v1, s1, b1, bs1, rfl, rfl, ⟨rfl, rfl, _⟩, rfl, rfl⟩ hn
  obtain ⟨hs, h1⟩ : x0.size < 4294967281 ∧ 1 ≤ x1.size := hp
  obtain ⟨m, hm⟩ := maxLenG hgo.inv
  refine (Tryd.strings_Split x0 x1 m w hs hm h1).mono ?_
  rintro e w' ⟨rfl, rfl⟩
  have hlen : (g30_0 x0 x1).length = Lib.countB x0 x1 + 1 := Lib.splitB_all x1 h1 0 _ _ rfl
  have hle := Lib.countB_le x1 h1 x0.size x0 (Nat.le_refl _)
  have hparts : ∀ y ∈ g30_0 x0 x1, y.size ≤ maxLen := fun y hy => by
    have := splitB_part x1 0 _ _ y hy
    unfold maxLen; omega
  have e1 : ∀ xs : List ByteArray, fcs .str xs = xs.map Value.string := by
    intro xs
    induction xs with
    | nil => rfl
    | cons a r ih => unfold fcs at ih ⊢; rw [List.map_cons, List.flatten_cons, ih]; rfl
  have ho : OwnC (w.alloc (.cells ((g30_0 x0 x1).map Value.string).toArray 9)) (.sl .str) (g30_0 x0 x1) [.slice (some ⟨w.heap.size, 0, none⟩) (Lib.countB x0 x1 + 1) (Lib.countB x0 x1 + 1)] [w.heap.size] :=
    own_flat_mk rfl hparts hlen.symm (Nat.le_of_eq hlen) (by unfold maxLen; omega) (by rw [List.size_toArray, List.length_map, hlen]; simp [Ty.size]) (heap_new w _) (freeS_zero _ _) (fun j u hj => by
      rw [e1] at hj
      rw [Nat.zero_add, ← Array.getElem?_toList]
      exact hj)
  refine ⟨[_], [], [[w.heap.size]], rfl, (Kept.refl _ _).alloc _, ⟨_, _, _, _, _, rfl, rfl, ho, rfl, rfl, rfl⟩, ⟨rfl, rfl⟩, by simp, fun b hb hg => ?_⟩
  simp at hb
  have := hg.1
  omega

end Go.Proofs.YtobhoepkgkmddaaDoor

/- Function 49 (strings.Cut): its contract, off what is known of the library. -/
set_option linter.unusedVariables false
set_option linter.unusedSimpArgs false
set_option maxRecDepth 100000
namespace Go.Proofs.YtobhoepkgkmddaaDoor
open Go Go.Am Go.Proofs

def sig49 : List AT := [AT.v Ty.str, AT.v Ty.str]
def g49_0 (x0 x1 : ByteArray) : ByteArray := ⟨(Lib.cut x0.data.toList x1.data.toList).1.toArray⟩
def g49_1 (x0 x1 : ByteArray) : ByteArray := ⟨(Lib.cut x0.data.toList x1.data.toList).2.1.toArray⟩
def g49_2 (x0 x1 : ByteArray) : Bool := (Lib.cut x0.data.toList x1.data.toList).2.2
def P49 (x0 x1 : ByteArray) : Prop := x0.size < 4294967281
def S49 : Am.Spec := { sig := sig49, pre := fun ⟨x0, x1, _⟩ => P49 x0 x1, res := fun ⟨x0, x1, _⟩ => [⟨Ty.str, g49_0 x0 x1⟩, ⟨Ty.str, g49_1 x0 x1⟩, ⟨Ty.bool, g49_2 x0 x1⟩] }
theorem cutLen49 (s sep : List UInt8) : (Lib.cut s sep).1.length ≤ s.length ∧ (Lib.cut s sep).2.1.length ≤ s.length := by
  unfold Lib.cut
  split
  · exact ⟨by simp; omega, by simp⟩
  · exact ⟨Nat.le_refl _, Nat.zero_le _⟩
theorem con49 : Contract Tryd.prog 49 S49 := contract_flat rfl fun w ⟨x0, x1, _⟩ vs bss hg hp hw ha => by
  obtain ⟨v0, s0, _, _, rfl, _, ⟨_, rfl, _⟩, v1, s1, _, _, rfl, _, ⟨_, rfl, _⟩, rfl, _⟩ := ha
  have hp : x0.size < 4294967281 := hp
  obtain ⟨l1, l2⟩ := cutLen49 x0.data.toList x1.data.toList
  have e : x0.data.toList.length = x0.size := rfl
  refine ⟨fun d hd => ?_, ?_⟩
  · simp only [S49, List.mem_cons, List.mem_nil_iff, or_false] at hd
    rcases hd with rfl | rfl | rfl
    · refine ⟨rfl, ?_⟩
      show (List.toArray _).size ≤ maxLen
      rw [List.size_toArray]; unfold maxLen; omega
    · refine ⟨rfl, ?_⟩
      show (List.toArray _).size ≤ maxLen
      rw [List.size_toArray]; unfold maxLen; omega
    · exact ⟨rfl, trivial⟩
  · obtain ⟨m, hm⟩ := maxLenG hg
    refine (Tryd.strings_Cut x0 x1 m w hp hm).mono ?_
    rintro e w' ⟨rfl, n, rfl⟩
    exact ⟨rfl, ⟨rfl, rfl, rfl, Nat.le_refl _, fun _ _ _ => rfl⟩⟩

end Go.Proofs.YtobhoepkgkmddaaDoor

/- Function 50 (impl.number): its runs between cut points. Written by a program of this repo (gen). -/
set_option linter.unusedVariables false
set_option linter.unusedSimpArgs false
set_option maxRecDepth 100000
namespace Go.Proofs.YtobhoepkgkmddaaDoor
open Go Go.Am Go.Proofs
noncomputable section
def ext50 : Ext := []
theorem ext50Ok : ExtOk Tryd.prog ext50 := trivial

noncomputable def b50 : Code := bodyOf Tryd.f50
theorem hb50 : Tryd.f50.body = some b50 := by kernel_rfl
def sig50 : List AT := [AT.v (Ty.str)]
def tys50 : List Ty := [Ty.int IntKind.i64]
def kds50 : List RK := []
def oks50 : List AT := owns sig50
def E50_5 (v3 : Int) (v17 : Int) (x0 : ByteArray) : Env := [(3, PV.a (Atom.val (Value.int IntKind.i64 v3))), (15, PV.a (Atom.osl 0 Option.none)), (16, PV.a (Atom.val (Value.int IntKind.i64 (↑(List.length (bytesOf x0)) : Int)))), (17, PV.a (Atom.val (Value.int IntKind.i64 v17)))]
def L50_5 (v3 : Int) (v17 : Int) (x0 : ByteArray) : Heap := [Option.some (Arr.mk (Ty.int IntKind.u8) (bytesOf x0) Bool.false Option.none Option.none)]
mutual
def R50 : Nat → ByteArray → List Dyn → Prop
  | 0, _, _ => False
  | n + 1, x0, ds => (if (Decidable.decide ((↑(ByteArray.size x0) : Int) < 1)) = true then (ds = [Dyn.mk (Ty.int IntKind.i64) (-1)]) else (if (Decidable.decide ((↑(ByteArray.size x0) : Int) > 12)) = true then (ds = [Dyn.mk (Ty.int IntKind.i64) (-1)]) else (R50_5 n (0) (0) (x0) ds)))
def R50_5 : Nat → Int → Int → ByteArray → List Dyn → Prop
  | 0, _, _, _, _ => False
  | n + 1, v3, v17, x0, ds => (if (Decidable.decide (v17 < (↑(List.length (bytesOf x0)) : Int))) = true then ((0 ≤ v17) ∧ (v17 < (↑(List.length (bytesOf x0)) : Int)) ∧ (if (Decidable.decide (List.getD (bytesOf x0) (Int.toNat v17) 0 < 48)) = true then (ds = [Dyn.mk (Ty.int IntKind.i64) (-1)]) else (if (Decidable.decide (List.getD (bytesOf x0) (Int.toNat v17) 0 > 57)) = true then (ds = [Dyn.mk (Ty.int IntKind.i64) (-1)]) else ((InR IntKind.i64 (10 * v3)) ∧ ((InR IntKind.u8 (List.getD (bytesOf x0) (Int.toNat v17) 0 - 48)) ∧ ((InR IntKind.i64 (List.getD (bytesOf x0) (Int.toNat v17) 0 - 48)) ∧ ((InR IntKind.i64 (10 * v3 + (List.getD (bytesOf x0) (Int.toNat v17) 0 - 48))) ∧ ((InR IntKind.i64 (v17 + 1)) ∧ (R50_5 n (10 * v3 + (List.getD (bytesOf x0) (Int.toNat v17) 0 - 48)) (v17 + 1) (x0) ds))))))))) else (ds = [Dyn.mk (Ty.int IntKind.i64) v3]))
end
theorem snd50 : ∀ n, (∀ (x0 : ByteArray) ds, R50 n x0 ds → ∀ K q, AtV Tryd.prog 50 (PostR kds50 oks50 ds [] [] q K) 35 K q [] [.code b50] (entE 0 0 sig50 (x0, ())) (entL sig50 (x0, ()))) ∧ (∀ (v3 : Int) (v17 : Int) (x0 : ByteArray) ds, R50_5 n v3 v17 x0 ds → ∀ K q, AtV Tryd.prog 50 (PostR kds50 oks50 ds [] [] q K) 35 K q [] (cutAt b50 5) (E50_5 v3 v17 x0) (L50_5 v3 v17 x0)) := by
  intro n
  induction n with
  | zero => exact ⟨fun _ _ h => by simp only [R50] at h, fun _ _ _ _ h => by simp only [R50_5] at h⟩
  | succ n ih =>
  obtain ⟨ih, ih5⟩ := ih
  refine ⟨?_, ?_⟩
  · intro x0 ds h K q
    rw [R50] at h
    by_cases b0 : (Decidable.decide ((↑(ByteArray.size x0) : Int) < 1)) = true
    · rw [if_pos b0] at h
      subst h
      exact AtV.ret Tryd.func50 tabOk ext50Ok mixed false [] tys50 [true, true] (a1 b0 (a1 (rfl : Bool.true = Bool.true) trivial)) (by kernel_rfl)
    · rw [if_neg b0] at h
      replace b0 := Bool.eq_false_iff.2 b0
      by_cases b1 : (Decidable.decide ((↑(ByteArray.size x0) : Int) > 12)) = true
      · rw [if_pos b1] at h
        subst h
        exact AtV.ret Tryd.func50 tabOk ext50Ok mixed false [] tys50 [false, true] (a1 b0 (a1 b1 trivial)) (by kernel_rfl)
      · rw [if_neg b1] at h
        replace b1 := Bool.eq_false_iff.2 b1
        exact AtV.go tabOk ext50Ok mixed false [] [] [3, 15, 16, 17] [0] [false, false] (a1 b0 (a1 b1 trivial)) (ih5 _ _ _ _ h K q) (by kernel_rfl)

  · intro v3 v17 x0 ds h K q
    rw [R50_5] at h
    by_cases b0 : (Decidable.decide (v17 < (↑(List.length (bytesOf x0)) : Int))) = true
    · rw [if_pos b0] at h
      obtain ⟨s0, s1, h⟩ := h
      by_cases b1 : (Decidable.decide (List.getD (bytesOf x0) (Int.toNat v17) 0 < 48)) = true
      · rw [if_pos b1] at h
        subst h
        exact AtV.ret Tryd.func50 tabOk ext50Ok mixed false [] tys50 [true, true, true] (a1 b0 (a1 s0 (a1 s1 (a1 b1 (a1 (rfl : Bool.true = Bool.true) trivial))))) (by kernel_rfl)
      · rw [if_neg b1] at h
        replace b1 := Bool.eq_false_iff.2 b1
        by_cases b2 : (Decidable.decide (List.getD (bytesOf x0) (Int.toNat v17) 0 > 57)) = true
        · rw [if_pos b2] at h
          subst h
          exact AtV.ret Tryd.func50 tabOk ext50Ok mixed false [] tys50 [true, false, true] (a1 b0 (a1 s0 (a1 s1 (a1 b1 (a1 b2 trivial))))) (by kernel_rfl)
        · rw [if_neg b2] at h
          replace b2 := Bool.eq_false_iff.2 b2
          obtain ⟨s2, h⟩ := h
          obtain ⟨s3, h⟩ := h
          obtain ⟨s4, h⟩ := h
          obtain ⟨s5, h⟩ := h
          obtain ⟨s6, h⟩ := h
          exact AtV.go tabOk ext50Ok mixed false [] [] [3, 15, 16, 17] [0] [true, false, false] (a1 b0 (a1 s0 (a1 s1 (a1 b1 (a1 b2 (a1 s2 (a1 s3 (a1 s4 (a1 s5 (a1 s6 trivial)))))))))) (ih5 _ _ _ _ h K q) (by kernel_rfl)
    · rw [if_neg b0] at h
      replace b0 := Bool.eq_false_iff.2 b0
      subst h
      exact AtV.ret Tryd.func50 tabOk ext50Ok mixed false [] tys50 [false] (a1 b0 trivial) (by kernel_rfl)



def num50 : List UInt8 → Int → Int
  | [], n => n
  | b :: r, n => if decide (48 ≤ b.toNat) && decide (b.toNat ≤ 57) then num50 r (10 * n + ((b.toNat : Int) - 48)) else -1
def g50_0 (x0 : ByteArray) : Int := if x0.size < 1 ∨ 12 < x0.size then -1 else num50 x0.data.toList 0
def P50 (x0 : ByteArray) : Prop := True

theorem run50 (x0 : ByteArray) (hs : x0.size ≤ 12) : ∀ (k i m : Nat), i + k = x0.size → m < 10 ^ i →
    R50_5 (k + 1) (m : Int) (i : Int) x0 [⟨.int .i64, num50 (x0.data.toList.drop i) (m : Int)⟩] := by
  intro k
  have hll : x0.data.toList.length = x0.size := rfl
  have hbl : (bytesOf x0).length = x0.size := by unfold bytesOf; rw [List.length_map]; rfl
  induction k with
  | zero =>
    intro i m hi hm
    rw [R50_5, if_neg (by rw [hbl]; simp; omega), List.drop_of_length_le (by omega)]
    rfl
  | succ k ih =>
    intro i m hi hm
    have hlt : i < x0.data.toList.length := by rw [hll]; omega
    have hcons : x0.data.toList.drop i = x0.data.toList.getD i 0 :: x0.data.toList.drop (i + 1) := drop_get _ i 0 hlt
    have hbyte : (bytesOf x0).getD i 0 = ((x0.data.toList.getD i 0).toNat : Int) := by
      unfold bytesOf
      rw [List.getD_eq_getElem?_getD, List.getD_eq_getElem?_getD, List.getElem?_map, List.getElem?_eq_getElem hlt]
      rfl
    rw [R50_5, if_pos (by rw [hbl]; simp; omega), hcons]
    simp only [Int.toNat_natCast, hbyte, hbl]
    generalize x0.data.toList.getD i 0 = b at *
    refine ⟨by omega, by omega, ?_⟩
    unfold num50
    by_cases h1 : b.toNat < 48
    · have h1' : (b.toNat : Int) < 48 := by omega
      have h1'' : ¬ 48 ≤ b.toNat := by omega
      simp [h1', h1'']
    · have h1' : ¬ (b.toNat : Int) < 48 := by omega
      have h1'' : 48 ≤ b.toNat := by omega
      by_cases h2 : b.toNat > 57
      · have h2' : (b.toNat : Int) > 57 := by omega
        have h2'' : ¬ b.toNat ≤ 57 := by omega
        simp [h1', h2', h2'']
      · have h2' : ¬ (b.toNat : Int) > 57 := by omega
        have h2'' : b.toNat ≤ 57 := by omega
        have hp : 10 ^ i ≤ 10 ^ 11 := Nat.pow_le_pow_right (by decide) (by omega)
        have hm2 : m < 100000000000 := Nat.lt_of_lt_of_le hm hp
        simp only [h1', h1'', h2', h2'', decide_true, decide_false, Bool.and_self, Bool.false_eq_true, if_false, if_true]
        refine ⟨by rw [i64_iff]; omega, by rw [u8_iff]; omega, by rw [i64_iff]; omega, by rw [i64_iff]; omega, by rw [i64_iff]; omega, ?_⟩
        have e1 : 10 * (m : Int) + ((b.toNat : Int) - 48) = ((10 * m + (b.toNat - 48) : Nat) : Int) := by omega
        have e2 : (i : Int) + 1 = ((i + 1 : Nat) : Int) := by omega
        rw [e1, e2]
        exact ih (i + 1) (10 * m + (b.toNat - 48)) (by omega) (by rw [Nat.pow_succ]; omega)

theorem top50 (x0 : ByteArray) : R50 (x0.size + 1 + 1) x0 [⟨.int .i64, g50_0 x0⟩] := by
  rw [R50]
  unfold g50_0
  by_cases h1 : x0.size < 1
  · rw [if_pos (by simp; omega), if_pos (.inl h1)]
  · rw [if_neg (by simp; omega)]
    by_cases h2 : 12 < x0.size
    · rw [if_pos (by simp; omega), if_pos (.inr h2)]
    · rw [if_neg (by simp; omega), if_neg (by omega)]
      exact run50 x0 (by omega) x0.size 0 0 (by omega) (by decide)

def S50 : Am.Spec := { sig := sig50, pre := fun ⟨x0, _⟩ => P50 x0, res := fun ⟨x0, _⟩ => [⟨.int .i64, g50_0 x0⟩] }
theorem con50 : Contract Tryd.prog 50 S50 := contract_of Tryd.func50 hb50 (Nat.le_of_ble_eq_true (by kernel_rfl)) (fun ⟨x0, _⟩ h hwf K q =>
  (snd50 _).1 x0 _ (top50 x0) K q)

end
end Go.Proofs.YtobhoepkgkmddaaDoor

/- Function 40 (impl.ReadClock): its runs between cut points. Written by a program of this repo (gen). -/
set_option linter.unusedVariables false
set_option linter.unusedSimpArgs false
set_option maxRecDepth 100000
namespace Go.Proofs.YtobhoepkgkmddaaDoor
open Go Go.Am Go.Proofs
noncomputable section
def ext40 : Ext := [(49, S49), (50, S50), (42, S42)]
theorem call40_49 : Callable Tryd.prog 49 := ⟨Tryd.f49, Tryd.func49, by kernel_rfl, by kernel_rfl⟩
theorem call40_50 : Callable Tryd.prog 50 := ⟨Tryd.f50, Tryd.func50, by kernel_rfl, by kernel_rfl⟩
theorem call40_42 : Callable Tryd.prog 42 := ⟨Tryd.f42, Tryd.func42, by kernel_rfl, by kernel_rfl⟩
theorem ext40Ok : ExtOk Tryd.prog ext40 := ⟨⟨call40_49, con49⟩, ⟨call40_50, con50⟩, ⟨call40_42, con42⟩, trivial⟩

noncomputable def b40 : Code := bodyOf Tryd.f40
theorem hb40 : Tryd.f40.body = some b40 := by kernel_rfl
def sig40 : List AT := [AT.v (Ty.str)]
def tys40 : List Ty := [Ty.int IntKind.i64, Ty.bool]
def kds40 : List RK := []
def oks40 : List AT := owns sig40
def P40 (x0 : ByteArray) : Prop := ((P49 x0 (ByteArray.mk #[58])) ∧ ((InR IntKind.i64 (60 * g50_0 (g49_0 x0 (ByteArray.mk #[58])))) ∧ ((InR IntKind.i64 (60 * g50_0 (g49_0 x0 (ByteArray.mk #[58])) + g50_0 (g49_1 x0 (ByteArray.mk #[58])))) ∧ (if (ByteArray.toList x0 == ByteArray.toList (ByteArray.mk #[])) = true then True else ((P42 (60 * g50_0 (g49_0 x0 (ByteArray.mk #[58])) + g50_0 (g49_1 x0 (ByteArray.mk #[58])))) ∧ True)))))
def g40_0 (x0 : ByteArray) : Int := (if (ByteArray.toList x0 == ByteArray.toList (ByteArray.mk #[])) = true then 0 else (if (!ByteArray.toList (g42_0 (60 * g50_0 (g49_0 x0 (ByteArray.mk #[58])) + g50_0 (g49_1 x0 (ByteArray.mk #[58])))) == ByteArray.toList x0) = true then 0 else 60 * g50_0 (g49_0 x0 (ByteArray.mk #[58])) + g50_0 (g49_1 x0 (ByteArray.mk #[58]))))
def g40_1 (x0 : ByteArray) : Bool := (if (ByteArray.toList x0 == ByteArray.toList (ByteArray.mk #[])) = true then Bool.false else (if (!ByteArray.toList (g42_0 (60 * g50_0 (g49_0 x0 (ByteArray.mk #[58])) + g50_0 (g49_1 x0 (ByteArray.mk #[58])))) == ByteArray.toList x0) = true then Bool.false else Bool.true))
theorem at40 (x0 : ByteArray) (h : P40 x0) (K : Ctx) (q : Nat → Value) : AtV Tryd.prog 40 (PostR kds40 oks40 [⟨Ty.int IntKind.i64, g40_0 x0⟩, ⟨Ty.bool, g40_1 x0⟩] [] [] q K) 29 K q [] [.code b40] (entE 0 0 sig40 (x0, ())) (entL sig40 (x0, ())) := by
  unfold P40 at h
  unfold g40_0 g40_1
  obtain ⟨s0, h⟩ := h
  obtain ⟨s1, h⟩ := h
  obtain ⟨s2, h⟩ := h
  by_cases b0 : (ByteArray.toList x0 == ByteArray.toList (ByteArray.mk #[])) = true
  · try simp only [if_pos b0] at h ⊢
    exact AtV.ret Tryd.func40 tabOk ext40Ok mixed false [] tys40 [true, true] (a1 s0 (a1 trivial (a1 s1 (a1 trivial (a1 s2 (a1 b0 (a1 (rfl : Bool.true = Bool.true) trivial))))))) (by kernel_rfl)
  · try simp only [if_neg b0] at h ⊢
    replace b0 := Bool.eq_false_iff.2 b0
    obtain ⟨s3, h⟩ := h
    by_cases b1 : (!ByteArray.toList (g42_0 (60 * g50_0 (g49_0 x0 (ByteArray.mk #[58])) + g50_0 (g49_1 x0 (ByteArray.mk #[58])))) == ByteArray.toList x0) = true
    · try simp only [if_pos b1] at h ⊢
      exact AtV.ret Tryd.func40 tabOk ext40Ok mixed false [] tys40 [false, true] (a1 s0 (a1 trivial (a1 s1 (a1 trivial (a1 s2 (a1 b0 (a1 s3 (a1 b1 trivial)))))))) (by kernel_rfl)
    · try simp only [if_neg b1] at h ⊢
      replace b1 := Bool.eq_false_iff.2 b1
      exact AtV.ret Tryd.func40 tabOk ext40Ok mixed false [] tys40 [false, false] (a1 s0 (a1 trivial (a1 s1 (a1 trivial (a1 s2 (a1 b0 (a1 s3 (a1 b1 trivial)))))))) (by kernel_rfl)

def S40 : Am.Spec := { sig := sig40, pre := fun ⟨x0, _⟩ => P40 x0, res := fun ⟨x0, _⟩ => [⟨Ty.int IntKind.i64, g40_0 x0⟩, ⟨Ty.bool, g40_1 x0⟩], kds := kds40 }
theorem con40 : Contract Tryd.prog 40 S40 := contract_of Tryd.func40 hb40 (Nat.le_of_ble_eq_true (by kernel_rfl)) (fun ⟨x0, _⟩ h _ K q => at40 x0 h K q)


end
end Go.Proofs.YtobhoepkgkmddaaDoor

/- Function 31 (impl.readDayClock): its runs between cut points. Written by a program of this repo (gen). -/
set_option linter.unusedVariables false
set_option linter.unusedSimpArgs false
set_option maxRecDepth 100000
namespace Go.Proofs.YtobhoepkgkmddaaDoor
open Go Go.Am Go.Proofs
noncomputable section
def ext31 : Ext := [(40, S40)]
theorem call31_40 : Callable Tryd.prog 40 := ⟨Tryd.f40, Tryd.func40, by kernel_rfl, by kernel_rfl⟩
theorem ext31Ok : ExtOk Tryd.prog ext31 := ⟨⟨call31_40, con40⟩, trivial⟩

noncomputable def b31 : Code := bodyOf Tryd.f31
theorem hb31 : Tryd.f31.body = some b31 := by kernel_rfl
def sig31 : List AT := [AT.v (Ty.str)]
def tys31 : List Ty := [Ty.int IntKind.i64]
def kds31 : List RK := []
def oks31 : List AT := owns sig31
def P31 (x0 : ByteArray) : Prop := (if (ByteArray.toList x0 == ByteArray.toList (ByteArray.mk #[50, 52, 58, 48, 48])) = true then True else ((P40 x0) ∧ True))
def g31_0 (x0 : ByteArray) : Int := (if (ByteArray.toList x0 == ByteArray.toList (ByteArray.mk #[50, 52, 58, 48, 48])) = true then 1440 else g40_0 x0)
theorem at31 (x0 : ByteArray) (h : P31 x0) (K : Ctx) (q : Nat → Value) : AtV Tryd.prog 31 (PostR kds31 oks31 [⟨Ty.int IntKind.i64, g31_0 x0⟩] [] [] q K) 13 K q [] [.code b31] (entE 0 0 sig31 (x0, ())) (entL sig31 (x0, ())) := by
  unfold P31 at h
  unfold g31_0
  by_cases b0 : (ByteArray.toList x0 == ByteArray.toList (ByteArray.mk #[50, 52, 58, 48, 48])) = true
  · try simp only [if_pos b0] at h ⊢
    exact AtV.ret Tryd.func31 tabOk ext31Ok mixed false [] tys31 [true] (a1 b0 trivial) (by kernel_rfl)
  · try simp only [if_neg b0] at h ⊢
    replace b0 := Bool.eq_false_iff.2 b0
    obtain ⟨s0, h⟩ := h
    exact AtV.ret Tryd.func31 tabOk ext31Ok mixed false [] tys31 [false] (a1 b0 (a1 s0 trivial)) (by kernel_rfl)

def S31 : Am.Spec := { sig := sig31, pre := fun ⟨x0, _⟩ => P31 x0, res := fun ⟨x0, _⟩ => [⟨Ty.int IntKind.i64, g31_0 x0⟩], kds := kds31 }
theorem con31 : Contract Tryd.prog 31 S31 := contract_of Tryd.func31 hb31 (Nat.le_of_ble_eq_true (by kernel_rfl)) (fun ⟨x0, _⟩ h _ K q => at31 x0 h K q)


end
end Go.Proofs.YtobhoepkgkmddaaDoor

/- Function 12 (impl.ReadWorker): its runs between cut points. Written by a program of this repo (gen). -/
set_option linter.unusedVariables false
set_option linter.unusedSimpArgs false
set_option maxRecDepth 100000
namespace Go.Proofs.YtobhoepkgkmddaaDoor
open Go Go.Am Go.Proofs
noncomputable section
def ext12 : Ext := [(30, S30), (31, S31), (13, S13)]
theorem call12_30 : Callable Tryd.prog 30 := ⟨Tryd.f30, Tryd.func30, by kernel_rfl, by kernel_rfl⟩
theorem call12_31 : Callable Tryd.prog 31 := ⟨Tryd.f31, Tryd.func31, by kernel_rfl, by kernel_rfl⟩
theorem call12_13 : Callable Tryd.prog 13 := ⟨Tryd.f13, Tryd.func13, by kernel_rfl, by kernel_rfl⟩
theorem ext12Ok : ExtOk Tryd.prog ext12 := ⟨⟨call12_30, con30⟩, ⟨call12_31, con31⟩, ⟨call12_13, con13⟩, trivial⟩

noncomputable def b12 : Code := bodyOf Tryd.f12
theorem hb12 : Tryd.f12.body = some b12 := by kernel_rfl
def sig12 : List AT := [AT.v (Ty.str)]
def tys12 : List Ty := [Ty.cons Ty.str (Ty.cons (Ty.int IntKind.i64) (Ty.cons (Ty.int IntKind.i64) Ty.unit)), Ty.bool]
def kds12 : List RK := []
def oks12 : List AT := owns sig12
def P12 (x0 : ByteArray) : Prop := ((P30 x0 (ByteArray.mk #[32])) ∧ (if ((↑(List.length (g30_0 x0 (ByteArray.mk #[32]))) : Int) != 3) = true then True else ((0 < (↑(List.length (g30_0 x0 (ByteArray.mk #[32]))) : Int)) ∧ ((1 < (↑(List.length (g30_0 x0 (ByteArray.mk #[32]))) : Int)) ∧ ((P31 (List.getD (g30_0 x0 (ByteArray.mk #[32])) 1 ByteArray.empty)) ∧ ((2 < (↑(List.length (g30_0 x0 (ByteArray.mk #[32]))) : Int)) ∧ ((P31 (List.getD (g30_0 x0 (ByteArray.mk #[32])) 2 ByteArray.empty)) ∧ ((P13 (List.getD (g30_0 x0 (ByteArray.mk #[32])) 0 ByteArray.empty, g31_0 (List.getD (g30_0 x0 (ByteArray.mk #[32])) 1 ByteArray.empty), g31_0 (List.getD (g30_0 x0 (ByteArray.mk #[32])) 2 ByteArray.empty), ())) ∧ True))))))))
def g12_0 (x0 : ByteArray) : ByteArray × Int × Int × Unit := (if ((↑(List.length (g30_0 x0 (ByteArray.mk #[32]))) : Int) != 3) = true then (ByteArray.empty, 0, 0, ()) else (if (!ByteArray.toList (g13_0 (List.getD (g30_0 x0 (ByteArray.mk #[32])) 0 ByteArray.empty, g31_0 (List.getD (g30_0 x0 (ByteArray.mk #[32])) 1 ByteArray.empty), g31_0 (List.getD (g30_0 x0 (ByteArray.mk #[32])) 2 ByteArray.empty), ())) == ByteArray.toList x0) = true then (ByteArray.empty, 0, 0, ()) else (List.getD (g30_0 x0 (ByteArray.mk #[32])) 0 ByteArray.empty, g31_0 (List.getD (g30_0 x0 (ByteArray.mk #[32])) 1 ByteArray.empty), g31_0 (List.getD (g30_0 x0 (ByteArray.mk #[32])) 2 ByteArray.empty), ())))
def g12_1 (x0 : ByteArray) : Bool := (if ((↑(List.length (g30_0 x0 (ByteArray.mk #[32]))) : Int) != 3) = true then Bool.false else (if (!ByteArray.toList (g13_0 (List.getD (g30_0 x0 (ByteArray.mk #[32])) 0 ByteArray.empty, g31_0 (List.getD (g30_0 x0 (ByteArray.mk #[32])) 1 ByteArray.empty), g31_0 (List.getD (g30_0 x0 (ByteArray.mk #[32])) 2 ByteArray.empty), ())) == ByteArray.toList x0) = true then Bool.false else Bool.true))
theorem at12 (x0 : ByteArray) (h : P12 x0) (K : Ctx) (q : Nat → Value) : AtV Tryd.prog 12 (PostR kds12 oks12 [⟨Ty.cons Ty.str (Ty.cons (Ty.int IntKind.i64) (Ty.cons (Ty.int IntKind.i64) Ty.unit)), g12_0 x0⟩, ⟨Ty.bool, g12_1 x0⟩] [] [] q K) 30 K q [] [.code b12] (entE 0 0 sig12 (x0, ())) (entL sig12 (x0, ())) := by
  unfold P12 at h
  unfold g12_0 g12_1
  obtain ⟨s0, h⟩ := h
  by_cases b0 : ((↑(List.length (g30_0 x0 (ByteArray.mk #[32]))) : Int) != 3) = true
  · try simp only [if_pos b0] at h ⊢
    exact AtV.ret Tryd.func12 tabOk ext12Ok mixed false [] tys12 [true] (a1 s0 (a1 b0 trivial)) (by kernel_rfl)
  · try simp only [if_neg b0] at h ⊢
    replace b0 := Bool.eq_false_iff.2 b0
    obtain ⟨s1, h⟩ := h
    obtain ⟨s2, h⟩ := h
    obtain ⟨s3, h⟩ := h
    obtain ⟨s4, h⟩ := h
    obtain ⟨s5, h⟩ := h
    obtain ⟨s6, h⟩ := h
    by_cases b1 : (!ByteArray.toList (g13_0 (List.getD (g30_0 x0 (ByteArray.mk #[32])) 0 ByteArray.empty, g31_0 (List.getD (g30_0 x0 (ByteArray.mk #[32])) 1 ByteArray.empty), g31_0 (List.getD (g30_0 x0 (ByteArray.mk #[32])) 2 ByteArray.empty), ())) == ByteArray.toList x0) = true
    · try simp only [if_pos b1] at h ⊢
      exact AtV.ret Tryd.func12 tabOk ext12Ok mixed false [] tys12 [false, true] (a1 s0 (a1 b0 (a1 ((by decide) : (0 : Int) ≤ (0 : Int)) (a1 s1 (a1 ((by decide) : (0 : Int) ≤ (1 : Int)) (a1 s2 (a1 s3 (a1 ((by decide) : (0 : Int) ≤ (2 : Int)) (a1 s4 (a1 s5 (a1 s6 (a1 b1 trivial)))))))))))) (by kernel_rfl)
    · try simp only [if_neg b1] at h ⊢
      replace b1 := Bool.eq_false_iff.2 b1
      exact AtV.ret Tryd.func12 tabOk ext12Ok mixed false [] tys12 [false, false] (a1 s0 (a1 b0 (a1 ((by decide) : (0 : Int) ≤ (0 : Int)) (a1 s1 (a1 ((by decide) : (0 : Int) ≤ (1 : Int)) (a1 s2 (a1 s3 (a1 ((by decide) : (0 : Int) ≤ (2 : Int)) (a1 s4 (a1 s5 (a1 s6 (a1 b1 trivial)))))))))))) (by kernel_rfl)

def S12 : Am.Spec := { sig := sig12, pre := fun ⟨x0, _⟩ => P12 x0, res := fun ⟨x0, _⟩ => [⟨Ty.cons Ty.str (Ty.cons (Ty.int IntKind.i64) (Ty.cons (Ty.int IntKind.i64) Ty.unit)), g12_0 x0⟩, ⟨Ty.bool, g12_1 x0⟩], kds := kds12 }
theorem con12 : Contract Tryd.prog 12 S12 := contract_of Tryd.func12 hb12 (Nat.le_of_ble_eq_true (by kernel_rfl)) (fun ⟨x0, _⟩ h _ K q => at12 x0 h K q)


end
end Go.Proofs.YtobhoepkgkmddaaDoor

/- A law that says how functions of the program and of the specification hang together. -/
set_option linter.unusedVariables false
set_option linter.unusedSimpArgs false
set_option maxRecDepth 100000
namespace Go.Proofs.YtobhoepkgkmddaaDoor
open Go Go.Am Go.Proofs

def D10 (a : Nat) : UInt8 := UInt8.ofNat (48 + a)
theorem D10_nat {a : Nat} (h : a < 10) : (D10 a).toNat = 48 + a := by unfold D10; rw [UInt8.toNat_ofNat']; omega
theorem D10_inj {a b : Nat} (ha : a < 10) (hb : b < 10) (h : D10 a = D10 b) : a = b := by
  have := congrArg UInt8.toNat h
  rw [D10_nat ha, D10_nat hb] at this
  omega

theorem num_one {n : Nat} (h : n < 10) : numB (n : Int) = ⟨⟨[D10 n]⟩⟩ := by
  unfold numB Lib.itoa
  rw [if_neg (by omega), Int.toNat_natCast, Lib.decDigits_one h]
  rfl
theorem num_two {n : Nat} (h1 : 10 ≤ n) (h : n < 100) : numB (n : Int) = ⟨⟨[D10 (n / 10), D10 (n % 10)]⟩⟩ := by
  unfold numB Lib.itoa
  rw [if_neg (by omega), Int.toNat_natCast, Lib.decDigits_two (by omega) h]
  rfl

theorem pad_two {n : Nat} (h : n < 100) : P51 (n : Int) 2 ∧ g51_0 (n : Int) 2 = ⟨⟨[D10 (n / 10), D10 (n % 10)]⟩⟩ := by
  unfold P51 g51_0
  have e : g59_0 (n : Int) = numB (n : Int) := rfl
  rw [e]
  by_cases h1 : n < 10
  · rw [num_one h1]
    have e0 : n / 10 = 0 := by omega
    have e1 : n % 10 = n := by omega
    rw [e0, e1]
    have e2 : (ByteArray.mk (Array.mk [D10 n])).size = 1 := rfl
    rw [e2]
    exact ⟨⟨⟨rfl, trivial⟩, by rw [i64_iff]; decide, ⟨by decide, by decide⟩, by show 1 + 1 ≤ _; decide, trivial⟩, rfl⟩
  · rw [num_two (by omega) h]
    have e2 : (ByteArray.mk (Array.mk [D10 (n / 10), D10 (n % 10)])).size = 2 := rfl
    rw [e2]
    exact ⟨⟨⟨rfl, trivial⟩, by rw [i64_iff]; decide, ⟨by decide, by decide⟩, by show 0 + 2 ≤ _; decide, trivial⟩, rfl⟩

theorem num_bound : ∀ (l : List UInt8) (m i : Nat), m < 10 ^ i → i + l.length ≤ 12 → -1 ≤ num50 l (m : Int) ∧ num50 l (m : Int) < 1000000000000
  | [], m, i, h, hi => by
    have hp : 10 ^ i ≤ 10 ^ 12 := Nat.pow_le_pow_right (by decide) (by simp at hi; omega)
    have : m < 1000000000000 := Nat.lt_of_lt_of_le h hp
    show -1 ≤ (m : Int) ∧ (m : Int) < 1000000000000
    omega
  | b :: r, m, i, h, hi => by
    unfold num50
    split
    · rename_i hd
      have hd' : 48 ≤ b.toNat ∧ b.toNat ≤ 57 := by simpa using hd
      have e1 : 10 * (m : Int) + ((b.toNat : Int) - 48) = ((10 * m + (b.toNat - 48) : Nat) : Int) := by omega
      rw [e1]
      exact num_bound r _ (i + 1) (by rw [Nat.pow_succ]; omega) (by simp at hi; omega)
    · omega

theorem number_bound (x : ByteArray) : -1 ≤ g50_0 x ∧ g50_0 x < 1000000000000 := by
  unfold g50_0
  split
  · omega
  · rename_i h
    have : x.data.toList.length = x.size := rfl
    exact num_bound x.data.toList 0 0 (by decide) (by omega)

theorem number_two {a b : Nat} (ha : a < 10) (hb : b < 10) : g50_0 ⟨⟨[D10 a, D10 b]⟩⟩ = ((10 * a + b : Nat) : Int) := by
  unfold g50_0
  rw [if_neg (by show ¬ (2 < 1 ∨ 12 < 2); omega)]
  show num50 [D10 a, D10 b] 0 = _
  simp only [num50, D10_nat ha, D10_nat hb, decide_eq_true_eq, Bool.and_eq_true]
  rw [if_pos (by omega), if_pos (by omega)]
  omega


end Go.Proofs.YtobhoepkgkmddaaDoor

/- A law that says how functions of the program and of the specification hang together. -/
set_option linter.unusedVariables false
set_option linter.unusedSimpArgs false
set_option maxRecDepth 100000
namespace Go.Proofs.YtobhoepkgkmddaaDoor
open Go Go.Am Go.Proofs

def clk (h m : Nat) : ByteArray := ⟨⟨[D10 (h / 10), D10 (h % 10), 58, D10 (m / 10), D10 (m % 10)]⟩⟩

theorem clk_inj {h m h' m' : Nat} (h1 : h < 100) (h2 : m < 100) (h3 : h' < 100) (h4 : m' < 100) (e : clk h m = clk h' m') : h = h' ∧ m = m' := by
  unfold clk at e
  simp only [ByteArray.mk.injEq, Array.mk.injEq, List.cons.injEq, and_true, true_and] at e
  obtain ⟨e1, e2, e3, e4⟩ := e
  have := D10_inj (by omega) (by omega) e1
  have := D10_inj (by omega) (by omega) e2
  have := D10_inj (by omega) (by omega) e3
  have := D10_inj (by omega) (by omega) e4
  omega

theorem clock_text {k : Nat} (h : k ≤ 1439) : g42_0 (k : Int) = clk (k / 60) (k % 60) := by
  unfold g42_0 g20_0
  have e1 : Int.tdiv (k : Int) 60 = ((k / 60 : Nat) : Int) := rfl
  have e2 : Int.tmod (k : Int) 60 = ((k % 60 : Nat) : Int) := rfl
  rw [e1, e2, (pad_two (n := k / 60) (by omega)).2, (pad_two (n := k % 60) (by omega)).2]
  have c1 : (k : Int) ≥ 0 := by omega
  have c2 : (k : Int) ≤ 1439 := by omega
  simp only [c1, c2, decide_true, if_true, Bool.not_true, Bool.false_eq_true, if_false]
  rfl

theorem clock_pre (n : Int) : P42 n := by
  unfold P42
  split
  · trivial
  · rename_i hw
    have hw' : 0 ≤ n ∧ n ≤ 1439 := by
      unfold g20_0 at hw
      by_cases c1 : n ≥ 0
      · by_cases c2 : n ≤ 1439
        · exact ⟨c1, c2⟩
        · simp [c1, c2] at hw
      · simp [c1] at hw
    obtain ⟨k, rfl⟩ : ∃ k : Nat, n = (k : Int) := Int.eq_ofNat_of_zero_le hw'.1
    have e1 : Int.tdiv (k : Int) 60 = ((k / 60 : Nat) : Int) := rfl
    have e2 : Int.tmod (k : Int) 60 = ((k % 60 : Nat) : Int) := rfl
    obtain ⟨p1, q1⟩ := pad_two (n := k / 60) (by omega)
    obtain ⟨p2, q2⟩ := pad_two (n := k % 60) (by omega)
    rw [e1, e2, q1, q2]
    refine ⟨by rw [i64_iff]; omega, p1, ?_, by rw [i64_iff]; omega, p2, ?_, trivial⟩
    · show 2 + 1 ≤ _; decide
    · show 3 + 2 ≤ _; decide

theorem clk_cut {h m : Nat} (h1 : h < 100) (h2 : m < 100) : g49_0 (clk h m) (ByteArray.mk #[58]) = ⟨⟨[D10 (h / 10), D10 (h % 10)]⟩⟩ ∧ g49_1 (clk h m) (ByteArray.mk #[58]) = ⟨⟨[D10 (m / 10), D10 (m % 10)]⟩⟩ := by
  have hn : (58 : UInt8) ∉ [D10 (h / 10), D10 (h % 10)] := fun hm => by
    simp only [List.mem_cons, List.mem_nil_iff, or_false] at hm
    rcases hm with e | e <;> (have := congrArg UInt8.toNat e; rw [D10_nat (by omega)] at this; have e58 : (58 : UInt8).toNat = 58 := rfl; omega)
  have hc : Lib.cut (clk h m).data.toList (ByteArray.mk #[58]).data.toList = ([D10 (h / 10), D10 (h % 10)], [D10 (m / 10), D10 (m % 10)], true) := cut_hit 58 _ hn
  unfold g49_0 g49_1
  rw [hc]
  exact ⟨rfl, rfl⟩

theorem clock_i1 {h m : Nat} (h1 : h ≤ 23) (h2 : m ≤ 59) : g40_0 (clk h m) = ((60 * h + m : Nat) : Int) ∧ g40_1 (clk h m) = true := by
  obtain ⟨c1, c2⟩ := clk_cut (h := h) (m := m) (by omega) (by omega)
  unfold g40_0 g40_1
  rw [c1, c2, number_two (by omega) (by omega), number_two (by omega) (by omega)]
  have e : 60 * ((10 * (h / 10) + h % 10 : Nat) : Int) + ((10 * (m / 10) + m % 10 : Nat) : Int) = ((60 * h + m : Nat) : Int) := by omega
  have e3 : (60 * h + m) / 60 = h := by omega
  have e4 : (60 * h + m) % 60 = m := by omega
  rw [e, clock_text (by omega), e3, e4]
  have ne : ¬ (ByteArray.toList (clk h m) == ByteArray.toList (ByteArray.mk #[])) = true := by
    rw [bytes_eq]
    intro hh
    have := congrArg ByteArray.size hh
    exact absurd (show (5 : Nat) = 0 from this) (by decide)
  rw [if_neg ne, if_neg ne]
  simp

theorem clock_ip {x : ByteArray} (h : x.size ≤ 1048576) : P40 x := by
  unfold P40
  have b1 := number_bound (g49_0 x (ByteArray.mk #[58]))
  have b2 := number_bound (g49_1 x (ByteArray.mk #[58]))
  refine ⟨(show x.size < 4294967281 from by omega), by rw [i64_iff]; omega, by rw [i64_iff]; omega, ?_⟩
  split
  · trivial
  · exact ⟨clock_pre _, trivial⟩

end Go.Proofs.YtobhoepkgkmddaaDoor

/- A law that says how functions of the program and of the specification hang together. -/
set_option linter.unusedVariables false
set_option linter.unusedSimpArgs false
set_option maxRecDepth 100000
namespace Go.Proofs.YtobhoepkgkmddaaDoor
open Go Go.Am Go.Proofs

end Go.Proofs.YtobhoepkgkmddaaDoor

/- A law that says how functions of the program and of the specification hang together. -/
set_option linter.unusedVariables false
set_option linter.unusedSimpArgs false
set_option maxRecDepth 100000
namespace Go.Proofs.YtobhoepkgkmddaaDoor
open Go Go.Am Go.Proofs

theorem app_list (a b : ByteArray) : (a ++ b).data.toList = a.data.toList ++ b.data.toList := by
  rw [ByteArray.data_append, Array.toList_append]

theorem split_of_three {k : UInt8} {a b c : List UInt8} (ha : k ∉ a) (hb : k ∉ b) (hc : k ∉ c) : splitC k (a ++ k :: (b ++ k :: c)) = [a, b, c] := by
  rw [splitC_hit k _ ha, splitC_hit k _ hb, splitC_free k hc]

end Go.Proofs.YtobhoepkgkmddaaDoor

/- A law that says how functions of the program and of the specification hang together. -/
set_option linter.unusedVariables false
set_option linter.unusedSimpArgs false
set_option maxRecDepth 100000
namespace Go.Proofs.YtobhoepkgkmddaaDoor
open Go Go.Am Go.Proofs
theorem name_eq (s : ByteArray) : g41_0 s = g45_0 s := by
  have hs : ∀ c, g52_0 c = (decide (97 ≤ c) && decide (c ≤ 122)) := fun c => by
    unfold g52_0
    by_cases h1 : (97 : Int) ≤ c <;> simp [h1]
  have hd : ∀ c, g53_0 c = (decide (48 ≤ c) && decide (c ≤ 57)) := fun c => by
    unfold g53_0
    by_cases h1 : (48 : Int) ≤ c <;> simp [h1]
  unfold g41_0 g45_0
  have hl := bytesOf_length s
  by_cases h1 : 1 ≤ s.size
  · cases hb : bytesOf s with
    | nil => rw [hb] at hl; simp at hl; omega
    | cons c r =>
      have hr : allI ok41 1 r = r.all fun b => g52_0 b || g53_0 b := by
        rw [← allI_plain (fun b => g52_0 b || g53_0 b) r 1]
        refine allI_congr r 1 fun j x hj => ?_
        have : (j == 0) = false := by simp; omega
        simp only [ok41, this, hs, hd, Bool.not_false, Bool.true_and]
      have h0 : ok41 0 c = g52_0 c := by simp [ok41, hs]
      simp only [allI, hr, h0, List.all_cons, List.getD_cons_zero]
      cases g52_0 c <;> simp
  · simp [h1]


end Go.Proofs.YtobhoepkgkmddaaDoor

/- A law that says how functions of the program and of the specification hang together. -/
set_option linter.unusedVariables false
set_option linter.unusedSimpArgs false
set_option maxRecDepth 100000
namespace Go.Proofs.YtobhoepkgkmddaaDoor
open Go Go.Am Go.Proofs

theorem clk_24 : clk 24 0 = ByteArray.mk #[50, 52, 58, 48, 48] := rfl

theorem clk_blank {h m : Nat} (h1 : h < 100) (h2 : m < 100) : (32 : UInt8) ∉ (clk h m).data.toList := by
  show (32 : UInt8) ∉ [D10 (h / 10), D10 (h % 10), 58, D10 (m / 10), D10 (m % 10)]
  intro hm
  have e32 : (32 : UInt8).toNat = 32 := rfl
  simp only [List.mem_cons, List.mem_nil_iff, or_false] at hm
  rcases hm with e | e | e | e | e
  · have := congrArg UInt8.toNat e; rw [D10_nat (by omega)] at this; omega
  · have := congrArg UInt8.toNat e; rw [D10_nat (by omega)] at this; omega
  · exact absurd e (by decide)
  · have := congrArg UInt8.toNat e; rw [D10_nat (by omega)] at this; omega
  · have := congrArg UInt8.toNat e; rw [D10_nat (by omega)] at this; omega

theorem clk_size (h m : Nat) : (clk h m).size = 5 := rfl

theorem day_text {n : Nat} (h : n ≤ 1440) : g33_0 (n : Int) = clk (n / 60) (n % 60) := by
  unfold g33_0
  by_cases e : n = 1440
  · subst e
    rw [if_pos (by decide)]
    rfl
  · rw [if_neg (by rw [beq_iff_eq]; omega), clock_text (by omega)]

theorem day_pre (n : Int) : P33 n := by
  unfold P33
  split
  · trivial
  · exact ⟨clock_pre n, trivial⟩

theorem day_i {n : Nat} (h : n ≤ 1440) : g31_0 (clk (n / 60) (n % 60)) = (n : Int) := by
  unfold g31_0
  by_cases e : n = 1440
  · subst e
    have e24 : (ByteArray.toList (clk (1440 / 60) (1440 % 60)) == ByteArray.toList (ByteArray.mk #[50, 52, 58, 48, 48])) = true := (bytes_eq _ _).2 rfl
    rw [if_pos e24]
    rfl
  · rw [if_neg (fun hh => by
      rw [bytes_eq, ← clk_24] at hh
      have := clk_inj (by omega) (by omega) (by omega) (by omega) hh
      omega)]
    rw [(clock_i1 (h := n / 60) (m := n % 60) (by omega) (by omega)).1]
    omega

theorem day_ip {x : ByteArray} (h : x.size ≤ 1048576) : P31 x := by
  unfold P31
  split
  · trivial
  · exact ⟨clock_ip h, trivial⟩
theorem minute_i (n : Int) : g26_0 n = (decide (0 ≤ n) && decide (n ≤ 1440)) := by
  unfold g26_0 g20_0
  by_cases c1 : n ≥ 0
  · have c1' : 0 ≤ n := c1
    by_cases c2 : n ≤ 1440 <;> simp [c1, c2]
  · have c1' : ¬ 0 ≤ n := c1
    simp [c1']
theorem minute_s (n : Int) : g24_0 n = (decide (0 ≤ n) && decide (n ≤ 1440)) := by
  unfold g24_0 g29_0
  by_cases c1 : n ≥ 0
  · have c1' : 0 ≤ n := c1
    by_cases c2 : n ≤ 1440 <;> simp [c1, c2]
  · have c1' : ¬ 0 ≤ n := c1
    simp [c1']

theorem worker_mins {a : ByteArray} {n m : Int} (h : g32_0 (a, n, m, ()) = true) : 0 ≤ n ∧ n ≤ 1440 ∧ 0 ≤ m ∧ m ≤ 1440 := by
  unfold g32_0 at h
  simp only [minute_i] at h
  split at h
  · split at h
    · rename_i h1
      split at h
      · rename_i h2
        simp only [Bool.and_eq_true, decide_eq_true_eq] at h1 h2
        exact ⟨h1.1, h1.2, h2.1, h2.2⟩
      · cases h
    · cases h
  · cases h

end Go.Proofs.YtobhoepkgkmddaaDoor

/- A law that says how functions of the program and of the specification hang together. -/
set_option linter.unusedVariables false
set_option linter.unusedSimpArgs false
set_option maxRecDepth 100000
namespace Go.Proofs.YtobhoepkgkmddaaDoor
open Go Go.Am Go.Proofs

theorem bl_asym {x y : List UInt8} (h : Op.bytesLess x y = true) : Op.bytesLess y x = false := by
  cases h2 : Op.bytesLess y x with
  | false => rfl
  | true =>
    have := bl_trans x y x h h2
    rw [bl_irrefl] at this
    cases this

theorem le_not (a b : ByteArray) : (!(Op.bytesLess (ByteArray.toList a) (ByteArray.toList b) || ByteArray.toList a == ByteArray.toList b)) = Op.bytesLess (ByteArray.toList b) (ByteArray.toList a) := by
  generalize ByteArray.toList a = x
  generalize ByteArray.toList b = y
  cases h1 : Op.bytesLess x y with
  | true => rw [bl_asym h1]; rfl
  | false =>
    cases h2 : (x == y) with
    | true =>
      have : x = y := by simpa using h2
      subst this
      rw [bl_irrefl]; rfl
    | false =>
      cases h3 : Op.bytesLess y x with
      | true => rfl
      | false =>
        have := bl_tri x y h1 h3
        subst this
        simp at h2

theorem allI_mem {α : Type} {p : Nat → α → Bool} : ∀ (l : List α) (i : Nat), allI p i l = true → ∀ x ∈ l, ∃ j, p j x = true
  | [], _, _, x, hx => by cases hx
  | y :: r, i, h, x, hx => by
    simp only [allI, Bool.and_eq_true] at h
    rcases List.mem_cons.1 hx with rfl | hx
    · exact ⟨i, h.1⟩
    · exact allI_mem r (i + 1) h.2 x hx

end Go.Proofs.YtobhoepkgkmddaaDoor

/- A law that says how functions of the program and of the specification hang together. -/
set_option linter.unusedVariables false
set_option linter.unusedSimpArgs false
set_option maxRecDepth 100000
namespace Go.Proofs.YtobhoepkgkmddaaDoor
open Go Go.Am Go.Proofs

theorem name_freeW {x : ByteArray} (h : g41_0 x = true) : (32 : UInt8) ∉ x.data.toList := fun hm => by
  unfold g41_0 at h
  rw [Bool.and_eq_true] at h
  obtain ⟨j, hj⟩ := allI_mem _ 0 h.2 ((32 : UInt8).toNat : Int) (List.mem_map.2 ⟨32, hm, rfl⟩)
  unfold ok41 at hj
  simp at hj

theorem worker_name {x : ByteArray × Int × Int × Unit} (h : g32_0 x = true) : g41_0 x.1 = true ∧ x.1.size ≤ 10 := by
  have hn : g41_0 x.1 = true := by
    unfold g32_0 at h
    split at h
    · assumption
    · cases h
  refine ⟨hn, ?_⟩
  unfold g41_0 at hn
  simp only [Bool.and_eq_true, decide_eq_true_eq] at hn
  omega

theorem wtWB {a : ByteArray} {n m : Nat} (h : g32_0 (a, (n : Int), (m : Int), ()) = true) (hn : n ≤ 1440) (hm : m ≤ 1440) :
    (g13_0 (a, (n : Int), (m : Int), ())).data.toList = a.data.toList ++ 32 :: ((clk (n / 60) (n % 60)).data.toList ++ 32 :: (clk (m / 60) (m % 60)).data.toList) := by
  unfold g13_0
  rw [if_neg (by rw [h]; simp)]
  simp only [day_text hn, day_text hm, app_list, List.append_assoc]
  rfl

theorem ptWB (a : ByteArray) (n m : Int) (hs : a.size ≤ 1048576) : P13 (a, n, m, ()) := by
  unfold P13
  split
  · trivial
  · rename_i h
    obtain ⟨h1, h2, h3, h4⟩ := worker_mins (a := a) (n := n) (m := m) (by simpa using h)
    obtain ⟨n, rfl⟩ := Int.eq_ofNat_of_zero_le h1
    obtain ⟨m, rfl⟩ := Int.eq_ofNat_of_zero_le h3
    have e1 : (ByteArray.mk #[32]).size = 1 := rfl
    simp only [day_text (show n ≤ 1440 by omega), day_text (show m ≤ 1440 by omega), ByteArray.size_append, clk_size, e1]
    exact ⟨by omega, day_pre _, by omega, by omega, day_pre _, by omega, trivial⟩

theorem work_back {x : ByteArray × Int × Int × Unit} (h : g32_0 x = true) :
    P13 x ∧ P12 (g13_0 x) ∧ g12_1 (g13_0 x) = true ∧ g12_0 (g13_0 x) = x := by
  obtain ⟨hname, hsz⟩ := worker_name h
  obtain ⟨a, n, m, u⟩ := x
  obtain rfl : u = () := rfl
  obtain ⟨h1, h2, h3, h4⟩ := worker_mins h
  obtain ⟨n, rfl⟩ := Int.eq_ofNat_of_zero_le h1
  obtain ⟨m, rfl⟩ := Int.eq_ofNat_of_zero_le h3
  have hn : n ≤ 1440 := by omega
  have hm : m ≤ 1440 := by omega
  have ht := wtWB h hn hm
  have hsz : a.size ≤ 10 := hsz
  have hsx := split_of_three (k := 32) (name_freeW hname) (clk_blank (h := n / 60) (m := n % 60) (by omega) (by omega)) (clk_blank (h := m / 60) (m := m % 60) (by omega) (by omega))
  rw [← ht] at hsx
  have p1 : P13 (a, (n : Int), (m : Int), ()) := ptWB a n m (by omega)
  have hts : (g13_0 (a, (n : Int), (m : Int), ())).size ≤ 100 := by
    have e := congrArg List.length ht
    have e2 : (g13_0 (a, (n : Int), (m : Int), ())).data.toList.length = (g13_0 (a, (n : Int), (m : Int), ())).size := rfl
    have e3 : a.data.toList.length = a.size := rfl
    have e4 : ∀ p q : Nat, (clk p q).data.toList.length = 5 := fun _ _ => rfl
    simp only [List.length_append, List.length_cons, e4] at e
    omega
  have ea : (⟨⟨a.data.toList⟩⟩ : ByteArray) = a := rfl
  have hsp : g30_0 (g13_0 (a, (n : Int), (m : Int), ())) (ByteArray.mk #[32]) = [a, clk (n / 60) (n % 60), clk (m / 60) (m % 60)] := by
    have := splitB_one 32 (g13_0 (a, (n : Int), (m : Int), ()))
    rw [hsx] at this
    exact this
  have hps : P30 (g13_0 (a, (n : Int), (m : Int), ())) (ByteArray.mk #[32]) := ⟨by omega, Nat.le_refl 1⟩
  have d0 : List.getD [a, clk (n / 60) (n % 60), clk (m / 60) (m % 60)] 0 ByteArray.empty = a := rfl
  have d1 : List.getD [a, clk (n / 60) (n % 60), clk (m / 60) (m % 60)] 1 ByteArray.empty = clk (n / 60) (n % 60) := rfl
  have d2 : List.getD [a, clk (n / 60) (n % 60), clk (m / 60) (m % 60)] 2 ByteArray.empty = clk (m / 60) (m % 60) := rfl
  have n0 : ((([a, clk (n / 60) (n % 60), clk (m / 60) (m % 60)].length : Nat) : Int) != 3) = false := rfl
  have l0 : (0 : Int) < (([a, clk (n / 60) (n % 60), clk (m / 60) (m % 60)].length : Nat) : Int) := by show (0 : Int) < 3; decide
  have l1 : (1 : Int) < (([a, clk (n / 60) (n % 60), clk (m / 60) (m % 60)].length : Nat) : Int) := by show (1 : Int) < 3; decide
  have l2 : (2 : Int) < (([a, clk (n / 60) (n % 60), clk (m / 60) (m % 60)].length : Nat) : Int) := by show (2 : Int) < 3; decide
  have pc : ∀ p q : Nat, P31 (clk p q) := fun p q => day_ip (by rw [clk_size]; omega)
  have hb : (!ByteArray.toList (g13_0 (a, (n : Int), (m : Int), ())) == ByteArray.toList (g13_0 (a, (n : Int), (m : Int), ()))) = false := by simp
  refine ⟨p1, ?_, ?_, ?_⟩
  · unfold P12
    rw [hsp]
    refine ⟨hps, ?_⟩
    rw [n0, if_neg (by decide), d0, d1, d2]
    refine ⟨l0, l1, pc _ _, l2, pc _ _, ?_, trivial⟩
    rw [day_i hn, day_i hm]
    exact p1
  · unfold g12_1
    rw [hsp, n0, d0, d1, d2, day_i hn, day_i hm, hb]
    rfl
  · unfold g12_0
    rw [hsp, n0, d0, d1, d2, day_i hn, day_i hm, hb]
    rfl

end Go.Proofs.YtobhoepkgkmddaaDoor

/- A law that says how functions of the program and of the specification hang together. -/
set_option linter.unusedVariables false
set_option linter.unusedSimpArgs false
set_option maxRecDepth 100000
namespace Go.Proofs.YtobhoepkgkmddaaDoor
open Go Go.Am Go.Proofs

theorem one_Worker (x : (ByteArray × Int × Int × Unit)) : g32_0 x = g38_0 x := by
  unfold g32_0 g38_0
  rw [name_eq]
  rfl

theorem list_Worker (xs : List (ByteArray × Int × Int × Unit)) : g37_0 xs = g23_0 xs := by
  unfold g37_0 g23_0
  congr 1
  refine allI_congr xs 0 fun j y _ => ?_
  unfold ok37 ok23
  rw [one_Worker, le_not]

end Go.Proofs.YtobhoepkgkmddaaDoor

/- Function 3 (laws.FnWorkers): its runs between cut points. Written by a program of this repo (gen). -/
set_option linter.unusedVariables false
set_option linter.unusedSimpArgs false
set_option maxRecDepth 100000
namespace Go.Proofs.YtobhoepkgkmddaaDoor
open Go Go.Am Go.Proofs
noncomputable section
def ext3 : Ext := [(4, S4), (5, S5), (6, S6), (7, S7), (8, S8), (9, S9), (10, S10), (11, S11), (13, S13), (12, S12)]
theorem call3_4 : Callable Tryd.prog 4 := ⟨Tryd.f4, Tryd.func4, by kernel_rfl, by kernel_rfl⟩
theorem call3_5 : Callable Tryd.prog 5 := ⟨Tryd.f5, Tryd.func5, by kernel_rfl, by kernel_rfl⟩
theorem call3_6 : Callable Tryd.prog 6 := ⟨Tryd.f6, Tryd.func6, by kernel_rfl, by kernel_rfl⟩
theorem call3_7 : Callable Tryd.prog 7 := ⟨Tryd.f7, Tryd.func7, by kernel_rfl, by kernel_rfl⟩
theorem call3_8 : Callable Tryd.prog 8 := ⟨Tryd.f8, Tryd.func8, by kernel_rfl, by kernel_rfl⟩
theorem call3_9 : Callable Tryd.prog 9 := ⟨Tryd.f9, Tryd.func9, by kernel_rfl, by kernel_rfl⟩
theorem call3_10 : Callable Tryd.prog 10 := ⟨Tryd.f10, Tryd.func10, by kernel_rfl, by kernel_rfl⟩
theorem call3_11 : Callable Tryd.prog 11 := ⟨Tryd.f11, Tryd.func11, by kernel_rfl, by kernel_rfl⟩
theorem call3_13 : Callable Tryd.prog 13 := ⟨Tryd.f13, Tryd.func13, by kernel_rfl, by kernel_rfl⟩
theorem call3_12 : Callable Tryd.prog 12 := ⟨Tryd.f12, Tryd.func12, by kernel_rfl, by kernel_rfl⟩
theorem ext3Ok : ExtOk Tryd.prog ext3 := ⟨⟨call3_4, con4⟩, ⟨call3_5, con5⟩, ⟨call3_6, con6⟩, ⟨call3_7, con7⟩, ⟨call3_8, con8⟩, ⟨call3_9, con9⟩, ⟨call3_10, con10⟩, ⟨call3_11, con11⟩, ⟨call3_13, con13⟩, ⟨call3_12, con12⟩, trivial⟩

noncomputable def b3 : Code := bodyOf Tryd.f3
theorem hb3 : Tryd.f3.body = some b3 := by kernel_rfl
def sig3 : List AT := [AT.v (Ty.sl (Ty.int IntKind.u8)), AT.v (Ty.sl (Ty.int IntKind.u8))]
def tys3 : List Ty := [Ty.bool]
def kds3 : List RK := []
def oks3 : List AT := owns sig3
def E3_3 (x0 : List Int) (x1 : List Int) : Env := [(0, PV.a (Atom.sl (Ty.int IntKind.u8) x0)), (1, PV.a (Atom.sl (Ty.int IntKind.u8) x1))]
def L3_3 (x0 : List Int) (x1 : List Int) : Heap := []
def E3_8 (v11 : Int) (v12 : Int) (x1 : List Int) (x0 : List Int) : Env := [(1, PV.a (Atom.sl (Ty.int IntKind.u8) x1)), (5, PV.a (Atom.sl (Ty.cons Ty.str (Ty.cons (Ty.int IntKind.i64) (Ty.cons (Ty.int IntKind.i64) Ty.unit))) (g5_0 x0))), (6, PV.a (Atom.val (Value.int IntKind.i64 (g5_1 x0)))), (7, PV.a (Atom.val (Value.int IntKind.i64 (g5_2 x0)))), (8, PV.a (Atom.val (Value.int IntKind.i64 (g5_3 x0)))), (9, PV.a (Atom.sl (Ty.sl (Ty.int IntKind.i64)) (g6_0 (g5_0 x0) (g5_1 x0) (g5_2 x0) (g5_3 x0)))), (11, PV.a (Atom.val (Value.int IntKind.i64 v11))), (12, PV.a (Atom.val (Value.int IntKind.i64 v12)))]
def L3_8 (v11 : Int) (v12 : Int) (x1 : List Int) (x0 : List Int) : Heap := []
def E3_28 (x1 : List Int) : Env := [(1, PV.a (Atom.sl (Ty.int IntKind.u8) x1))]
def L3_28 (x1 : List Int) : Heap := []
def E3_10 (x1 : List Int) (x0 : List Int) (v11 : Int) (v12 : Int) : Env := [(1, PV.a (Atom.sl (Ty.int IntKind.u8) x1)), (5, PV.a (Atom.sl (Ty.cons Ty.str (Ty.cons (Ty.int IntKind.i64) (Ty.cons (Ty.int IntKind.i64) Ty.unit))) (g5_0 x0))), (6, PV.a (Atom.val (Value.int IntKind.i64 (g5_1 x0)))), (7, PV.a (Atom.val (Value.int IntKind.i64 (g5_2 x0)))), (8, PV.a (Atom.val (Value.int IntKind.i64 (g5_3 x0)))), (9, PV.a (Atom.sl (Ty.sl (Ty.int IntKind.i64)) (g6_0 (g5_0 x0) (g5_1 x0) (g5_2 x0) (g5_3 x0)))), (11, PV.a (Atom.val (Value.int IntKind.i64 v11))), (12, PV.a (Atom.val (Value.int IntKind.i64 v12))), (59, PV.a (Atom.val (Value.int IntKind.i64 v12))), (60, PV.a (Atom.val (Value.int IntKind.i64 (g5_1 x0)))), (61, PV.a (Atom.val (Value.int IntKind.i64 (g5_1 x0 + 400)))), (62, PV.a (Atom.val (Value.bool (Decidable.decide (v12 < g5_1 x0 + 400)))))]
def L3_10 (x1 : List Int) (x0 : List Int) (v11 : Int) (v12 : Int) : Heap := []
def E3_16 (v11 : Int) (v15 : Int) (x1 : List Int) (x0 : List Int) : Env := [(1, PV.a (Atom.sl (Ty.int IntKind.u8) x1)), (5, PV.a (Atom.sl (Ty.cons Ty.str (Ty.cons (Ty.int IntKind.i64) (Ty.cons (Ty.int IntKind.i64) Ty.unit))) (g5_0 x0))), (6, PV.a (Atom.val (Value.int IntKind.i64 (g5_1 x0)))), (7, PV.a (Atom.val (Value.int IntKind.i64 (g5_2 x0)))), (8, PV.a (Atom.val (Value.int IntKind.i64 (g5_3 x0)))), (9, PV.a (Atom.sl (Ty.sl (Ty.int IntKind.i64)) (g6_0 (g5_0 x0) (g5_1 x0) (g5_2 x0) (g5_3 x0)))), (11, PV.a (Atom.val (Value.int IntKind.i64 v11))), (15, PV.a (Atom.val (Value.int IntKind.i64 v15)))]
def L3_16 (v11 : Int) (v15 : Int) (x1 : List Int) (x0 : List Int) : Heap := []
def E3_33 (x1 : List Int) : Env := [(18, PV.a (Atom.sl (Ty.cons Ty.str (Ty.cons (Ty.int IntKind.i64) (Ty.cons (Ty.int IntKind.i64) Ty.unit))) (g9_0 x1))), (19, PV.a (Atom.val (Value.int IntKind.i64 (g9_1 x1)))), (20, PV.a (Atom.val (Value.int IntKind.i64 (g9_2 x1)))), (21, PV.a (Atom.osl 0 Option.none)), (23, PV.a (Atom.sl (Ty.sl (Ty.int IntKind.i64)) (g11_0 (g9_0 x1) (g9_1 x1) (g9_2 x1) 1))), (24, PV.a (Atom.val (Value.int IntKind.i64 (g11_1 (g9_0 x1) (g9_1 x1) (g9_2 x1) 1))))]
def L3_33 (x1 : List Int) : Heap := [Option.some (Arr.mk (Ty.int IntKind.i64) (g10_0 (g9_0 x1) (g9_1 x1) (g9_2 x1)) Bool.false Option.none Option.none)]
def E3_13 (x1 : List Int) (x0 : List Int) (v11 : Int) (v12 : Int) : Env := [(1, PV.a (Atom.sl (Ty.int IntKind.u8) x1)), (5, PV.a (Atom.sl (Ty.cons Ty.str (Ty.cons (Ty.int IntKind.i64) (Ty.cons (Ty.int IntKind.i64) Ty.unit))) (g5_0 x0))), (6, PV.a (Atom.val (Value.int IntKind.i64 (g5_1 x0)))), (7, PV.a (Atom.val (Value.int IntKind.i64 (g5_2 x0)))), (8, PV.a (Atom.val (Value.int IntKind.i64 (g5_3 x0)))), (9, PV.a (Atom.sl (Ty.sl (Ty.int IntKind.i64)) (g6_0 (g5_0 x0) (g5_1 x0) (g5_2 x0) (g5_3 x0)))), (11, PV.a (Atom.val (Value.int IntKind.i64 v11))), (12, PV.a (Atom.val (Value.int IntKind.i64 v12))), (13, PV.a (Atom.osl 0 Option.none)), (59, PV.a (Atom.val (Value.int IntKind.i64 v12))), (60, PV.a (Atom.val (Value.int IntKind.i64 (g5_1 x0)))), (61, PV.a (Atom.val (Value.int IntKind.i64 (g5_1 x0 + 400)))), (62, PV.a (Atom.val (Value.bool (Decidable.decide (v12 < g5_1 x0 + 400)))))]
def L3_13 (x1 : List Int) (x0 : List Int) (v11 : Int) (v12 : Int) : Heap := [Option.some (Arr.mk (Ty.int IntKind.i64) (g7_0 (g5_0 x0) v12) Bool.false Option.none Option.none)]
def E3_18 (x1 : List Int) (x0 : List Int) (v11 : Int) (v15 : Int) : Env := [(1, PV.a (Atom.sl (Ty.int IntKind.u8) x1)), (5, PV.a (Atom.sl (Ty.cons Ty.str (Ty.cons (Ty.int IntKind.i64) (Ty.cons (Ty.int IntKind.i64) Ty.unit))) (g5_0 x0))), (6, PV.a (Atom.val (Value.int IntKind.i64 (g5_1 x0)))), (7, PV.a (Atom.val (Value.int IntKind.i64 (g5_2 x0)))), (8, PV.a (Atom.val (Value.int IntKind.i64 (g5_3 x0)))), (9, PV.a (Atom.sl (Ty.sl (Ty.int IntKind.i64)) (g6_0 (g5_0 x0) (g5_1 x0) (g5_2 x0) (g5_3 x0)))), (11, PV.a (Atom.val (Value.int IntKind.i64 v11))), (15, PV.a (Atom.val (Value.int IntKind.i64 v15)))]
def L3_18 (x1 : List Int) (x0 : List Int) (v11 : Int) (v15 : Int) : Heap := []
def E3_35 (x1 : List Int) : Env := [(18, PV.a (Atom.sl (Ty.cons Ty.str (Ty.cons (Ty.int IntKind.i64) (Ty.cons (Ty.int IntKind.i64) Ty.unit))) (g9_0 x1))), (19, PV.a (Atom.val (Value.int IntKind.i64 (g9_1 x1)))), (20, PV.a (Atom.val (Value.int IntKind.i64 (g9_2 x1)))), (21, PV.a (Atom.osl 0 Option.none))]
def L3_35 (x1 : List Int) : Heap := [Option.some (Arr.mk (Ty.int IntKind.i64) (g10_0 (g9_0 x1) (g9_1 x1) (g9_2 x1)) Bool.false Option.none Option.none)]
def E3_9 (v11 : Int) (x1 : List Int) (x0 : List Int) (v12 : Int) : Env := [(1, PV.a (Atom.sl (Ty.int IntKind.u8) x1)), (5, PV.a (Atom.sl (Ty.cons Ty.str (Ty.cons (Ty.int IntKind.i64) (Ty.cons (Ty.int IntKind.i64) Ty.unit))) (g5_0 x0))), (6, PV.a (Atom.val (Value.int IntKind.i64 (g5_1 x0)))), (7, PV.a (Atom.val (Value.int IntKind.i64 (g5_2 x0)))), (8, PV.a (Atom.val (Value.int IntKind.i64 (g5_3 x0)))), (9, PV.a (Atom.sl (Ty.sl (Ty.int IntKind.i64)) (g6_0 (g5_0 x0) (g5_1 x0) (g5_2 x0) (g5_3 x0)))), (11, PV.a (Atom.val (Value.int IntKind.i64 v11))), (12, PV.a (Atom.val (Value.int IntKind.i64 v12))), (59, PV.a (Atom.val (Value.int IntKind.i64 v12))), (60, PV.a (Atom.val (Value.int IntKind.i64 (g5_1 x0)))), (61, PV.a (Atom.val (Value.int IntKind.i64 (g5_1 x0 + 400)))), (62, PV.a (Atom.val (Value.bool (Decidable.decide (v12 < g5_1 x0 + 400)))))]
def L3_9 (v11 : Int) (x1 : List Int) (x0 : List Int) (v12 : Int) : Heap := []
def E3_20 (v145 : Bool) (x1 : List Int) (x0 : List Int) (v11 : Int) (v15 : Int) : Env := [(1, PV.a (Atom.sl (Ty.int IntKind.u8) x1)), (5, PV.a (Atom.sl (Ty.cons Ty.str (Ty.cons (Ty.int IntKind.i64) (Ty.cons (Ty.int IntKind.i64) Ty.unit))) (g5_0 x0))), (6, PV.a (Atom.val (Value.int IntKind.i64 (g5_1 x0)))), (7, PV.a (Atom.val (Value.int IntKind.i64 (g5_2 x0)))), (8, PV.a (Atom.val (Value.int IntKind.i64 (g5_3 x0)))), (9, PV.a (Atom.sl (Ty.sl (Ty.int IntKind.i64)) (g6_0 (g5_0 x0) (g5_1 x0) (g5_2 x0) (g5_3 x0)))), (11, PV.a (Atom.val (Value.int IntKind.i64 v11))), (15, PV.a (Atom.val (Value.int IntKind.i64 v15))), (93, PV.a (Atom.sl (Ty.sl (Ty.int IntKind.i64)) (g6_0 (g5_0 x0) (g5_1 x0) (g5_2 x0) (g5_3 x0)))), (94, PV.a (Atom.val (Value.int IntKind.i64 v15))), (95, PV.a (Atom.ptr (Ty.sl (Ty.int IntKind.i64)) (List.getD (g6_0 (g5_0 x0) (g5_1 x0) (g5_2 x0) (g5_3 x0)) (Int.toNat v15) []))), (96, PV.a (Atom.sl (Ty.int IntKind.i64) (List.getD (g6_0 (g5_0 x0) (g5_1 x0) (g5_2 x0) (g5_3 x0)) (Int.toNat v15) []))), (97, PV.a (Atom.ptr (Ty.int IntKind.i64) (List.getD (List.getD (g6_0 (g5_0 x0) (g5_1 x0) (g5_2 x0) (g5_3 x0)) (Int.toNat v15) []) 0 0))), (98, PV.a (Atom.val (Value.int IntKind.i64 (List.getD (List.getD (g6_0 (g5_0 x0) (g5_1 x0) (g5_2 x0) (g5_3 x0)) (Int.toNat v15) []) 0 0)))), (99, PV.a (Atom.val (Value.int IntKind.i64 (g5_1 x0)))), (100, PV.a (Atom.val (Value.bool (Decidable.decide (List.getD (List.getD (g6_0 (g5_0 x0) (g5_1 x0) (g5_2 x0) (g5_3 x0)) (Int.toNat v15) []) 0 0 < g5_1 x0))))), (103, PV.a (Atom.sl (Ty.sl (Ty.int IntKind.i64)) (g6_0 (g5_0 x0) (g5_1 x0) (g5_2 x0) (g5_3 x0)))), (104, PV.a (Atom.val (Value.int IntKind.i64 v15))), (105, PV.a (Atom.ptr (Ty.sl (Ty.int IntKind.i64)) (List.getD (g6_0 (g5_0 x0) (g5_1 x0) (g5_2 x0) (g5_3 x0)) (Int.toNat v15) []))), (106, PV.a (Atom.sl (Ty.int IntKind.i64) (List.getD (g6_0 (g5_0 x0) (g5_1 x0) (g5_2 x0) (g5_3 x0)) (Int.toNat v15) []))), (107, PV.a (Atom.ptr (Ty.int IntKind.i64) (List.getD (List.getD (g6_0 (g5_0 x0) (g5_1 x0) (g5_2 x0) (g5_3 x0)) (Int.toNat v15) []) 1 0))), (108, PV.a (Atom.val (Value.int IntKind.i64 (List.getD (List.getD (g6_0 (g5_0 x0) (g5_1 x0) (g5_2 x0) (g5_3 x0)) (Int.toNat v15) []) 1 0)))), (109, PV.a (Atom.val (Value.int IntKind.i64 (g5_2 x0)))), (110, PV.a (Atom.val (Value.bool (Decidable.decide (List.getD (List.getD (g6_0 (g5_0 x0) (g5_1 x0) (g5_2 x0) (g5_3 x0)) (Int.toNat v15) []) 1 0 > g5_2 x0))))), (113, PV.a (Atom.sl (Ty.sl (Ty.int IntKind.i64)) (g6_0 (g5_0 x0) (g5_1 x0) (g5_2 x0) (g5_3 x0)))), (114, PV.a (Atom.val (Value.int IntKind.i64 v15))), (115, PV.a (Atom.ptr (Ty.sl (Ty.int IntKind.i64)) (List.getD (g6_0 (g5_0 x0) (g5_1 x0) (g5_2 x0) (g5_3 x0)) (Int.toNat v15) []))), (116, PV.a (Atom.sl (Ty.int IntKind.i64) (List.getD (g6_0 (g5_0 x0) (g5_1 x0) (g5_2 x0) (g5_3 x0)) (Int.toNat v15) []))), (117, PV.a (Atom.ptr (Ty.int IntKind.i64) (List.getD (List.getD (g6_0 (g5_0 x0) (g5_1 x0) (g5_2 x0) (g5_3 x0)) (Int.toNat v15) []) 0 0))), (118, PV.a (Atom.val (Value.int IntKind.i64 (List.getD (List.getD (g6_0 (g5_0 x0) (g5_1 x0) (g5_2 x0) (g5_3 x0)) (Int.toNat v15) []) 0 0)))), (119, PV.a (Atom.sl (Ty.sl (Ty.int IntKind.i64)) (g6_0 (g5_0 x0) (g5_1 x0) (g5_2 x0) (g5_3 x0)))), (120, PV.a (Atom.val (Value.int IntKind.i64 v15))), (121, PV.a (Atom.ptr (Ty.sl (Ty.int IntKind.i64)) (List.getD (g6_0 (g5_0 x0) (g5_1 x0) (g5_2 x0) (g5_3 x0)) (Int.toNat v15) []))), (122, PV.a (Atom.sl (Ty.int IntKind.i64) (List.getD (g6_0 (g5_0 x0) (g5_1 x0) (g5_2 x0) (g5_3 x0)) (Int.toNat v15) []))), (123, PV.a (Atom.ptr (Ty.int IntKind.i64) (List.getD (List.getD (g6_0 (g5_0 x0) (g5_1 x0) (g5_2 x0) (g5_3 x0)) (Int.toNat v15) []) 1 0))), (124, PV.a (Atom.val (Value.int IntKind.i64 (List.getD (List.getD (g6_0 (g5_0 x0) (g5_1 x0) (g5_2 x0) (g5_3 x0)) (Int.toNat v15) []) 1 0)))), (125, PV.a (Atom.val (Value.bool (Decidable.decide (List.getD (List.getD (g6_0 (g5_0 x0) (g5_1 x0) (g5_2 x0) (g5_3 x0)) (Int.toNat v15) []) 0 0 ≥ List.getD (List.getD (g6_0 (g5_0 x0) (g5_1 x0) (g5_2 x0) (g5_3 x0)) (Int.toNat v15) []) 1 0))))), (128, PV.a (Atom.val (Value.int IntKind.i64 v15))), (129, PV.a (Atom.val (Value.bool (Decidable.decide (v15 > 0))))), (130, PV.a (Atom.val (Value.bool (Decidable.decide (v15 > 0))))), (145, PV.a (Atom.val (Value.bool v145)))]
def L3_20 (v145 : Bool) (x1 : List Int) (x0 : List Int) (v11 : Int) (v15 : Int) : Heap := []
def E3_37 (v25 : Int) (v26 : Int) (x1 : List Int) : Env := [(18, PV.a (Atom.sl (Ty.cons Ty.str (Ty.cons (Ty.int IntKind.i64) (Ty.cons (Ty.int IntKind.i64) Ty.unit))) (g9_0 x1))), (20, PV.a (Atom.val (Value.int IntKind.i64 (g9_2 x1)))), (21, PV.a (Atom.osl 0 Option.none)), (25, PV.a (Atom.val (Value.int IntKind.i64 v25))), (26, PV.a (Atom.val (Value.int IntKind.i64 v26)))]
def L3_37 (v25 : Int) (v26 : Int) (x1 : List Int) : Heap := [Option.some (Arr.mk (Ty.int IntKind.i64) (g10_0 (g9_0 x1) (g9_1 x1) (g9_2 x1)) Bool.false Option.none Option.none)]
def E3_23 (x1 : List Int) (x0 : List Int) (v11 : Int) (v15 : Int) (v145 : Bool) : Env := [(1, PV.a (Atom.sl (Ty.int IntKind.u8) x1)), (5, PV.a (Atom.sl (Ty.cons Ty.str (Ty.cons (Ty.int IntKind.i64) (Ty.cons (Ty.int IntKind.i64) Ty.unit))) (g5_0 x0))), (6, PV.a (Atom.val (Value.int IntKind.i64 (g5_1 x0)))), (7, PV.a (Atom.val (Value.int IntKind.i64 (g5_2 x0)))), (8, PV.a (Atom.val (Value.int IntKind.i64 (g5_3 x0)))), (9, PV.a (Atom.sl (Ty.sl (Ty.int IntKind.i64)) (g6_0 (g5_0 x0) (g5_1 x0) (g5_2 x0) (g5_3 x0)))), (11, PV.a (Atom.val (Value.int IntKind.i64 v11))), (15, PV.a (Atom.val (Value.int IntKind.i64 v15))), (93, PV.a (Atom.sl (Ty.sl (Ty.int IntKind.i64)) (g6_0 (g5_0 x0) (g5_1 x0) (g5_2 x0) (g5_3 x0)))), (94, PV.a (Atom.val (Value.int IntKind.i64 v15))), (95, PV.a (Atom.ptr (Ty.sl (Ty.int IntKind.i64)) (List.getD (g6_0 (g5_0 x0) (g5_1 x0) (g5_2 x0) (g5_3 x0)) (Int.toNat v15) []))), (96, PV.a (Atom.sl (Ty.int IntKind.i64) (List.getD (g6_0 (g5_0 x0) (g5_1 x0) (g5_2 x0) (g5_3 x0)) (Int.toNat v15) []))), (97, PV.a (Atom.ptr (Ty.int IntKind.i64) (List.getD (List.getD (g6_0 (g5_0 x0) (g5_1 x0) (g5_2 x0) (g5_3 x0)) (Int.toNat v15) []) 0 0))), (98, PV.a (Atom.val (Value.int IntKind.i64 (List.getD (List.getD (g6_0 (g5_0 x0) (g5_1 x0) (g5_2 x0) (g5_3 x0)) (Int.toNat v15) []) 0 0)))), (99, PV.a (Atom.val (Value.int IntKind.i64 (g5_1 x0)))), (100, PV.a (Atom.val (Value.bool (Decidable.decide (List.getD (List.getD (g6_0 (g5_0 x0) (g5_1 x0) (g5_2 x0) (g5_3 x0)) (Int.toNat v15) []) 0 0 < g5_1 x0))))), (103, PV.a (Atom.sl (Ty.sl (Ty.int IntKind.i64)) (g6_0 (g5_0 x0) (g5_1 x0) (g5_2 x0) (g5_3 x0)))), (104, PV.a (Atom.val (Value.int IntKind.i64 v15))), (105, PV.a (Atom.ptr (Ty.sl (Ty.int IntKind.i64)) (List.getD (g6_0 (g5_0 x0) (g5_1 x0) (g5_2 x0) (g5_3 x0)) (Int.toNat v15) []))), (106, PV.a (Atom.sl (Ty.int IntKind.i64) (List.getD (g6_0 (g5_0 x0) (g5_1 x0) (g5_2 x0) (g5_3 x0)) (Int.toNat v15) []))), (107, PV.a (Atom.ptr (Ty.int IntKind.i64) (List.getD (List.getD (g6_0 (g5_0 x0) (g5_1 x0) (g5_2 x0) (g5_3 x0)) (Int.toNat v15) []) 1 0))), (108, PV.a (Atom.val (Value.int IntKind.i64 (List.getD (List.getD (g6_0 (g5_0 x0) (g5_1 x0) (g5_2 x0) (g5_3 x0)) (Int.toNat v15) []) 1 0)))), (109, PV.a (Atom.val (Value.int IntKind.i64 (g5_2 x0)))), (110, PV.a (Atom.val (Value.bool (Decidable.decide (List.getD (List.getD (g6_0 (g5_0 x0) (g5_1 x0) (g5_2 x0) (g5_3 x0)) (Int.toNat v15) []) 1 0 > g5_2 x0))))), (113, PV.a (Atom.sl (Ty.sl (Ty.int IntKind.i64)) (g6_0 (g5_0 x0) (g5_1 x0) (g5_2 x0) (g5_3 x0)))), (114, PV.a (Atom.val (Value.int IntKind.i64 v15))), (115, PV.a (Atom.ptr (Ty.sl (Ty.int IntKind.i64)) (List.getD (g6_0 (g5_0 x0) (g5_1 x0) (g5_2 x0) (g5_3 x0)) (Int.toNat v15) []))), (116, PV.a (Atom.sl (Ty.int IntKind.i64) (List.getD (g6_0 (g5_0 x0) (g5_1 x0) (g5_2 x0) (g5_3 x0)) (Int.toNat v15) []))), (117, PV.a (Atom.ptr (Ty.int IntKind.i64) (List.getD (List.getD (g6_0 (g5_0 x0) (g5_1 x0) (g5_2 x0) (g5_3 x0)) (Int.toNat v15) []) 0 0))), (118, PV.a (Atom.val (Value.int IntKind.i64 (List.getD (List.getD (g6_0 (g5_0 x0) (g5_1 x0) (g5_2 x0) (g5_3 x0)) (Int.toNat v15) []) 0 0)))), (119, PV.a (Atom.sl (Ty.sl (Ty.int IntKind.i64)) (g6_0 (g5_0 x0) (g5_1 x0) (g5_2 x0) (g5_3 x0)))), (120, PV.a (Atom.val (Value.int IntKind.i64 v15))), (121, PV.a (Atom.ptr (Ty.sl (Ty.int IntKind.i64)) (List.getD (g6_0 (g5_0 x0) (g5_1 x0) (g5_2 x0) (g5_3 x0)) (Int.toNat v15) []))), (122, PV.a (Atom.sl (Ty.int IntKind.i64) (List.getD (g6_0 (g5_0 x0) (g5_1 x0) (g5_2 x0) (g5_3 x0)) (Int.toNat v15) []))), (123, PV.a (Atom.ptr (Ty.int IntKind.i64) (List.getD (List.getD (g6_0 (g5_0 x0) (g5_1 x0) (g5_2 x0) (g5_3 x0)) (Int.toNat v15) []) 1 0))), (124, PV.a (Atom.val (Value.int IntKind.i64 (List.getD (List.getD (g6_0 (g5_0 x0) (g5_1 x0) (g5_2 x0) (g5_3 x0)) (Int.toNat v15) []) 1 0)))), (125, PV.a (Atom.val (Value.bool (Decidable.decide (List.getD (List.getD (g6_0 (g5_0 x0) (g5_1 x0) (g5_2 x0) (g5_3 x0)) (Int.toNat v15) []) 0 0 ≥ List.getD (List.getD (g6_0 (g5_0 x0) (g5_1 x0) (g5_2 x0) (g5_3 x0)) (Int.toNat v15) []) 1 0))))), (128, PV.a (Atom.val (Value.int IntKind.i64 v15))), (129, PV.a (Atom.val (Value.bool (Decidable.decide (v15 > 0))))), (130, PV.a (Atom.val (Value.bool (Decidable.decide (v15 > 0))))), (145, PV.a (Atom.val (Value.bool v145))), (161, PV.a (Atom.osl 0 Option.none)), (162, PV.a (Atom.val (Value.int IntKind.i64 (↑(List.length (g8_0 (g5_0 x0) (List.getD (List.getD (g6_0 (g5_0 x0) (g5_1 x0) (g5_2 x0) (g5_3 x0)) (Int.toNat v15) []) 0 0))) : Int)))), (163, PV.a (Atom.val (Value.int IntKind.i64 (g5_3 x0)))), (164, PV.a (Atom.val (Value.bool (Decidable.decide ((↑(List.length (g8_0 (g5_0 x0) (List.getD (List.getD (g6_0 (g5_0 x0) (g5_1 x0) (g5_2 x0) (g5_3 x0)) (Int.toNat v15) []) 0 0))) : Int) ≥ g5_3 x0)))))]
def L3_23 (x1 : List Int) (x0 : List Int) (v11 : Int) (v15 : Int) (v145 : Bool) : Heap := [Option.some (Arr.mk (Ty.int IntKind.i64) (g8_0 (g5_0 x0) (List.getD (List.getD (g6_0 (g5_0 x0) (g5_1 x0) (g5_2 x0) (g5_3 x0)) (Int.toNat v15) []) 0 0)) Bool.false Option.none Option.none)]
def E3_39 (x1 : List Int) (v25 : Int) (v26 : Int) : Env := [(18, PV.a (Atom.sl (Ty.cons Ty.str (Ty.cons (Ty.int IntKind.i64) (Ty.cons (Ty.int IntKind.i64) Ty.unit))) (g9_0 x1))), (20, PV.a (Atom.val (Value.int IntKind.i64 (g9_2 x1)))), (21, PV.a (Atom.osl 0 Option.none)), (25, PV.a (Atom.val (Value.int IntKind.i64 v25))), (26, PV.a (Atom.val (Value.int IntKind.i64 v26)))]
def L3_39 (x1 : List Int) (v25 : Int) (v26 : Int) : Heap := [Option.some (Arr.mk (Ty.int IntKind.i64) (g10_0 (g9_0 x1) (g9_1 x1) (g9_2 x1)) Bool.false Option.none Option.none)]
def E3_17 (x1 : List Int) (x0 : List Int) (v11 : Int) (v15 : Int) (v145 : Bool) : Env := [(1, PV.a (Atom.sl (Ty.int IntKind.u8) x1)), (5, PV.a (Atom.sl (Ty.cons Ty.str (Ty.cons (Ty.int IntKind.i64) (Ty.cons (Ty.int IntKind.i64) Ty.unit))) (g5_0 x0))), (6, PV.a (Atom.val (Value.int IntKind.i64 (g5_1 x0)))), (7, PV.a (Atom.val (Value.int IntKind.i64 (g5_2 x0)))), (8, PV.a (Atom.val (Value.int IntKind.i64 (g5_3 x0)))), (9, PV.a (Atom.sl (Ty.sl (Ty.int IntKind.i64)) (g6_0 (g5_0 x0) (g5_1 x0) (g5_2 x0) (g5_3 x0)))), (11, PV.a (Atom.val (Value.int IntKind.i64 (v11 - (List.getD (List.getD (g6_0 (g5_0 x0) (g5_1 x0) (g5_2 x0) (g5_3 x0)) (Int.toNat v15) []) 1 0 - List.getD (List.getD (g6_0 (g5_0 x0) (g5_1 x0) (g5_2 x0) (g5_3 x0)) (Int.toNat v15) []) 0 0))))), (15, PV.a (Atom.val (Value.int IntKind.i64 v15))), (93, PV.a (Atom.sl (Ty.sl (Ty.int IntKind.i64)) (g6_0 (g5_0 x0) (g5_1 x0) (g5_2 x0) (g5_3 x0)))), (94, PV.a (Atom.val (Value.int IntKind.i64 v15))), (95, PV.a (Atom.ptr (Ty.sl (Ty.int IntKind.i64)) (List.getD (g6_0 (g5_0 x0) (g5_1 x0) (g5_2 x0) (g5_3 x0)) (Int.toNat v15) []))), (96, PV.a (Atom.sl (Ty.int IntKind.i64) (List.getD (g6_0 (g5_0 x0) (g5_1 x0) (g5_2 x0) (g5_3 x0)) (Int.toNat v15) []))), (97, PV.a (Atom.ptr (Ty.int IntKind.i64) (List.getD (List.getD (g6_0 (g5_0 x0) (g5_1 x0) (g5_2 x0) (g5_3 x0)) (Int.toNat v15) []) 0 0))), (98, PV.a (Atom.val (Value.int IntKind.i64 (List.getD (List.getD (g6_0 (g5_0 x0) (g5_1 x0) (g5_2 x0) (g5_3 x0)) (Int.toNat v15) []) 0 0)))), (99, PV.a (Atom.val (Value.int IntKind.i64 (g5_1 x0)))), (100, PV.a (Atom.val (Value.bool (Decidable.decide (List.getD (List.getD (g6_0 (g5_0 x0) (g5_1 x0) (g5_2 x0) (g5_3 x0)) (Int.toNat v15) []) 0 0 < g5_1 x0))))), (103, PV.a (Atom.sl (Ty.sl (Ty.int IntKind.i64)) (g6_0 (g5_0 x0) (g5_1 x0) (g5_2 x0) (g5_3 x0)))), (104, PV.a (Atom.val (Value.int IntKind.i64 v15))), (105, PV.a (Atom.ptr (Ty.sl (Ty.int IntKind.i64)) (List.getD (g6_0 (g5_0 x0) (g5_1 x0) (g5_2 x0) (g5_3 x0)) (Int.toNat v15) []))), (106, PV.a (Atom.sl (Ty.int IntKind.i64) (List.getD (g6_0 (g5_0 x0) (g5_1 x0) (g5_2 x0) (g5_3 x0)) (Int.toNat v15) []))), (107, PV.a (Atom.ptr (Ty.int IntKind.i64) (List.getD (List.getD (g6_0 (g5_0 x0) (g5_1 x0) (g5_2 x0) (g5_3 x0)) (Int.toNat v15) []) 1 0))), (108, PV.a (Atom.val (Value.int IntKind.i64 (List.getD (List.getD (g6_0 (g5_0 x0) (g5_1 x0) (g5_2 x0) (g5_3 x0)) (Int.toNat v15) []) 1 0)))), (109, PV.a (Atom.val (Value.int IntKind.i64 (g5_2 x0)))), (110, PV.a (Atom.val (Value.bool (Decidable.decide (List.getD (List.getD (g6_0 (g5_0 x0) (g5_1 x0) (g5_2 x0) (g5_3 x0)) (Int.toNat v15) []) 1 0 > g5_2 x0))))), (113, PV.a (Atom.sl (Ty.sl (Ty.int IntKind.i64)) (g6_0 (g5_0 x0) (g5_1 x0) (g5_2 x0) (g5_3 x0)))), (114, PV.a (Atom.val (Value.int IntKind.i64 v15))), (115, PV.a (Atom.ptr (Ty.sl (Ty.int IntKind.i64)) (List.getD (g6_0 (g5_0 x0) (g5_1 x0) (g5_2 x0) (g5_3 x0)) (Int.toNat v15) []))), (116, PV.a (Atom.sl (Ty.int IntKind.i64) (List.getD (g6_0 (g5_0 x0) (g5_1 x0) (g5_2 x0) (g5_3 x0)) (Int.toNat v15) []))), (117, PV.a (Atom.ptr (Ty.int IntKind.i64) (List.getD (List.getD (g6_0 (g5_0 x0) (g5_1 x0) (g5_2 x0) (g5_3 x0)) (Int.toNat v15) []) 0 0))), (118, PV.a (Atom.val (Value.int IntKind.i64 (List.getD (List.getD (g6_0 (g5_0 x0) (g5_1 x0) (g5_2 x0) (g5_3 x0)) (Int.toNat v15) []) 0 0)))), (119, PV.a (Atom.sl (Ty.sl (Ty.int IntKind.i64)) (g6_0 (g5_0 x0) (g5_1 x0) (g5_2 x0) (g5_3 x0)))), (120, PV.a (Atom.val (Value.int IntKind.i64 v15))), (121, PV.a (Atom.ptr (Ty.sl (Ty.int IntKind.i64)) (List.getD (g6_0 (g5_0 x0) (g5_1 x0) (g5_2 x0) (g5_3 x0)) (Int.toNat v15) []))), (122, PV.a (Atom.sl (Ty.int IntKind.i64) (List.getD (g6_0 (g5_0 x0) (g5_1 x0) (g5_2 x0) (g5_3 x0)) (Int.toNat v15) []))), (123, PV.a (Atom.ptr (Ty.int IntKind.i64) (List.getD (List.getD (g6_0 (g5_0 x0) (g5_1 x0) (g5_2 x0) (g5_3 x0)) (Int.toNat v15) []) 1 0))), (124, PV.a (Atom.val (Value.int IntKind.i64 (List.getD (List.getD (g6_0 (g5_0 x0) (g5_1 x0) (g5_2 x0) (g5_3 x0)) (Int.toNat v15) []) 1 0)))), (125, PV.a (Atom.val (Value.bool (Decidable.decide (List.getD (List.getD (g6_0 (g5_0 x0) (g5_1 x0) (g5_2 x0) (g5_3 x0)) (Int.toNat v15) []) 0 0 ≥ List.getD (List.getD (g6_0 (g5_0 x0) (g5_1 x0) (g5_2 x0) (g5_3 x0)) (Int.toNat v15) []) 1 0))))), (128, PV.a (Atom.val (Value.int IntKind.i64 v15))), (129, PV.a (Atom.val (Value.bool (Decidable.decide (v15 > 0))))), (130, PV.a (Atom.val (Value.bool (Decidable.decide (v15 > 0))))), (145, PV.a (Atom.val (Value.bool v145))), (161, PV.a (Atom.osl 0 Option.none)), (162, PV.a (Atom.val (Value.int IntKind.i64 (↑(List.length (g8_0 (g5_0 x0) (List.getD (List.getD (g6_0 (g5_0 x0) (g5_1 x0) (g5_2 x0) (g5_3 x0)) (Int.toNat v15) []) 0 0))) : Int)))), (163, PV.a (Atom.val (Value.int IntKind.i64 (g5_3 x0)))), (164, PV.a (Atom.val (Value.bool (Decidable.decide ((↑(List.length (g8_0 (g5_0 x0) (List.getD (List.getD (g6_0 (g5_0 x0) (g5_1 x0) (g5_2 x0) (g5_3 x0)) (Int.toNat v15) []) 0 0))) : Int) ≥ g5_3 x0)))))]
def L3_17 (x1 : List Int) (x0 : List Int) (v11 : Int) (v15 : Int) (v145 : Bool) : Heap := [Option.some (Arr.mk (Ty.int IntKind.i64) (g8_0 (g5_0 x0) (List.getD (List.getD (g6_0 (g5_0 x0) (g5_1 x0) (g5_2 x0) (g5_3 x0)) (Int.toNat v15) []) 0 0)) Bool.false Option.none Option.none)]
def E3_41 (x1 : List Int) (v25 : Int) (v26 : Int) : Env := [(18, PV.a (Atom.sl (Ty.cons Ty.str (Ty.cons (Ty.int IntKind.i64) (Ty.cons (Ty.int IntKind.i64) Ty.unit))) (g9_0 x1))), (20, PV.a (Atom.val (Value.int IntKind.i64 (g9_2 x1)))), (21, PV.a (Atom.osl 0 Option.none)), (25, PV.a (Atom.val (Value.int IntKind.i64 v25))), (26, PV.a (Atom.val (Value.int IntKind.i64 v26))), (231, PV.a (Atom.osl 0 Option.none)), (232, PV.a (Atom.val (Value.int IntKind.i64 v26))), (233, PV.a (Atom.optr 0 (Int.toNat v26) [])), (234, PV.a (Atom.val (Value.int IntKind.i64 (List.getD (g10_0 (g9_0 x1) (g9_1 x1) (g9_2 x1)) (Int.toNat v26) 0)))), (235, PV.a (Atom.sl (Ty.cons Ty.str (Ty.cons (Ty.int IntKind.i64) (Ty.cons (Ty.int IntKind.i64) Ty.unit))) (g9_0 x1))), (236, PV.a (Atom.val (Value.int IntKind.i64 (↑(List.length (g9_0 x1)) : Int)))), (237, PV.a (Atom.val (Value.bool (Decidable.decide (List.getD (g10_0 (g9_0 x1) (g9_1 x1) (g9_2 x1)) (Int.toNat v26) 0 ≥ (↑(List.length (g9_0 x1)) : Int)))))), (240, PV.a (Atom.val (Value.int IntKind.i64 v25))), (241, PV.a (Atom.val (Value.int IntKind.i64 (g9_2 x1)))), (242, PV.a (Atom.val (Value.bool (Decidable.decide (v25 ≥ g9_2 x1)))))]
def L3_41 (x1 : List Int) (v25 : Int) (v26 : Int) : Heap := [Option.some (Arr.mk (Ty.int IntKind.i64) (g10_0 (g9_0 x1) (g9_1 x1) (g9_2 x1)) Bool.false Option.none Option.none)]
def E3_45 (x1 : List Int) (v25 : Int) (v26 : Int) : Env := [(18, PV.a (Atom.sl (Ty.cons Ty.str (Ty.cons (Ty.int IntKind.i64) (Ty.cons (Ty.int IntKind.i64) Ty.unit))) (g9_0 x1))), (20, PV.a (Atom.val (Value.int IntKind.i64 (g9_2 x1)))), (21, PV.a (Atom.osl 0 Option.none)), (25, PV.a (Atom.val (Value.int IntKind.i64 v25))), (26, PV.a (Atom.val (Value.int IntKind.i64 v26))), (27, PV.a (Atom.optr 1 0 [])), (231, PV.a (Atom.osl 0 Option.none)), (232, PV.a (Atom.val (Value.int IntKind.i64 v26))), (233, PV.a (Atom.optr 0 (Int.toNat v26) [])), (234, PV.a (Atom.val (Value.int IntKind.i64 (List.getD (g10_0 (g9_0 x1) (g9_1 x1) (g9_2 x1)) (Int.toNat v26) 0)))), (235, PV.a (Atom.sl (Ty.cons Ty.str (Ty.cons (Ty.int IntKind.i64) (Ty.cons (Ty.int IntKind.i64) Ty.unit))) (g9_0 x1))), (236, PV.a (Atom.val (Value.int IntKind.i64 (↑(List.length (g9_0 x1)) : Int)))), (237, PV.a (Atom.val (Value.bool (Decidable.decide (List.getD (g10_0 (g9_0 x1) (g9_1 x1) (g9_2 x1)) (Int.toNat v26) 0 ≥ (↑(List.length (g9_0 x1)) : Int)))))), (240, PV.a (Atom.val (Value.int IntKind.i64 v25))), (241, PV.a (Atom.val (Value.int IntKind.i64 (g9_2 x1)))), (242, PV.a (Atom.val (Value.bool (Decidable.decide (v25 ≥ g9_2 x1))))), (262, PV.a (Atom.optr 1 0 [2])), (263, PV.a (Atom.val (Value.int IntKind.i64 (Prod.fst (Prod.snd (Prod.snd (List.getD (g9_0 x1) (Int.toNat (List.getD (g10_0 (g9_0 x1) (g9_1 x1) (g9_2 x1)) (Int.toNat v26) 0)) (ByteArray.empty, 0, 0, ())))))))), (264, PV.a (Atom.val (Value.int IntKind.i64 v25))), (265, PV.a (Atom.val (Value.bool (Decidable.decide (Prod.fst (Prod.snd (Prod.snd (List.getD (g9_0 x1) (Int.toNat (List.getD (g10_0 (g9_0 x1) (g9_1 x1) (g9_2 x1)) (Int.toNat v26) 0)) (ByteArray.empty, 0, 0, ())))) ≤ v25))))), (268, PV.a (Atom.val (Value.bool (g12_1 (g13_0 (List.getD (g9_0 x1) (Int.toNat (List.getD (g10_0 (g9_0 x1) (g9_1 x1) (g9_2 x1)) (Int.toNat v26) 0)) (ByteArray.empty, 0, 0, ()))))))), (269, PV.a (Atom.val (Value.bool !g12_1 (g13_0 (List.getD (g9_0 x1) (Int.toNat (List.getD (g10_0 (g9_0 x1) (g9_1 x1) (g9_2 x1)) (Int.toNat v26) 0)) (ByteArray.empty, 0, 0, ())))))), (272, PV.a (Atom.st (Ty.cons Ty.str (Ty.cons (Ty.int IntKind.i64) (Ty.cons (Ty.int IntKind.i64) Ty.unit))) (g12_0 (g13_0 (List.getD (g9_0 x1) (Int.toNat (List.getD (g10_0 (g9_0 x1) (g9_1 x1) (g9_2 x1)) (Int.toNat v26) 0)) (ByteArray.empty, 0, 0, ())))))), (273, PV.a (Atom.st (Ty.cons Ty.str (Ty.cons (Ty.int IntKind.i64) (Ty.cons (Ty.int IntKind.i64) Ty.unit))) (List.getD (g9_0 x1) (Int.toNat (List.getD (g10_0 (g9_0 x1) (g9_1 x1) (g9_2 x1)) (Int.toNat v26) 0)) (ByteArray.empty, 0, 0, ())))), (274, PV.a (Atom.val (Value.bool !eqD (Ty.cons Ty.str (Ty.cons (Ty.int IntKind.i64) (Ty.cons (Ty.int IntKind.i64) Ty.unit))) (g12_0 (g13_0 (List.getD (g9_0 x1) (Int.toNat (List.getD (g10_0 (g9_0 x1) (g9_1 x1) (g9_2 x1)) (Int.toNat v26) 0)) (ByteArray.empty, 0, 0, ())))) (List.getD (g9_0 x1) (Int.toNat (List.getD (g10_0 (g9_0 x1) (g9_1 x1) (g9_2 x1)) (Int.toNat v26) 0)) (ByteArray.empty, 0, 0, ())))))]
def L3_45 (x1 : List Int) (v25 : Int) (v26 : Int) : Heap := [Option.some (Arr.mk (Ty.int IntKind.i64) (g10_0 (g9_0 x1) (g9_1 x1) (g9_2 x1)) Bool.false Option.none Option.none), Option.some (Arr.mk (Ty.cons Ty.str (Ty.cons (Ty.int IntKind.i64) (Ty.cons (Ty.int IntKind.i64) Ty.unit))) [List.getD (g9_0 x1) (Int.toNat (List.getD (g10_0 (g9_0 x1) (g9_1 x1) (g9_2 x1)) (Int.toNat v26) 0)) (ByteArray.empty, 0, 0, ())] Bool.true Option.none (Option.some Bool.false))]
def E3_46 (v30 : Int) (x1 : List Int) (v25 : Int) (v26 : Int) : Env := [(18, PV.a (Atom.sl (Ty.cons Ty.str (Ty.cons (Ty.int IntKind.i64) (Ty.cons (Ty.int IntKind.i64) Ty.unit))) (g9_0 x1))), (20, PV.a (Atom.val (Value.int IntKind.i64 (g9_2 x1)))), (21, PV.a (Atom.osl 0 Option.none)), (25, PV.a (Atom.val (Value.int IntKind.i64 v25))), (26, PV.a (Atom.val (Value.int IntKind.i64 v26))), (27, PV.a (Atom.optr 1 0 [])), (30, PV.a (Atom.val (Value.int IntKind.i64 v30))), (231, PV.a (Atom.osl 0 Option.none)), (232, PV.a (Atom.val (Value.int IntKind.i64 v26))), (233, PV.a (Atom.optr 0 (Int.toNat v26) [])), (234, PV.a (Atom.val (Value.int IntKind.i64 (List.getD (g10_0 (g9_0 x1) (g9_1 x1) (g9_2 x1)) (Int.toNat v26) 0)))), (235, PV.a (Atom.sl (Ty.cons Ty.str (Ty.cons (Ty.int IntKind.i64) (Ty.cons (Ty.int IntKind.i64) Ty.unit))) (g9_0 x1))), (236, PV.a (Atom.val (Value.int IntKind.i64 (↑(List.length (g9_0 x1)) : Int)))), (237, PV.a (Atom.val (Value.bool (Decidable.decide (List.getD (g10_0 (g9_0 x1) (g9_1 x1) (g9_2 x1)) (Int.toNat v26) 0 ≥ (↑(List.length (g9_0 x1)) : Int)))))), (240, PV.a (Atom.val (Value.int IntKind.i64 v25))), (241, PV.a (Atom.val (Value.int IntKind.i64 (g9_2 x1)))), (242, PV.a (Atom.val (Value.bool (Decidable.decide (v25 ≥ g9_2 x1))))), (262, PV.a (Atom.optr 1 0 [2])), (263, PV.a (Atom.val (Value.int IntKind.i64 (Prod.fst (Prod.snd (Prod.snd (List.getD (g9_0 x1) (Int.toNat (List.getD (g10_0 (g9_0 x1) (g9_1 x1) (g9_2 x1)) (Int.toNat v26) 0)) (ByteArray.empty, 0, 0, ())))))))), (264, PV.a (Atom.val (Value.int IntKind.i64 v25))), (265, PV.a (Atom.val (Value.bool (Decidable.decide (Prod.fst (Prod.snd (Prod.snd (List.getD (g9_0 x1) (Int.toNat (List.getD (g10_0 (g9_0 x1) (g9_1 x1) (g9_2 x1)) (Int.toNat v26) 0)) (ByteArray.empty, 0, 0, ())))) ≤ v25))))), (268, PV.a (Atom.val (Value.bool (g12_1 (g13_0 (List.getD (g9_0 x1) (Int.toNat (List.getD (g10_0 (g9_0 x1) (g9_1 x1) (g9_2 x1)) (Int.toNat v26) 0)) (ByteArray.empty, 0, 0, ()))))))), (269, PV.a (Atom.val (Value.bool !g12_1 (g13_0 (List.getD (g9_0 x1) (Int.toNat (List.getD (g10_0 (g9_0 x1) (g9_1 x1) (g9_2 x1)) (Int.toNat v26) 0)) (ByteArray.empty, 0, 0, ())))))), (272, PV.a (Atom.st (Ty.cons Ty.str (Ty.cons (Ty.int IntKind.i64) (Ty.cons (Ty.int IntKind.i64) Ty.unit))) (g12_0 (g13_0 (List.getD (g9_0 x1) (Int.toNat (List.getD (g10_0 (g9_0 x1) (g9_1 x1) (g9_2 x1)) (Int.toNat v26) 0)) (ByteArray.empty, 0, 0, ())))))), (273, PV.a (Atom.st (Ty.cons Ty.str (Ty.cons (Ty.int IntKind.i64) (Ty.cons (Ty.int IntKind.i64) Ty.unit))) (List.getD (g9_0 x1) (Int.toNat (List.getD (g10_0 (g9_0 x1) (g9_1 x1) (g9_2 x1)) (Int.toNat v26) 0)) (ByteArray.empty, 0, 0, ())))), (274, PV.a (Atom.val (Value.bool !eqD (Ty.cons Ty.str (Ty.cons (Ty.int IntKind.i64) (Ty.cons (Ty.int IntKind.i64) Ty.unit))) (g12_0 (g13_0 (List.getD (g9_0 x1) (Int.toNat (List.getD (g10_0 (g9_0 x1) (g9_1 x1) (g9_2 x1)) (Int.toNat v26) 0)) (ByteArray.empty, 0, 0, ())))) (List.getD (g9_0 x1) (Int.toNat (List.getD (g10_0 (g9_0 x1) (g9_1 x1) (g9_2 x1)) (Int.toNat v26) 0)) (ByteArray.empty, 0, 0, ())))))]
def L3_46 (v30 : Int) (x1 : List Int) (v25 : Int) (v26 : Int) : Heap := [Option.some (Arr.mk (Ty.int IntKind.i64) (g10_0 (g9_0 x1) (g9_1 x1) (g9_2 x1)) Bool.false Option.none Option.none), Option.some (Arr.mk (Ty.cons Ty.str (Ty.cons (Ty.int IntKind.i64) (Ty.cons (Ty.int IntKind.i64) Ty.unit))) [List.getD (g9_0 x1) (Int.toNat (List.getD (g10_0 (g9_0 x1) (g9_1 x1) (g9_2 x1)) (Int.toNat v26) 0)) (ByteArray.empty, 0, 0, ())] Bool.true Option.none (Option.some Bool.false))]
def E3_48 (x1 : List Int) (v25 : Int) (v26 : Int) (v30 : Int) : Env := [(18, PV.a (Atom.sl (Ty.cons Ty.str (Ty.cons (Ty.int IntKind.i64) (Ty.cons (Ty.int IntKind.i64) Ty.unit))) (g9_0 x1))), (20, PV.a (Atom.val (Value.int IntKind.i64 (g9_2 x1)))), (21, PV.a (Atom.osl 0 Option.none)), (25, PV.a (Atom.val (Value.int IntKind.i64 v25))), (26, PV.a (Atom.val (Value.int IntKind.i64 v26))), (27, PV.a (Atom.optr 1 0 [])), (30, PV.a (Atom.val (Value.int IntKind.i64 v30))), (231, PV.a (Atom.osl 0 Option.none)), (232, PV.a (Atom.val (Value.int IntKind.i64 v26))), (233, PV.a (Atom.optr 0 (Int.toNat v26) [])), (234, PV.a (Atom.val (Value.int IntKind.i64 (List.getD (g10_0 (g9_0 x1) (g9_1 x1) (g9_2 x1)) (Int.toNat v26) 0)))), (235, PV.a (Atom.sl (Ty.cons Ty.str (Ty.cons (Ty.int IntKind.i64) (Ty.cons (Ty.int IntKind.i64) Ty.unit))) (g9_0 x1))), (236, PV.a (Atom.val (Value.int IntKind.i64 (↑(List.length (g9_0 x1)) : Int)))), (237, PV.a (Atom.val (Value.bool (Decidable.decide (List.getD (g10_0 (g9_0 x1) (g9_1 x1) (g9_2 x1)) (Int.toNat v26) 0 ≥ (↑(List.length (g9_0 x1)) : Int)))))), (240, PV.a (Atom.val (Value.int IntKind.i64 v25))), (241, PV.a (Atom.val (Value.int IntKind.i64 (g9_2 x1)))), (242, PV.a (Atom.val (Value.bool (Decidable.decide (v25 ≥ g9_2 x1))))), (262, PV.a (Atom.optr 1 0 [2])), (263, PV.a (Atom.val (Value.int IntKind.i64 (Prod.fst (Prod.snd (Prod.snd (List.getD (g9_0 x1) (Int.toNat (List.getD (g10_0 (g9_0 x1) (g9_1 x1) (g9_2 x1)) (Int.toNat v26) 0)) (ByteArray.empty, 0, 0, ())))))))), (264, PV.a (Atom.val (Value.int IntKind.i64 v25))), (265, PV.a (Atom.val (Value.bool (Decidable.decide (Prod.fst (Prod.snd (Prod.snd (List.getD (g9_0 x1) (Int.toNat (List.getD (g10_0 (g9_0 x1) (g9_1 x1) (g9_2 x1)) (Int.toNat v26) 0)) (ByteArray.empty, 0, 0, ())))) ≤ v25))))), (268, PV.a (Atom.val (Value.bool (g12_1 (g13_0 (List.getD (g9_0 x1) (Int.toNat (List.getD (g10_0 (g9_0 x1) (g9_1 x1) (g9_2 x1)) (Int.toNat v26) 0)) (ByteArray.empty, 0, 0, ()))))))), (269, PV.a (Atom.val (Value.bool !g12_1 (g13_0 (List.getD (g9_0 x1) (Int.toNat (List.getD (g10_0 (g9_0 x1) (g9_1 x1) (g9_2 x1)) (Int.toNat v26) 0)) (ByteArray.empty, 0, 0, ())))))), (272, PV.a (Atom.st (Ty.cons Ty.str (Ty.cons (Ty.int IntKind.i64) (Ty.cons (Ty.int IntKind.i64) Ty.unit))) (g12_0 (g13_0 (List.getD (g9_0 x1) (Int.toNat (List.getD (g10_0 (g9_0 x1) (g9_1 x1) (g9_2 x1)) (Int.toNat v26) 0)) (ByteArray.empty, 0, 0, ())))))), (273, PV.a (Atom.st (Ty.cons Ty.str (Ty.cons (Ty.int IntKind.i64) (Ty.cons (Ty.int IntKind.i64) Ty.unit))) (List.getD (g9_0 x1) (Int.toNat (List.getD (g10_0 (g9_0 x1) (g9_1 x1) (g9_2 x1)) (Int.toNat v26) 0)) (ByteArray.empty, 0, 0, ())))), (274, PV.a (Atom.val (Value.bool !eqD (Ty.cons Ty.str (Ty.cons (Ty.int IntKind.i64) (Ty.cons (Ty.int IntKind.i64) Ty.unit))) (g12_0 (g13_0 (List.getD (g9_0 x1) (Int.toNat (List.getD (g10_0 (g9_0 x1) (g9_1 x1) (g9_2 x1)) (Int.toNat v26) 0)) (ByteArray.empty, 0, 0, ())))) (List.getD (g9_0 x1) (Int.toNat (List.getD (g10_0 (g9_0 x1) (g9_1 x1) (g9_2 x1)) (Int.toNat v26) 0)) (ByteArray.empty, 0, 0, ())))))]
def L3_48 (x1 : List Int) (v25 : Int) (v26 : Int) (v30 : Int) : Heap := [Option.some (Arr.mk (Ty.int IntKind.i64) (g10_0 (g9_0 x1) (g9_1 x1) (g9_2 x1)) Bool.false Option.none Option.none), Option.some (Arr.mk (Ty.cons Ty.str (Ty.cons (Ty.int IntKind.i64) (Ty.cons (Ty.int IntKind.i64) Ty.unit))) [List.getD (g9_0 x1) (Int.toNat (List.getD (g10_0 (g9_0 x1) (g9_1 x1) (g9_2 x1)) (Int.toNat v26) 0)) (ByteArray.empty, 0, 0, ())] Bool.true Option.none (Option.some Bool.false))]
def E3_38 (x1 : List Int) (v26 : Int) (v25 : Int) : Env := [(18, PV.a (Atom.sl (Ty.cons Ty.str (Ty.cons (Ty.int IntKind.i64) (Ty.cons (Ty.int IntKind.i64) Ty.unit))) (g9_0 x1))), (20, PV.a (Atom.val (Value.int IntKind.i64 (g9_2 x1)))), (21, PV.a (Atom.osl 0 Option.none)), (25, PV.a (Atom.val (Value.int IntKind.i64 (Prod.fst (Prod.snd (Prod.snd (List.getD (g9_0 x1) (Int.toNat (List.getD (g10_0 (g9_0 x1) (g9_1 x1) (g9_2 x1)) (Int.toNat v26) 0)) (ByteArray.empty, 0, 0, ())))))))), (26, PV.a (Atom.val (Value.int IntKind.i64 v26))), (231, PV.a (Atom.osl 0 Option.none)), (232, PV.a (Atom.val (Value.int IntKind.i64 v26))), (233, PV.a (Atom.optr 0 (Int.toNat v26) [])), (234, PV.a (Atom.val (Value.int IntKind.i64 (List.getD (g10_0 (g9_0 x1) (g9_1 x1) (g9_2 x1)) (Int.toNat v26) 0)))), (235, PV.a (Atom.sl (Ty.cons Ty.str (Ty.cons (Ty.int IntKind.i64) (Ty.cons (Ty.int IntKind.i64) Ty.unit))) (g9_0 x1))), (236, PV.a (Atom.val (Value.int IntKind.i64 (↑(List.length (g9_0 x1)) : Int)))), (237, PV.a (Atom.val (Value.bool (Decidable.decide (List.getD (g10_0 (g9_0 x1) (g9_1 x1) (g9_2 x1)) (Int.toNat v26) 0 ≥ (↑(List.length (g9_0 x1)) : Int)))))), (240, PV.a (Atom.val (Value.int IntKind.i64 v25))), (241, PV.a (Atom.val (Value.int IntKind.i64 (g9_2 x1)))), (242, PV.a (Atom.val (Value.bool (Decidable.decide (v25 ≥ g9_2 x1))))), (262, PV.a (Atom.optr 1 0 [2])), (263, PV.a (Atom.val (Value.int IntKind.i64 (Prod.fst (Prod.snd (Prod.snd (List.getD (g9_0 x1) (Int.toNat (List.getD (g10_0 (g9_0 x1) (g9_1 x1) (g9_2 x1)) (Int.toNat v26) 0)) (ByteArray.empty, 0, 0, ())))))))), (264, PV.a (Atom.val (Value.int IntKind.i64 v25))), (265, PV.a (Atom.val (Value.bool (Decidable.decide (Prod.fst (Prod.snd (Prod.snd (List.getD (g9_0 x1) (Int.toNat (List.getD (g10_0 (g9_0 x1) (g9_1 x1) (g9_2 x1)) (Int.toNat v26) 0)) (ByteArray.empty, 0, 0, ())))) ≤ v25))))), (268, PV.a (Atom.val (Value.bool (g12_1 (g13_0 (List.getD (g9_0 x1) (Int.toNat (List.getD (g10_0 (g9_0 x1) (g9_1 x1) (g9_2 x1)) (Int.toNat v26) 0)) (ByteArray.empty, 0, 0, ()))))))), (269, PV.a (Atom.val (Value.bool !g12_1 (g13_0 (List.getD (g9_0 x1) (Int.toNat (List.getD (g10_0 (g9_0 x1) (g9_1 x1) (g9_2 x1)) (Int.toNat v26) 0)) (ByteArray.empty, 0, 0, ())))))), (272, PV.a (Atom.st (Ty.cons Ty.str (Ty.cons (Ty.int IntKind.i64) (Ty.cons (Ty.int IntKind.i64) Ty.unit))) (g12_0 (g13_0 (List.getD (g9_0 x1) (Int.toNat (List.getD (g10_0 (g9_0 x1) (g9_1 x1) (g9_2 x1)) (Int.toNat v26) 0)) (ByteArray.empty, 0, 0, ())))))), (273, PV.a (Atom.st (Ty.cons Ty.str (Ty.cons (Ty.int IntKind.i64) (Ty.cons (Ty.int IntKind.i64) Ty.unit))) (List.getD (g9_0 x1) (Int.toNat (List.getD (g10_0 (g9_0 x1) (g9_1 x1) (g9_2 x1)) (Int.toNat v26) 0)) (ByteArray.empty, 0, 0, ())))), (274, PV.a (Atom.val (Value.bool !eqD (Ty.cons Ty.str (Ty.cons (Ty.int IntKind.i64) (Ty.cons (Ty.int IntKind.i64) Ty.unit))) (g12_0 (g13_0 (List.getD (g9_0 x1) (Int.toNat (List.getD (g10_0 (g9_0 x1) (g9_1 x1) (g9_2 x1)) (Int.toNat v26) 0)) (ByteArray.empty, 0, 0, ())))) (List.getD (g9_0 x1) (Int.toNat (List.getD (g10_0 (g9_0 x1) (g9_1 x1) (g9_2 x1)) (Int.toNat v26) 0)) (ByteArray.empty, 0, 0, ())))))]
def L3_38 (x1 : List Int) (v26 : Int) (v25 : Int) : Heap := [Option.some (Arr.mk (Ty.int IntKind.i64) (g10_0 (g9_0 x1) (g9_1 x1) (g9_2 x1)) Bool.false Option.none Option.none), Option.some (Arr.mk (Ty.cons Ty.str (Ty.cons (Ty.int IntKind.i64) (Ty.cons (Ty.int IntKind.i64) Ty.unit))) [List.getD (g9_0 x1) (Int.toNat (List.getD (g10_0 (g9_0 x1) (g9_1 x1) (g9_2 x1)) (Int.toNat v26) 0)) (ByteArray.empty, 0, 0, ())] Bool.true Option.none (Option.some Bool.false))]
def E3_47 (x1 : List Int) (v25 : Int) (v26 : Int) (v30 : Int) : Env := [(18, PV.a (Atom.sl (Ty.cons Ty.str (Ty.cons (Ty.int IntKind.i64) (Ty.cons (Ty.int IntKind.i64) Ty.unit))) (g9_0 x1))), (20, PV.a (Atom.val (Value.int IntKind.i64 (g9_2 x1)))), (21, PV.a (Atom.osl 0 Option.none)), (25, PV.a (Atom.val (Value.int IntKind.i64 v25))), (26, PV.a (Atom.val (Value.int IntKind.i64 v26))), (27, PV.a (Atom.optr 1 0 [])), (30, PV.a (Atom.val (Value.int IntKind.i64 v30))), (231, PV.a (Atom.osl 0 Option.none)), (232, PV.a (Atom.val (Value.int IntKind.i64 v26))), (233, PV.a (Atom.optr 0 (Int.toNat v26) [])), (234, PV.a (Atom.val (Value.int IntKind.i64 (List.getD (g10_0 (g9_0 x1) (g9_1 x1) (g9_2 x1)) (Int.toNat v26) 0)))), (235, PV.a (Atom.sl (Ty.cons Ty.str (Ty.cons (Ty.int IntKind.i64) (Ty.cons (Ty.int IntKind.i64) Ty.unit))) (g9_0 x1))), (236, PV.a (Atom.val (Value.int IntKind.i64 (↑(List.length (g9_0 x1)) : Int)))), (237, PV.a (Atom.val (Value.bool (Decidable.decide (List.getD (g10_0 (g9_0 x1) (g9_1 x1) (g9_2 x1)) (Int.toNat v26) 0 ≥ (↑(List.length (g9_0 x1)) : Int)))))), (240, PV.a (Atom.val (Value.int IntKind.i64 v25))), (241, PV.a (Atom.val (Value.int IntKind.i64 (g9_2 x1)))), (242, PV.a (Atom.val (Value.bool (Decidable.decide (v25 ≥ g9_2 x1))))), (262, PV.a (Atom.optr 1 0 [2])), (263, PV.a (Atom.val (Value.int IntKind.i64 (Prod.fst (Prod.snd (Prod.snd (List.getD (g9_0 x1) (Int.toNat (List.getD (g10_0 (g9_0 x1) (g9_1 x1) (g9_2 x1)) (Int.toNat v26) 0)) (ByteArray.empty, 0, 0, ())))))))), (264, PV.a (Atom.val (Value.int IntKind.i64 v25))), (265, PV.a (Atom.val (Value.bool (Decidable.decide (Prod.fst (Prod.snd (Prod.snd (List.getD (g9_0 x1) (Int.toNat (List.getD (g10_0 (g9_0 x1) (g9_1 x1) (g9_2 x1)) (Int.toNat v26) 0)) (ByteArray.empty, 0, 0, ())))) ≤ v25))))), (268, PV.a (Atom.val (Value.bool (g12_1 (g13_0 (List.getD (g9_0 x1) (Int.toNat (List.getD (g10_0 (g9_0 x1) (g9_1 x1) (g9_2 x1)) (Int.toNat v26) 0)) (ByteArray.empty, 0, 0, ()))))))), (269, PV.a (Atom.val (Value.bool !g12_1 (g13_0 (List.getD (g9_0 x1) (Int.toNat (List.getD (g10_0 (g9_0 x1) (g9_1 x1) (g9_2 x1)) (Int.toNat v26) 0)) (ByteArray.empty, 0, 0, ())))))), (272, PV.a (Atom.st (Ty.cons Ty.str (Ty.cons (Ty.int IntKind.i64) (Ty.cons (Ty.int IntKind.i64) Ty.unit))) (g12_0 (g13_0 (List.getD (g9_0 x1) (Int.toNat (List.getD (g10_0 (g9_0 x1) (g9_1 x1) (g9_2 x1)) (Int.toNat v26) 0)) (ByteArray.empty, 0, 0, ())))))), (273, PV.a (Atom.st (Ty.cons Ty.str (Ty.cons (Ty.int IntKind.i64) (Ty.cons (Ty.int IntKind.i64) Ty.unit))) (List.getD (g9_0 x1) (Int.toNat (List.getD (g10_0 (g9_0 x1) (g9_1 x1) (g9_2 x1)) (Int.toNat v26) 0)) (ByteArray.empty, 0, 0, ())))), (274, PV.a (Atom.val (Value.bool !eqD (Ty.cons Ty.str (Ty.cons (Ty.int IntKind.i64) (Ty.cons (Ty.int IntKind.i64) Ty.unit))) (g12_0 (g13_0 (List.getD (g9_0 x1) (Int.toNat (List.getD (g10_0 (g9_0 x1) (g9_1 x1) (g9_2 x1)) (Int.toNat v26) 0)) (ByteArray.empty, 0, 0, ())))) (List.getD (g9_0 x1) (Int.toNat (List.getD (g10_0 (g9_0 x1) (g9_1 x1) (g9_2 x1)) (Int.toNat v26) 0)) (ByteArray.empty, 0, 0, ())))))]
def L3_47 (x1 : List Int) (v25 : Int) (v26 : Int) (v30 : Int) : Heap := [Option.some (Arr.mk (Ty.int IntKind.i64) (g10_0 (g9_0 x1) (g9_1 x1) (g9_2 x1)) Bool.false Option.none Option.none), Option.some (Arr.mk (Ty.cons Ty.str (Ty.cons (Ty.int IntKind.i64) (Ty.cons (Ty.int IntKind.i64) Ty.unit))) [List.getD (g9_0 x1) (Int.toNat (List.getD (g10_0 (g9_0 x1) (g9_1 x1) (g9_2 x1)) (Int.toNat v26) 0)) (ByteArray.empty, 0, 0, ())] Bool.true Option.none (Option.some Bool.false))]
mutual
def R3 : Nat → List Int → List Int → List Dyn → Prop
  | 0, _, _, _ => False
  | n + 1, x0, x1, ds => (if (g4_0 x0) = true then (ds = [Dyn.mk Ty.bool Bool.true]) else (if (g4_0 x1) = true then (ds = [Dyn.mk Ty.bool Bool.true]) else (R3_3 n (x0) (x1) ds)))
def R3_3 : Nat → List Int → List Int → List Dyn → Prop
  | 0, _, _, _ => False
  | n + 1, x0, x1, ds => ((P5 x0) ∧ ((P6 (g5_0 x0) (g5_1 x0) (g5_2 x0) (g5_3 x0)) ∧ (if (g6_1 (g5_0 x0) (g5_1 x0) (g5_2 x0) (g5_3 x0) == 0) = true then (R3_8 n (0) (g5_1 x0) (x1) (x0) ds) else (if ((↑(List.length (g6_0 (g5_0 x0) (g5_1 x0) (g5_2 x0) (g5_3 x0))) : Int) != 0) = true then (ds = [Dyn.mk Ty.bool Bool.false]) else (R3_28 n (x1) ds)))))
def R3_8 : Nat → Int → Int → List Int → List Int → List Dyn → Prop
  | 0, _, _, _, _, _ => False
  | n + 1, v11, v12, x1, x0, ds => (if (Decidable.decide (v12 < g5_2 x0)) = true then ((InR IntKind.i64 (g5_1 x0 + 400)) ∧ (if (Decidable.decide (v12 < g5_1 x0 + 400)) = true then (R3_10 n (x1) (x0) (v11) (v12) ds) else (R3_16 n (v11) (0) (x1) (x0) ds))) else (R3_16 n (v11) (0) (x1) (x0) ds))
def R3_28 : Nat → List Int → List Dyn → Prop
  | 0, _, _ => False
  | n + 1, x1, ds => ((P9 x1) ∧ ((P10 (g9_0 x1) (g9_1 x1) (g9_2 x1)) ∧ ((P11 (g9_0 x1) (g9_1 x1) (g9_2 x1) 1) ∧ (if (g10_1 (g9_0 x1) (g9_1 x1) (g9_2 x1) != 0) = true then (ds = [Dyn.mk Ty.bool ((↑(List.length (g10_0 (g9_0 x1) (g9_1 x1) (g9_2 x1))) : Int) == 0)]) else (R3_33 n (x1) ds)))))
def R3_10 : Nat → List Int → List Int → Int → Int → List Dyn → Prop
  | 0, _, _, _, _, _ => False
  | n + 1, x1, x0, v11, v12, ds => ((P7 (g5_0 x0) v12) ∧ (if (g7_1 (g5_0 x0) v12 != 0) = true then (ds = [Dyn.mk Ty.bool Bool.false]) else (R3_13 n (x1) (x0) (v11) (v12) ds)))
def R3_16 : Nat → Int → Int → List Int → List Int → List Dyn → Prop
  | 0, _, _, _, _, _ => False
  | n + 1, v11, v15, x1, x0, ds => (if (Decidable.decide (v15 < (↑(List.length (g6_0 (g5_0 x0) (g5_1 x0) (g5_2 x0) (g5_3 x0))) : Int))) = true then (R3_18 n (x1) (x0) (v11) (v15) ds) else (if (v11 != 0) = true then (ds = [Dyn.mk Ty.bool Bool.false]) else (R3_28 n (x1) ds)))
def R3_33 : Nat → List Int → List Dyn → Prop
  | 0, _, _ => False
  | n + 1, x1, ds => (if (g11_1 (g9_0 x1) (g9_1 x1) (g9_2 x1) 1 != 0) = true then (ds = [Dyn.mk Ty.bool Bool.false]) else (if ((↑(List.length (g11_0 (g9_0 x1) (g9_1 x1) (g9_2 x1) 1)) : Int) != 0) = true then (ds = [Dyn.mk Ty.bool Bool.false]) else (R3_35 n (x1) ds)))
def R3_13 : Nat → List Int → List Int → Int → Int → List Dyn → Prop
  | 0, _, _, _, _, _ => False
  | n + 1, x1, x0, v11, v12, ds => (if (Decidable.decide ((↑(List.length (g7_0 (g5_0 x0) v12)) : Int) < g5_3 x0)) = true then ((InR IntKind.i64 (v11 + 1)) ∧ (R3_9 n (v11 + 1) (x1) (x0) (v12) ds)) else (R3_9 n (v11) (x1) (x0) (v12) ds))
def R3_18 : Nat → List Int → List Int → Int → Int → List Dyn → Prop
  | 0, _, _, _, _, _ => False
  | n + 1, x1, x0, v11, v15, ds => ((0 ≤ v15) ∧ (v15 < (↑(List.length (g6_0 (g5_0 x0) (g5_1 x0) (g5_2 x0) (g5_3 x0))) : Int)) ∧ (if ((↑(List.length (List.getD (g6_0 (g5_0 x0) (g5_1 x0) (g5_2 x0) (g5_3 x0)) (Int.toNat v15) [])) : Int) != 2) = true then (ds = [Dyn.mk Ty.bool Bool.false]) else ((0 ≤ v15) ∧ (v15 < (↑(List.length (g6_0 (g5_0 x0) (g5_1 x0) (g5_2 x0) (g5_3 x0))) : Int)) ∧ ((0 < (↑(List.length (List.getD (g6_0 (g5_0 x0) (g5_1 x0) (g5_2 x0) (g5_3 x0)) (Int.toNat v15) [])) : Int)) ∧ (if (Decidable.decide (List.getD (List.getD (g6_0 (g5_0 x0) (g5_1 x0) (g5_2 x0) (g5_3 x0)) (Int.toNat v15) []) 0 0 < g5_1 x0)) = true then (ds = [Dyn.mk Ty.bool Bool.false]) else ((0 ≤ v15) ∧ (v15 < (↑(List.length (g6_0 (g5_0 x0) (g5_1 x0) (g5_2 x0) (g5_3 x0))) : Int)) ∧ ((1 < (↑(List.length (List.getD (g6_0 (g5_0 x0) (g5_1 x0) (g5_2 x0) (g5_3 x0)) (Int.toNat v15) [])) : Int)) ∧ (if (Decidable.decide (List.getD (List.getD (g6_0 (g5_0 x0) (g5_1 x0) (g5_2 x0) (g5_3 x0)) (Int.toNat v15) []) 1 0 > g5_2 x0)) = true then (ds = [Dyn.mk Ty.bool Bool.false]) else ((0 ≤ v15) ∧ (v15 < (↑(List.length (g6_0 (g5_0 x0) (g5_1 x0) (g5_2 x0) (g5_3 x0))) : Int)) ∧ ((0 < (↑(List.length (List.getD (g6_0 (g5_0 x0) (g5_1 x0) (g5_2 x0) (g5_3 x0)) (Int.toNat v15) [])) : Int)) ∧ ((0 ≤ v15) ∧ (v15 < (↑(List.length (g6_0 (g5_0 x0) (g5_1 x0) (g5_2 x0) (g5_3 x0))) : Int)) ∧ ((1 < (↑(List.length (List.getD (g6_0 (g5_0 x0) (g5_1 x0) (g5_2 x0) (g5_3 x0)) (Int.toNat v15) [])) : Int)) ∧ (if (Decidable.decide (List.getD (List.getD (g6_0 (g5_0 x0) (g5_1 x0) (g5_2 x0) (g5_3 x0)) (Int.toNat v15) []) 0 0 ≥ List.getD (List.getD (g6_0 (g5_0 x0) (g5_1 x0) (g5_2 x0) (g5_3 x0)) (Int.toNat v15) []) 1 0)) = true then (ds = [Dyn.mk Ty.bool Bool.false]) else (if (Decidable.decide (v15 > 0)) = true then ((InR IntKind.i64 (v15 - 1)) ∧ ((0 ≤ v15 - 1) ∧ (v15 - 1 < (↑(List.length (g6_0 (g5_0 x0) (g5_1 x0) (g5_2 x0) (g5_3 x0))) : Int)) ∧ ((1 < (↑(List.length (List.getD (g6_0 (g5_0 x0) (g5_1 x0) (g5_2 x0) (g5_3 x0)) (Int.toNat (v15 - 1)) [])) : Int)) ∧ ((0 ≤ v15) ∧ (v15 < (↑(List.length (g6_0 (g5_0 x0) (g5_1 x0) (g5_2 x0) (g5_3 x0))) : Int)) ∧ ((0 < (↑(List.length (List.getD (g6_0 (g5_0 x0) (g5_1 x0) (g5_2 x0) (g5_3 x0)) (Int.toNat v15) [])) : Int)) ∧ (if (Decidable.decide (List.getD (List.getD (g6_0 (g5_0 x0) (g5_1 x0) (g5_2 x0) (g5_3 x0)) (Int.toNat (v15 - 1)) []) 1 0 ≥ List.getD (List.getD (g6_0 (g5_0 x0) (g5_1 x0) (g5_2 x0) (g5_3 x0)) (Int.toNat v15) []) 0 0)) = true then (ds = [Dyn.mk Ty.bool Bool.false]) else (R3_20 n (Decidable.decide (List.getD (List.getD (g6_0 (g5_0 x0) (g5_1 x0) (g5_2 x0) (g5_3 x0)) (Int.toNat (v15 - 1)) []) 1 0 ≥ List.getD (List.getD (g6_0 (g5_0 x0) (g5_1 x0) (g5_2 x0) (g5_3 x0)) (Int.toNat v15) []) 0 0)) (x1) (x0) (v11) (v15) ds))))))) else (R3_20 n (Bool.false) (x1) (x0) (v11) (v15) ds)))))))))))))))
def R3_35 : Nat → List Int → List Dyn → Prop
  | 0, _, _ => False
  | n + 1, x1, ds => (R3_37 n (g9_1 x1) (0) (x1) ds)
def R3_9 : Nat → Int → List Int → List Int → Int → List Dyn → Prop
  | 0, _, _, _, _, _ => False
  | n + 1, v11, x1, x0, v12, ds => ((InR IntKind.i64 (v12 + 1)) ∧ (R3_8 n (v11) (v12 + 1) (x1) (x0) ds))
def R3_20 : Nat → Bool → List Int → List Int → Int → Int → List Dyn → Prop
  | 0, _, _, _, _, _, _ => False
  | n + 1, v145, x1, x0, v11, v15, ds => ((0 ≤ v15) ∧ (v15 < (↑(List.length (g6_0 (g5_0 x0) (g5_1 x0) (g5_2 x0) (g5_3 x0))) : Int)) ∧ ((0 < (↑(List.length (List.getD (g6_0 (g5_0 x0) (g5_1 x0) (g5_2 x0) (g5_3 x0)) (Int.toNat v15) [])) : Int)) ∧ ((P8 (g5_0 x0) (List.getD (List.getD (g6_0 (g5_0 x0) (g5_1 x0) (g5_2 x0) (g5_3 x0)) (Int.toNat v15) []) 0 0)) ∧ (if (g8_1 (g5_0 x0) (List.getD (List.getD (g6_0 (g5_0 x0) (g5_1 x0) (g5_2 x0) (g5_3 x0)) (Int.toNat v15) []) 0 0) != 0) = true then (ds = [Dyn.mk Ty.bool Bool.false]) else (if (Decidable.decide ((↑(List.length (g8_0 (g5_0 x0) (List.getD (List.getD (g6_0 (g5_0 x0) (g5_1 x0) (g5_2 x0) (g5_3 x0)) (Int.toNat v15) []) 0 0))) : Int) ≥ g5_3 x0)) = true then (ds = [Dyn.mk Ty.bool Bool.false]) else (R3_23 n (x1) (x0) (v11) (v15) (v145) ds))))))
def R3_37 : Nat → Int → Int → List Int → List Dyn → Prop
  | 0, _, _, _, _ => False
  | n + 1, v25, v26, x1, ds => (if (Decidable.decide (v26 < (↑(List.length (g10_0 (g9_0 x1) (g9_1 x1) (g9_2 x1))) : Int))) = true then (R3_39 n (x1) (v25) (v26) ds) else (ds = [Dyn.mk Ty.bool (Decidable.decide (v25 ≥ g9_2 x1))]))
def R3_23 : Nat → List Int → List Int → Int → Int → Bool → List Dyn → Prop
  | 0, _, _, _, _, _, _ => False
  | n + 1, x1, x0, v11, v15, v145, ds => ((0 ≤ v15) ∧ (v15 < (↑(List.length (g6_0 (g5_0 x0) (g5_1 x0) (g5_2 x0) (g5_3 x0))) : Int)) ∧ ((1 < (↑(List.length (List.getD (g6_0 (g5_0 x0) (g5_1 x0) (g5_2 x0) (g5_3 x0)) (Int.toNat v15) [])) : Int)) ∧ ((0 ≤ v15) ∧ (v15 < (↑(List.length (g6_0 (g5_0 x0) (g5_1 x0) (g5_2 x0) (g5_3 x0))) : Int)) ∧ ((0 < (↑(List.length (List.getD (g6_0 (g5_0 x0) (g5_1 x0) (g5_2 x0) (g5_3 x0)) (Int.toNat v15) [])) : Int)) ∧ ((InR IntKind.i64 (List.getD (List.getD (g6_0 (g5_0 x0) (g5_1 x0) (g5_2 x0) (g5_3 x0)) (Int.toNat v15) []) 1 0 - List.getD (List.getD (g6_0 (g5_0 x0) (g5_1 x0) (g5_2 x0) (g5_3 x0)) (Int.toNat v15) []) 0 0)) ∧ ((InR IntKind.i64 (v11 - (List.getD (List.getD (g6_0 (g5_0 x0) (g5_1 x0) (g5_2 x0) (g5_3 x0)) (Int.toNat v15) []) 1 0 - List.getD (List.getD (g6_0 (g5_0 x0) (g5_1 x0) (g5_2 x0) (g5_3 x0)) (Int.toNat v15) []) 0 0))) ∧ (R3_17 n (x1) (x0) (v11) (v15) (v145) ds)))))))
def R3_39 : Nat → List Int → Int → Int → List Dyn → Prop
  | 0, _, _, _, _ => False
  | n + 1, x1, v25, v26, ds => ((0 ≤ v26) ∧ (v26 < (↑(List.length (g10_0 (g9_0 x1) (g9_1 x1) (g9_2 x1))) : Int)) ∧ (if (Decidable.decide (List.getD (g10_0 (g9_0 x1) (g9_1 x1) (g9_2 x1)) (Int.toNat v26) 0 < 0)) = true then (ds = [Dyn.mk Ty.bool Bool.false]) else ((0 ≤ v26) ∧ (v26 < (↑(List.length (g10_0 (g9_0 x1) (g9_1 x1) (g9_2 x1))) : Int)) ∧ (if (Decidable.decide (List.getD (g10_0 (g9_0 x1) (g9_1 x1) (g9_2 x1)) (Int.toNat v26) 0 ≥ (↑(List.length (g9_0 x1)) : Int))) = true then (ds = [Dyn.mk Ty.bool Bool.false]) else (if (Decidable.decide (v25 ≥ g9_2 x1)) = true then (ds = [Dyn.mk Ty.bool Bool.false]) else (R3_41 n (x1) (v25) (v26) ds))))))
def R3_17 : Nat → List Int → List Int → Int → Int → Bool → List Dyn → Prop
  | 0, _, _, _, _, _, _ => False
  | n + 1, x1, x0, v11, v15, v145, ds => ((InR IntKind.i64 (v15 + 1)) ∧ (R3_16 n (v11 - (List.getD (List.getD (g6_0 (g5_0 x0) (g5_1 x0) (g5_2 x0) (g5_3 x0)) (Int.toNat v15) []) 1 0 - List.getD (List.getD (g6_0 (g5_0 x0) (g5_1 x0) (g5_2 x0) (g5_3 x0)) (Int.toNat v15) []) 0 0)) (v15 + 1) (x1) (x0) ds))
def R3_41 : Nat → List Int → Int → Int → List Dyn → Prop
  | 0, _, _, _, _ => False
  | n + 1, x1, v25, v26, ds => ((0 ≤ v26) ∧ (v26 < (↑(List.length (g10_0 (g9_0 x1) (g9_1 x1) (g9_2 x1))) : Int)) ∧ ((0 ≤ List.getD (g10_0 (g9_0 x1) (g9_1 x1) (g9_2 x1)) (Int.toNat v26) 0) ∧ (List.getD (g10_0 (g9_0 x1) (g9_1 x1) (g9_2 x1)) (Int.toNat v26) 0 < (↑(List.length (g9_0 x1)) : Int)) ∧ ((P13 (List.getD (g9_0 x1) (Int.toNat (List.getD (g10_0 (g9_0 x1) (g9_1 x1) (g9_2 x1)) (Int.toNat v26) 0)) (ByteArray.empty, 0, 0, ()))) ∧ ((P12 (g13_0 (List.getD (g9_0 x1) (Int.toNat (List.getD (g10_0 (g9_0 x1) (g9_1 x1) (g9_2 x1)) (Int.toNat v26) 0)) (ByteArray.empty, 0, 0, ())))) ∧ (if (Decidable.decide (Prod.fst (Prod.snd (List.getD (g9_0 x1) (Int.toNat (List.getD (g10_0 (g9_0 x1) (g9_1 x1) (g9_2 x1)) (Int.toNat v26) 0)) (ByteArray.empty, 0, 0, ()))) > v25)) = true then (ds = [Dyn.mk Ty.bool Bool.false]) else (if (Decidable.decide (Prod.fst (Prod.snd (Prod.snd (List.getD (g9_0 x1) (Int.toNat (List.getD (g10_0 (g9_0 x1) (g9_1 x1) (g9_2 x1)) (Int.toNat v26) 0)) (ByteArray.empty, 0, 0, ())))) ≤ v25)) = true then (ds = [Dyn.mk Ty.bool Bool.false]) else (if (!g12_1 (g13_0 (List.getD (g9_0 x1) (Int.toNat (List.getD (g10_0 (g9_0 x1) (g9_1 x1) (g9_2 x1)) (Int.toNat v26) 0)) (ByteArray.empty, 0, 0, ())))) = true then (ds = [Dyn.mk Ty.bool Bool.false]) else (if (!eqD (Ty.cons Ty.str (Ty.cons (Ty.int IntKind.i64) (Ty.cons (Ty.int IntKind.i64) Ty.unit))) (g12_0 (g13_0 (List.getD (g9_0 x1) (Int.toNat (List.getD (g10_0 (g9_0 x1) (g9_1 x1) (g9_2 x1)) (Int.toNat v26) 0)) (ByteArray.empty, 0, 0, ())))) (List.getD (g9_0 x1) (Int.toNat (List.getD (g10_0 (g9_0 x1) (g9_1 x1) (g9_2 x1)) (Int.toNat v26) 0)) (ByteArray.empty, 0, 0, ()))) = true then (ds = [Dyn.mk Ty.bool Bool.false]) else (R3_45 n (x1) (v25) (v26) ds)))))))))
def R3_45 : Nat → List Int → Int → Int → List Dyn → Prop
  | 0, _, _, _, _ => False
  | n + 1, x1, v25, v26, ds => (R3_46 n (0) (x1) (v25) (v26) ds)
def R3_46 : Nat → Int → List Int → Int → Int → List Dyn → Prop
  | 0, _, _, _, _, _ => False
  | n + 1, v30, x1, v25, v26, ds => (if (Decidable.decide (v30 < (↑(List.length (g9_0 x1)) : Int))) = true then (R3_48 n (x1) (v25) (v26) (v30) ds) else (R3_38 n (x1) (v26) (v25) ds))
def R3_48 : Nat → List Int → Int → Int → Int → List Dyn → Prop
  | 0, _, _, _, _, _ => False
  | n + 1, x1, v25, v26, v30, ds => ((0 ≤ v30) ∧ (v30 < (↑(List.length (g9_0 x1)) : Int)) ∧ (if (Decidable.decide (Prod.fst (Prod.snd (List.getD (g9_0 x1) (Int.toNat v30) (ByteArray.empty, 0, 0, ()))) ≤ v25)) = true then ((0 ≤ v30) ∧ (v30 < (↑(List.length (g9_0 x1)) : Int)) ∧ (if (Decidable.decide (Prod.fst (Prod.snd (Prod.snd (List.getD (g9_0 x1) (Int.toNat v30) (ByteArray.empty, 0, 0, ())))) > Prod.fst (Prod.snd (Prod.snd (List.getD (g9_0 x1) (Int.toNat (List.getD (g10_0 (g9_0 x1) (g9_1 x1) (g9_2 x1)) (Int.toNat v26) 0)) (ByteArray.empty, 0, 0, ())))))) = true then (ds = [Dyn.mk Ty.bool Bool.false]) else (R3_47 n (x1) (v25) (v26) (v30) ds))) else (R3_47 n (x1) (v25) (v26) (v30) ds)))
def R3_38 : Nat → List Int → Int → Int → List Dyn → Prop
  | 0, _, _, _, _ => False
  | n + 1, x1, v26, v25, ds => ((InR IntKind.i64 (v26 + 1)) ∧ (R3_37 n (Prod.fst (Prod.snd (Prod.snd (List.getD (g9_0 x1) (Int.toNat (List.getD (g10_0 (g9_0 x1) (g9_1 x1) (g9_2 x1)) (Int.toNat v26) 0)) (ByteArray.empty, 0, 0, ()))))) (v26 + 1) (x1) ds))
def R3_47 : Nat → List Int → Int → Int → Int → List Dyn → Prop
  | 0, _, _, _, _, _ => False
  | n + 1, x1, v25, v26, v30, ds => ((InR IntKind.i64 (v30 + 1)) ∧ (R3_46 n (v30 + 1) (x1) (v25) (v26) ds))
end
theorem snd3 : ∀ n, (∀ (x0 : List Int) (x1 : List Int) ds, R3 n x0 x1 ds → ∀ K q, AtV Tryd.prog 3 (PostR kds3 oks3 ds [] [] q K) 304 K q [] [.code b3] (entE 0 0 sig3 (x0, x1, ())) (entL sig3 (x0, x1, ()))) ∧ (∀ (x0 : List Int) (x1 : List Int) ds, R3_3 n x0 x1 ds → ∀ K q, AtV Tryd.prog 3 (PostR kds3 oks3 ds [] [] q K) 304 K q [] (cutAt b3 3) (E3_3 x0 x1) (L3_3 x0 x1)) ∧ (∀ (v11 : Int) (v12 : Int) (x1 : List Int) (x0 : List Int) ds, R3_8 n v11 v12 x1 x0 ds → ∀ K q, AtV Tryd.prog 3 (PostR kds3 oks3 ds [] [] q K) 304 K q [] (cutAt b3 8) (E3_8 v11 v12 x1 x0) (L3_8 v11 v12 x1 x0)) ∧ (∀ (x1 : List Int) ds, R3_28 n x1 ds → ∀ K q, AtV Tryd.prog 3 (PostR kds3 oks3 ds [] [] q K) 304 K q [] (cutAt b3 28) (E3_28 x1) (L3_28 x1)) ∧ (∀ (x1 : List Int) (x0 : List Int) (v11 : Int) (v12 : Int) ds, R3_10 n x1 x0 v11 v12 ds → ∀ K q, AtV Tryd.prog 3 (PostR kds3 oks3 ds [] [] q K) 304 K q [] (cutAt b3 10) (E3_10 x1 x0 v11 v12) (L3_10 x1 x0 v11 v12)) ∧ (∀ (v11 : Int) (v15 : Int) (x1 : List Int) (x0 : List Int) ds, R3_16 n v11 v15 x1 x0 ds → ∀ K q, AtV Tryd.prog 3 (PostR kds3 oks3 ds [] [] q K) 304 K q [] (cutAt b3 16) (E3_16 v11 v15 x1 x0) (L3_16 v11 v15 x1 x0)) ∧ (∀ (x1 : List Int) ds, R3_33 n x1 ds → ∀ K q, AtV Tryd.prog 3 (PostR kds3 oks3 ds [] [] q K) 304 K q [] (cutAt b3 33) (E3_33 x1) (L3_33 x1)) ∧ (∀ (x1 : List Int) (x0 : List Int) (v11 : Int) (v12 : Int) ds, R3_13 n x1 x0 v11 v12 ds → ∀ K q, AtV Tryd.prog 3 (PostR kds3 oks3 ds [] [] q K) 304 K q [] (cutAt b3 13) (E3_13 x1 x0 v11 v12) (L3_13 x1 x0 v11 v12)) ∧ (∀ (x1 : List Int) (x0 : List Int) (v11 : Int) (v15 : Int) ds, R3_18 n x1 x0 v11 v15 ds → ∀ K q, AtV Tryd.prog 3 (PostR kds3 oks3 ds [] [] q K) 304 K q [] (cutAt b3 18) (E3_18 x1 x0 v11 v15) (L3_18 x1 x0 v11 v15)) ∧ (∀ (x1 : List Int) ds, R3_35 n x1 ds → ∀ K q, AtV Tryd.prog 3 (PostR kds3 oks3 ds [] [] q K) 304 K q [] (cutAt b3 35) (E3_35 x1) (L3_35 x1)) ∧ (∀ (v11 : Int) (x1 : List Int) (x0 : List Int) (v12 : Int) ds, R3_9 n v11 x1 x0 v12 ds → ∀ K q, AtV Tryd.prog 3 (PostR kds3 oks3 ds [] [] q K) 304 K q [] (cutAt b3 9) (E3_9 v11 x1 x0 v12) (L3_9 v11 x1 x0 v12)) ∧ (∀ (v145 : Bool) (x1 : List Int) (x0 : List Int) (v11 : Int) (v15 : Int) ds, R3_20 n v145 x1 x0 v11 v15 ds → ∀ K q, AtV Tryd.prog 3 (PostR kds3 oks3 ds [] [] q K) 304 K q [] (cutAt b3 20) (E3_20 v145 x1 x0 v11 v15) (L3_20 v145 x1 x0 v11 v15)) ∧ (∀ (v25 : Int) (v26 : Int) (x1 : List Int) ds, R3_37 n v25 v26 x1 ds → ∀ K q, AtV Tryd.prog 3 (PostR kds3 oks3 ds [] [] q K) 304 K q [] (cutAt b3 37) (E3_37 v25 v26 x1) (L3_37 v25 v26 x1)) ∧ (∀ (x1 : List Int) (x0 : List Int) (v11 : Int) (v15 : Int) (v145 : Bool) ds, R3_23 n x1 x0 v11 v15 v145 ds → ∀ K q, AtV Tryd.prog 3 (PostR kds3 oks3 ds [] [] q K) 304 K q [] (cutAt b3 23) (E3_23 x1 x0 v11 v15 v145) (L3_23 x1 x0 v11 v15 v145)) ∧ (∀ (x1 : List Int) (v25 : Int) (v26 : Int) ds, R3_39 n x1 v25 v26 ds → ∀ K q, AtV Tryd.prog 3 (PostR kds3 oks3 ds [] [] q K) 304 K q [] (cutAt b3 39) (E3_39 x1 v25 v26) (L3_39 x1 v25 v26)) ∧ (∀ (x1 : List Int) (x0 : List Int) (v11 : Int) (v15 : Int) (v145 : Bool) ds, R3_17 n x1 x0 v11 v15 v145 ds → ∀ K q, AtV Tryd.prog 3 (PostR kds3 oks3 ds [] [] q K) 304 K q [] (cutAt b3 17) (E3_17 x1 x0 v11 v15 v145) (L3_17 x1 x0 v11 v15 v145)) ∧ (∀ (x1 : List Int) (v25 : Int) (v26 : Int) ds, R3_41 n x1 v25 v26 ds → ∀ K q, AtV Tryd.prog 3 (PostR kds3 oks3 ds [] [] q K) 304 K q [] (cutAt b3 41) (E3_41 x1 v25 v26) (L3_41 x1 v25 v26)) ∧ (∀ (x1 : List Int) (v25 : Int) (v26 : Int) ds, R3_45 n x1 v25 v26 ds → ∀ K q, AtV Tryd.prog 3 (PostR kds3 oks3 ds [] [] q K) 304 K q [] (cutAt b3 45) (E3_45 x1 v25 v26) (L3_45 x1 v25 v26)) ∧ (∀ (v30 : Int) (x1 : List Int) (v25 : Int) (v26 : Int) ds, R3_46 n v30 x1 v25 v26 ds → ∀ K q, AtV Tryd.prog 3 (PostR kds3 oks3 ds [] [] q K) 304 K q [] (cutAt b3 46) (E3_46 v30 x1 v25 v26) (L3_46 v30 x1 v25 v26)) ∧ (∀ (x1 : List Int) (v25 : Int) (v26 : Int) (v30 : Int) ds, R3_48 n x1 v25 v26 v30 ds → ∀ K q, AtV Tryd.prog 3 (PostR kds3 oks3 ds [] [] q K) 304 K q [] (cutAt b3 48) (E3_48 x1 v25 v26 v30) (L3_48 x1 v25 v26 v30)) ∧ (∀ (x1 : List Int) (v26 : Int) (v25 : Int) ds, R3_38 n x1 v26 v25 ds → ∀ K q, AtV Tryd.prog 3 (PostR kds3 oks3 ds [] [] q K) 304 K q [] (cutAt b3 38) (E3_38 x1 v26 v25) (L3_38 x1 v26 v25)) ∧ (∀ (x1 : List Int) (v25 : Int) (v26 : Int) (v30 : Int) ds, R3_47 n x1 v25 v26 v30 ds → ∀ K q, AtV Tryd.prog 3 (PostR kds3 oks3 ds [] [] q K) 304 K q [] (cutAt b3 47) (E3_47 x1 v25 v26 v30) (L3_47 x1 v25 v26 v30)) := by
  intro n
  induction n with
  | zero => exact ⟨fun _ _ _ h => by simp only [R3] at h, fun _ _ _ h => by simp only [R3_3] at h, fun _ _ _ _ _ h => by simp only [R3_8] at h, fun _ _ h => by simp only [R3_28] at h, fun _ _ _ _ _ h => by simp only [R3_10] at h, fun _ _ _ _ _ h => by simp only [R3_16] at h, fun _ _ h => by simp only [R3_33] at h, fun _ _ _ _ _ h => by simp only [R3_13] at h, fun _ _ _ _ _ h => by simp only [R3_18] at h, fun _ _ h => by simp only [R3_35] at h, fun _ _ _ _ _ h => by simp only [R3_9] at h, fun _ _ _ _ _ _ h => by simp only [R3_20] at h, fun _ _ _ _ h => by simp only [R3_37] at h, fun _ _ _ _ _ _ h => by simp only [R3_23] at h, fun _ _ _ _ h => by simp only [R3_39] at h, fun _ _ _ _ _ _ h => by simp only [R3_17] at h, fun _ _ _ _ h => by simp only [R3_41] at h, fun _ _ _ _ h => by simp only [R3_45] at h, fun _ _ _ _ _ h => by simp only [R3_46] at h, fun _ _ _ _ _ h => by simp only [R3_48] at h, fun _ _ _ _ h => by simp only [R3_38] at h, fun _ _ _ _ _ h => by simp only [R3_47] at h⟩
  | succ n ih =>
  obtain ⟨ih, ih3, ih8, ih28, ih10, ih16, ih33, ih13, ih18, ih35, ih9, ih20, ih37, ih23, ih39, ih17, ih41, ih45, ih46, ih48, ih38, ih47⟩ := ih
  refine ⟨?_, ?_, ?_, ?_, ?_, ?_, ?_, ?_, ?_, ?_, ?_, ?_, ?_, ?_, ?_, ?_, ?_, ?_, ?_, ?_, ?_, ?_⟩
  · intro x0 x1 ds h K q
    rw [R3] at h
    by_cases b0 : (g4_0 x0) = true
    · rw [if_pos b0] at h
      subst h
      exact AtV.ret Tryd.func3 tabOk ext3Ok mixed false [3, 28, 10, 9, 13, 18, 17, 20, 23, 33, 35, 39, 38, 41, 45, 48, 47] tys3 [true, true] (a1 trivial (a1 b0 (a1 (rfl : Bool.true = Bool.true) trivial))) (by kernel_rfl)
    · rw [if_neg b0] at h
      replace b0 := Bool.eq_false_iff.2 b0
      by_cases b1 : (g4_0 x1) = true
      · rw [if_pos b1] at h
        subst h
        exact AtV.ret Tryd.func3 tabOk ext3Ok mixed false [3, 28, 10, 9, 13, 18, 17, 20, 23, 33, 35, 39, 38, 41, 45, 48, 47] tys3 [false, true] (a1 trivial (a1 b0 (a1 trivial (a1 b1 trivial)))) (by kernel_rfl)
      · rw [if_neg b1] at h
        replace b1 := Bool.eq_false_iff.2 b1
        exact AtV.go tabOk ext3Ok mixed false [3, 28, 10, 9, 13, 18, 17, 20, 23, 33, 35, 39, 38, 41, 45, 48, 47] [] [0, 1] [] [false, false] (a1 trivial (a1 b0 (a1 trivial (a1 b1 trivial)))) (ih3 _ _ _ h K q) (by kernel_rfl)

  · intro x0 x1 ds h K q
    rw [R3_3] at h
    obtain ⟨s0, h⟩ := h
    obtain ⟨s1, h⟩ := h
    by_cases b0 : (g6_1 (g5_0 x0) (g5_1 x0) (g5_2 x0) (g5_3 x0) == 0) = true
    · rw [if_pos b0] at h
      exact AtV.go tabOk ext3Ok mixed false [3, 28, 10, 9, 13, 18, 17, 20, 23, 33, 35, 39, 38, 41, 45, 48, 47] [] [1, 5, 6, 7, 8, 9, 11, 12] [] [true] (a1 s0 (a1 s1 (a1 b0 trivial))) (ih8 _ _ _ _ _ h K q) (by kernel_rfl)
    · rw [if_neg b0] at h
      replace b0 := Bool.eq_false_iff.2 b0
      by_cases b1 : ((↑(List.length (g6_0 (g5_0 x0) (g5_1 x0) (g5_2 x0) (g5_3 x0))) : Int) != 0) = true
      · rw [if_pos b1] at h
        subst h
        exact AtV.ret Tryd.func3 tabOk ext3Ok mixed false [3, 28, 10, 9, 13, 18, 17, 20, 23, 33, 35, 39, 38, 41, 45, 48, 47] tys3 [false, true] (a1 s0 (a1 s1 (a1 b0 (a1 b1 trivial)))) (by kernel_rfl)
      · rw [if_neg b1] at h
        replace b1 := Bool.eq_false_iff.2 b1
        exact AtV.go tabOk ext3Ok mixed false [3, 28, 10, 9, 13, 18, 17, 20, 23, 33, 35, 39, 38, 41, 45, 48, 47] [] [1] [] [false, false] (a1 s0 (a1 s1 (a1 b0 (a1 b1 trivial)))) (ih28 _ _ h K q) (by kernel_rfl)

  · intro v11 v12 x1 x0 ds h K q
    rw [R3_8] at h
    by_cases b0 : (Decidable.decide (v12 < g5_2 x0)) = true
    · rw [if_pos b0] at h
      obtain ⟨s0, h⟩ := h
      by_cases b1 : (Decidable.decide (v12 < g5_1 x0 + 400)) = true
      · rw [if_pos b1] at h
        exact AtV.go tabOk ext3Ok mixed false [3, 28, 10, 9, 13, 18, 17, 20, 23, 33, 35, 39, 38, 41, 45, 48, 47] [] [1, 5, 6, 7, 8, 9, 11, 12, 59, 60, 61, 62] [] [true, true] (a1 b0 (a1 s0 (a1 b1 trivial))) (ih10 _ _ _ _ _ h K q) (by kernel_rfl)
      · rw [if_neg b1] at h
        replace b1 := Bool.eq_false_iff.2 b1
        exact AtV.go tabOk ext3Ok mixed false [3, 28, 10, 9, 13, 18, 17, 20, 23, 33, 35, 39, 38, 41, 45, 48, 47] [] [1, 5, 6, 7, 8, 9, 11, 15] [] [true, false] (a1 b0 (a1 s0 (a1 b1 trivial))) (ih16 _ _ _ _ _ h K q) (by kernel_rfl)
    · rw [if_neg b0] at h
      replace b0 := Bool.eq_false_iff.2 b0
      exact AtV.go tabOk ext3Ok mixed false [3, 28, 10, 9, 13, 18, 17, 20, 23, 33, 35, 39, 38, 41, 45, 48, 47] [] [1, 5, 6, 7, 8, 9, 11, 15] [] [false, false] (a1 b0 (a1 (rfl : Bool.false = Bool.false) trivial)) (ih16 _ _ _ _ _ h K q) (by kernel_rfl)

  · intro x1 ds h K q
    rw [R3_28] at h
    obtain ⟨s0, h⟩ := h
    obtain ⟨s1, h⟩ := h
    obtain ⟨s2, h⟩ := h
    by_cases b0 : (g10_1 (g9_0 x1) (g9_1 x1) (g9_2 x1) != 0) = true
    · rw [if_pos b0] at h
      subst h
      exact AtV.ret Tryd.func3 tabOk ext3Ok mixed false [3, 28, 10, 9, 13, 18, 17, 20, 23, 33, 35, 39, 38, 41, 45, 48, 47] tys3 [true] (a1 s0 (a1 s1 (a1 s2 (a1 b0 trivial)))) (by kernel_rfl)
    · rw [if_neg b0] at h
      replace b0 := Bool.eq_false_iff.2 b0
      exact AtV.go tabOk ext3Ok mixed false [3, 28, 10, 9, 13, 18, 17, 20, 23, 33, 35, 39, 38, 41, 45, 48, 47] [] [18, 19, 20, 21, 23, 24] [1] [false] (a1 s0 (a1 s1 (a1 s2 (a1 b0 trivial)))) (ih33 _ _ h K q) (by kernel_rfl)

  · intro x1 x0 v11 v12 ds h K q
    rw [R3_10] at h
    obtain ⟨s0, h⟩ := h
    by_cases b0 : (g7_1 (g5_0 x0) v12 != 0) = true
    · rw [if_pos b0] at h
      subst h
      exact AtV.ret Tryd.func3 tabOk ext3Ok mixed false [3, 28, 10, 9, 13, 18, 17, 20, 23, 33, 35, 39, 38, 41, 45, 48, 47] tys3 [true] (a1 s0 (a1 b0 trivial)) (by kernel_rfl)
    · rw [if_neg b0] at h
      replace b0 := Bool.eq_false_iff.2 b0
      exact AtV.go tabOk ext3Ok mixed false [3, 28, 10, 9, 13, 18, 17, 20, 23, 33, 35, 39, 38, 41, 45, 48, 47] [] [1, 5, 6, 7, 8, 9, 11, 12, 13, 59, 60, 61, 62] [0] [false] (a1 s0 (a1 b0 trivial)) (ih13 _ _ _ _ _ h K q) (by kernel_rfl)

  · intro v11 v15 x1 x0 ds h K q
    rw [R3_16] at h
    by_cases b0 : (Decidable.decide (v15 < (↑(List.length (g6_0 (g5_0 x0) (g5_1 x0) (g5_2 x0) (g5_3 x0))) : Int))) = true
    · rw [if_pos b0] at h
      exact AtV.go tabOk ext3Ok mixed false [3, 28, 10, 9, 13, 18, 17, 20, 23, 33, 35, 39, 38, 41, 45, 48, 47] [] [1, 5, 6, 7, 8, 9, 11, 15] [] [true] (a1 b0 trivial) (ih18 _ _ _ _ _ h K q) (by kernel_rfl)
    · rw [if_neg b0] at h
      replace b0 := Bool.eq_false_iff.2 b0
      by_cases b1 : (v11 != 0) = true
      · rw [if_pos b1] at h
        subst h
        exact AtV.ret Tryd.func3 tabOk ext3Ok mixed false [3, 28, 10, 9, 13, 18, 17, 20, 23, 33, 35, 39, 38, 41, 45, 48, 47] tys3 [false, true] (a1 b0 (a1 b1 trivial)) (by kernel_rfl)
      · rw [if_neg b1] at h
        replace b1 := Bool.eq_false_iff.2 b1
        exact AtV.go tabOk ext3Ok mixed false [3, 28, 10, 9, 13, 18, 17, 20, 23, 33, 35, 39, 38, 41, 45, 48, 47] [] [1] [] [false, false] (a1 b0 (a1 b1 trivial)) (ih28 _ _ h K q) (by kernel_rfl)

  · intro x1 ds h K q
    rw [R3_33] at h
    by_cases b0 : (g11_1 (g9_0 x1) (g9_1 x1) (g9_2 x1) 1 != 0) = true
    · rw [if_pos b0] at h
      subst h
      exact AtV.ret Tryd.func3 tabOk ext3Ok mixed false [3, 28, 10, 9, 13, 18, 17, 20, 23, 33, 35, 39, 38, 41, 45, 48, 47] tys3 [true, true] (a1 b0 (a1 (rfl : Bool.true = Bool.true) trivial)) (by kernel_rfl)
    · rw [if_neg b0] at h
      replace b0 := Bool.eq_false_iff.2 b0
      by_cases b1 : ((↑(List.length (g11_0 (g9_0 x1) (g9_1 x1) (g9_2 x1) 1)) : Int) != 0) = true
      · rw [if_pos b1] at h
        subst h
        exact AtV.ret Tryd.func3 tabOk ext3Ok mixed false [3, 28, 10, 9, 13, 18, 17, 20, 23, 33, 35, 39, 38, 41, 45, 48, 47] tys3 [false, true] (a1 b0 (a1 b1 trivial)) (by kernel_rfl)
      · rw [if_neg b1] at h
        replace b1 := Bool.eq_false_iff.2 b1
        exact AtV.go tabOk ext3Ok mixed false [3, 28, 10, 9, 13, 18, 17, 20, 23, 33, 35, 39, 38, 41, 45, 48, 47] [] [18, 19, 20, 21] [0] [false, false] (a1 b0 (a1 b1 trivial)) (ih35 _ _ h K q) (by kernel_rfl)

  · intro x1 x0 v11 v12 ds h K q
    rw [R3_13] at h
    by_cases b0 : (Decidable.decide ((↑(List.length (g7_0 (g5_0 x0) v12)) : Int) < g5_3 x0)) = true
    · rw [if_pos b0] at h
      obtain ⟨s0, h⟩ := h
      exact AtV.go tabOk ext3Ok mixed false [3, 28, 10, 9, 13, 18, 17, 20, 23, 33, 35, 39, 38, 41, 45, 48, 47] [] [1, 5, 6, 7, 8, 9, 11, 12, 59, 60, 61, 62] [] [true] (a1 b0 (a1 s0 trivial)) (ih9 _ _ _ _ _ h K q) (by kernel_rfl)
    · rw [if_neg b0] at h
      replace b0 := Bool.eq_false_iff.2 b0
      exact AtV.go tabOk ext3Ok mixed false [3, 28, 10, 9, 13, 18, 17, 20, 23, 33, 35, 39, 38, 41, 45, 48, 47] [] [1, 5, 6, 7, 8, 9, 11, 12, 59, 60, 61, 62] [] [false] (a1 b0 trivial) (ih9 _ _ _ _ _ h K q) (by kernel_rfl)

  · intro x1 x0 v11 v15 ds h K q
    rw [R3_18] at h
    obtain ⟨s0, s1, h⟩ := h
    by_cases b0 : ((↑(List.length (List.getD (g6_0 (g5_0 x0) (g5_1 x0) (g5_2 x0) (g5_3 x0)) (Int.toNat v15) [])) : Int) != 2) = true
    · rw [if_pos b0] at h
      subst h
      exact AtV.ret Tryd.func3 tabOk ext3Ok mixed false [3, 28, 10, 9, 13, 18, 17, 20, 23, 33, 35, 39, 38, 41, 45, 48, 47] tys3 [true, true, true, true, true] (a1 s0 (a1 s1 (a1 b0 (a1 (rfl : Bool.true = Bool.true) (a1 (rfl : Bool.true = Bool.true) (a1 (rfl : Bool.true = Bool.true) (a1 (rfl : Bool.true = Bool.true) trivial))))))) (by kernel_rfl)
    · rw [if_neg b0] at h
      replace b0 := Bool.eq_false_iff.2 b0
      obtain ⟨s2, s3, h⟩ := h
      obtain ⟨s4, h⟩ := h
      by_cases b1 : (Decidable.decide (List.getD (List.getD (g6_0 (g5_0 x0) (g5_1 x0) (g5_2 x0) (g5_3 x0)) (Int.toNat v15) []) 0 0 < g5_1 x0)) = true
      · rw [if_pos b1] at h
        subst h
        exact AtV.ret Tryd.func3 tabOk ext3Ok mixed false [3, 28, 10, 9, 13, 18, 17, 20, 23, 33, 35, 39, 38, 41, 45, 48, 47] tys3 [false, true, true, true, true] (a1 s0 (a1 s1 (a1 b0 (a1 s2 (a1 s3 (a1 ((by decide) : (0 : Int) ≤ (0 : Int)) (a1 s4 (a1 b1 (a1 (rfl : Bool.true = Bool.true) (a1 (rfl : Bool.true = Bool.true) (a1 (rfl : Bool.true = Bool.true) trivial))))))))))) (by kernel_rfl)
      · rw [if_neg b1] at h
        replace b1 := Bool.eq_false_iff.2 b1
        obtain ⟨s5, s6, h⟩ := h
        obtain ⟨s7, h⟩ := h
        by_cases b2 : (Decidable.decide (List.getD (List.getD (g6_0 (g5_0 x0) (g5_1 x0) (g5_2 x0) (g5_3 x0)) (Int.toNat v15) []) 1 0 > g5_2 x0)) = true
        · rw [if_pos b2] at h
          subst h
          exact AtV.ret Tryd.func3 tabOk ext3Ok mixed false [3, 28, 10, 9, 13, 18, 17, 20, 23, 33, 35, 39, 38, 41, 45, 48, 47] tys3 [false, false, true, true, true] (a1 s0 (a1 s1 (a1 b0 (a1 s2 (a1 s3 (a1 ((by decide) : (0 : Int) ≤ (0 : Int)) (a1 s4 (a1 b1 (a1 s5 (a1 s6 (a1 ((by decide) : (0 : Int) ≤ (1 : Int)) (a1 s7 (a1 b2 (a1 (rfl : Bool.true = Bool.true) (a1 (rfl : Bool.true = Bool.true) trivial))))))))))))))) (by kernel_rfl)
        · rw [if_neg b2] at h
          replace b2 := Bool.eq_false_iff.2 b2
          obtain ⟨s8, s9, h⟩ := h
          obtain ⟨s10, h⟩ := h
          obtain ⟨s11, s12, h⟩ := h
          obtain ⟨s13, h⟩ := h
          by_cases b3 : (Decidable.decide (List.getD (List.getD (g6_0 (g5_0 x0) (g5_1 x0) (g5_2 x0) (g5_3 x0)) (Int.toNat v15) []) 0 0 ≥ List.getD (List.getD (g6_0 (g5_0 x0) (g5_1 x0) (g5_2 x0) (g5_3 x0)) (Int.toNat v15) []) 1 0)) = true
          · rw [if_pos b3] at h
            subst h
            exact AtV.ret Tryd.func3 tabOk ext3Ok mixed false [3, 28, 10, 9, 13, 18, 17, 20, 23, 33, 35, 39, 38, 41, 45, 48, 47] tys3 [false, false, false, true, true] (a1 s0 (a1 s1 (a1 b0 (a1 s2 (a1 s3 (a1 ((by decide) : (0 : Int) ≤ (0 : Int)) (a1 s4 (a1 b1 (a1 s5 (a1 s6 (a1 ((by decide) : (0 : Int) ≤ (1 : Int)) (a1 s7 (a1 b2 (a1 s8 (a1 s9 (a1 ((by decide) : (0 : Int) ≤ (0 : Int)) (a1 s10 (a1 s11 (a1 s12 (a1 ((by decide) : (0 : Int) ≤ (1 : Int)) (a1 s13 (a1 b3 (a1 (rfl : Bool.true = Bool.true) trivial))))))))))))))))))))))) (by kernel_rfl)
          · rw [if_neg b3] at h
            replace b3 := Bool.eq_false_iff.2 b3
            by_cases b4 : (Decidable.decide (v15 > 0)) = true
            · rw [if_pos b4] at h
              obtain ⟨s14, h⟩ := h
              obtain ⟨s15, s16, h⟩ := h
              obtain ⟨s17, h⟩ := h
              obtain ⟨s18, s19, h⟩ := h
              obtain ⟨s20, h⟩ := h
              by_cases b5 : (Decidable.decide (List.getD (List.getD (g6_0 (g5_0 x0) (g5_1 x0) (g5_2 x0) (g5_3 x0)) (Int.toNat (v15 - 1)) []) 1 0 ≥ List.getD (List.getD (g6_0 (g5_0 x0) (g5_1 x0) (g5_2 x0) (g5_3 x0)) (Int.toNat v15) []) 0 0)) = true
              · rw [if_pos b5] at h
                subst h
                exact AtV.ret Tryd.func3 tabOk ext3Ok mixed false [3, 28, 10, 9, 13, 18, 17, 20, 23, 33, 35, 39, 38, 41, 45, 48, 47] tys3 [false, false, false, false, true, true] (a1 s0 (a1 s1 (a1 b0 (a1 s2 (a1 s3 (a1 ((by decide) : (0 : Int) ≤ (0 : Int)) (a1 s4 (a1 b1 (a1 s5 (a1 s6 (a1 ((by decide) : (0 : Int) ≤ (1 : Int)) (a1 s7 (a1 b2 (a1 s8 (a1 s9 (a1 ((by decide) : (0 : Int) ≤ (0 : Int)) (a1 s10 (a1 s11 (a1 s12 (a1 ((by decide) : (0 : Int) ≤ (1 : Int)) (a1 s13 (a1 b3 (a1 b4 (a1 s14 (a1 s15 (a1 s16 (a1 ((by decide) : (0 : Int) ≤ (1 : Int)) (a1 s17 (a1 s18 (a1 s19 (a1 ((by decide) : (0 : Int) ≤ (0 : Int)) (a1 s20 (a1 b5 trivial))))))))))))))))))))))))))))))))) (by kernel_rfl)
              · rw [if_neg b5] at h
                replace b5 := Bool.eq_false_iff.2 b5
                exact AtV.go tabOk ext3Ok mixed false [3, 28, 10, 9, 13, 18, 17, 20, 23, 33, 35, 39, 38, 41, 45, 48, 47] [] [1, 5, 6, 7, 8, 9, 11, 15, 93, 94, 95, 96, 97, 98, 99, 100, 103, 104, 105, 106, 107, 108, 109, 110, 113, 114, 115, 116, 117, 118, 119, 120, 121, 122, 123, 124, 125, 128, 129, 130, 145] [] [false, false, false, false, true, false] (a1 s0 (a1 s1 (a1 b0 (a1 s2 (a1 s3 (a1 ((by decide) : (0 : Int) ≤ (0 : Int)) (a1 s4 (a1 b1 (a1 s5 (a1 s6 (a1 ((by decide) : (0 : Int) ≤ (1 : Int)) (a1 s7 (a1 b2 (a1 s8 (a1 s9 (a1 ((by decide) : (0 : Int) ≤ (0 : Int)) (a1 s10 (a1 s11 (a1 s12 (a1 ((by decide) : (0 : Int) ≤ (1 : Int)) (a1 s13 (a1 b3 (a1 b4 (a1 s14 (a1 s15 (a1 s16 (a1 ((by decide) : (0 : Int) ≤ (1 : Int)) (a1 s17 (a1 s18 (a1 s19 (a1 ((by decide) : (0 : Int) ≤ (0 : Int)) (a1 s20 (a1 b5 trivial))))))))))))))))))))))))))))))))) (ih20 _ _ _ _ _ _ h K q) (by kernel_rfl)
            · rw [if_neg b4] at h
              replace b4 := Bool.eq_false_iff.2 b4
              exact AtV.go tabOk ext3Ok mixed false [3, 28, 10, 9, 13, 18, 17, 20, 23, 33, 35, 39, 38, 41, 45, 48, 47] [] [1, 5, 6, 7, 8, 9, 11, 15, 93, 94, 95, 96, 97, 98, 99, 100, 103, 104, 105, 106, 107, 108, 109, 110, 113, 114, 115, 116, 117, 118, 119, 120, 121, 122, 123, 124, 125, 128, 129, 130, 145] [] [false, false, false, false, false, false] (a1 s0 (a1 s1 (a1 b0 (a1 s2 (a1 s3 (a1 ((by decide) : (0 : Int) ≤ (0 : Int)) (a1 s4 (a1 b1 (a1 s5 (a1 s6 (a1 ((by decide) : (0 : Int) ≤ (1 : Int)) (a1 s7 (a1 b2 (a1 s8 (a1 s9 (a1 ((by decide) : (0 : Int) ≤ (0 : Int)) (a1 s10 (a1 s11 (a1 s12 (a1 ((by decide) : (0 : Int) ≤ (1 : Int)) (a1 s13 (a1 b3 (a1 b4 (a1 (rfl : Bool.false = Bool.false) trivial)))))))))))))))))))))))) (ih20 _ _ _ _ _ _ h K q) (by kernel_rfl)

  · intro x1 ds h K q
    rw [R3_35] at h
    exact AtV.go tabOk ext3Ok mixed false [3, 28, 10, 9, 13, 18, 17, 20, 23, 33, 35, 39, 38, 41, 45, 48, 47] [] [18, 20, 21, 25, 26] [0] [] trivial (ih37 _ _ _ _ h K q) (by kernel_rfl)

  · intro v11 x1 x0 v12 ds h K q
    rw [R3_9] at h
    obtain ⟨s0, h⟩ := h
    exact AtV.go tabOk ext3Ok mixed false [3, 28, 10, 9, 13, 18, 17, 20, 23, 33, 35, 39, 38, 41, 45, 48, 47] [] [1, 5, 6, 7, 8, 9, 11, 12] [] [] (a1 s0 trivial) (ih8 _ _ _ _ _ h K q) (by kernel_rfl)

  · intro v145 x1 x0 v11 v15 ds h K q
    rw [R3_20] at h
    obtain ⟨s0, s1, h⟩ := h
    obtain ⟨s2, h⟩ := h
    obtain ⟨s3, h⟩ := h
    by_cases b0 : (g8_1 (g5_0 x0) (List.getD (List.getD (g6_0 (g5_0 x0) (g5_1 x0) (g5_2 x0) (g5_3 x0)) (Int.toNat v15) []) 0 0) != 0) = true
    · rw [if_pos b0] at h
      subst h
      exact AtV.ret Tryd.func3 tabOk ext3Ok mixed false [3, 28, 10, 9, 13, 18, 17, 20, 23, 33, 35, 39, 38, 41, 45, 48, 47] tys3 [true, true] (a1 s0 (a1 s1 (a1 ((by decide) : (0 : Int) ≤ (0 : Int)) (a1 s2 (a1 s3 (a1 b0 (a1 (rfl : Bool.true = Bool.true) trivial))))))) (by kernel_rfl)
    · rw [if_neg b0] at h
      replace b0 := Bool.eq_false_iff.2 b0
      by_cases b1 : (Decidable.decide ((↑(List.length (g8_0 (g5_0 x0) (List.getD (List.getD (g6_0 (g5_0 x0) (g5_1 x0) (g5_2 x0) (g5_3 x0)) (Int.toNat v15) []) 0 0))) : Int) ≥ g5_3 x0)) = true
      · rw [if_pos b1] at h
        subst h
        exact AtV.ret Tryd.func3 tabOk ext3Ok mixed false [3, 28, 10, 9, 13, 18, 17, 20, 23, 33, 35, 39, 38, 41, 45, 48, 47] tys3 [false, true] (a1 s0 (a1 s1 (a1 ((by decide) : (0 : Int) ≤ (0 : Int)) (a1 s2 (a1 s3 (a1 b0 (a1 b1 trivial))))))) (by kernel_rfl)
      · rw [if_neg b1] at h
        replace b1 := Bool.eq_false_iff.2 b1
        exact AtV.go tabOk ext3Ok mixed false [3, 28, 10, 9, 13, 18, 17, 20, 23, 33, 35, 39, 38, 41, 45, 48, 47] [] [1, 5, 6, 7, 8, 9, 11, 15, 93, 94, 95, 96, 97, 98, 99, 100, 103, 104, 105, 106, 107, 108, 109, 110, 113, 114, 115, 116, 117, 118, 119, 120, 121, 122, 123, 124, 125, 128, 129, 130, 145, 161, 162, 163, 164] [0] [false, false] (a1 s0 (a1 s1 (a1 ((by decide) : (0 : Int) ≤ (0 : Int)) (a1 s2 (a1 s3 (a1 b0 (a1 b1 trivial))))))) (ih23 _ _ _ _ _ _ h K q) (by kernel_rfl)

  · intro v25 v26 x1 ds h K q
    rw [R3_37] at h
    by_cases b0 : (Decidable.decide (v26 < (↑(List.length (g10_0 (g9_0 x1) (g9_1 x1) (g9_2 x1))) : Int))) = true
    · rw [if_pos b0] at h
      exact AtV.go tabOk ext3Ok mixed false [3, 28, 10, 9, 13, 18, 17, 20, 23, 33, 35, 39, 38, 41, 45, 48, 47] [] [18, 20, 21, 25, 26] [0] [true] (a1 b0 trivial) (ih39 _ _ _ _ h K q) (by kernel_rfl)
    · rw [if_neg b0] at h
      replace b0 := Bool.eq_false_iff.2 b0
      subst h
      exact AtV.ret Tryd.func3 tabOk ext3Ok mixed false [3, 28, 10, 9, 13, 18, 17, 20, 23, 33, 35, 39, 38, 41, 45, 48, 47] tys3 [false] (a1 b0 trivial) (by kernel_rfl)

  · intro x1 x0 v11 v15 v145 ds h K q
    rw [R3_23] at h
    obtain ⟨s0, s1, h⟩ := h
    obtain ⟨s2, h⟩ := h
    obtain ⟨s3, s4, h⟩ := h
    obtain ⟨s5, h⟩ := h
    obtain ⟨s6, h⟩ := h
    obtain ⟨s7, h⟩ := h
    exact AtV.go tabOk ext3Ok mixed false [3, 28, 10, 9, 13, 18, 17, 20, 23, 33, 35, 39, 38, 41, 45, 48, 47] [] [1, 5, 6, 7, 8, 9, 11, 15, 93, 94, 95, 96, 97, 98, 99, 100, 103, 104, 105, 106, 107, 108, 109, 110, 113, 114, 115, 116, 117, 118, 119, 120, 121, 122, 123, 124, 125, 128, 129, 130, 145, 161, 162, 163, 164] [0] [] (a1 s0 (a1 s1 (a1 ((by decide) : (0 : Int) ≤ (1 : Int)) (a1 s2 (a1 s3 (a1 s4 (a1 ((by decide) : (0 : Int) ≤ (0 : Int)) (a1 s5 (a1 s6 (a1 s7 trivial)))))))))) (ih17 _ _ _ _ _ _ h K q) (by kernel_rfl)

  · intro x1 v25 v26 ds h K q
    rw [R3_39] at h
    obtain ⟨s0, s1, h⟩ := h
    by_cases b0 : (Decidable.decide (List.getD (g10_0 (g9_0 x1) (g9_1 x1) (g9_2 x1)) (Int.toNat v26) 0 < 0)) = true
    · rw [if_pos b0] at h
      subst h
      exact AtV.ret Tryd.func3 tabOk ext3Ok mixed false [3, 28, 10, 9, 13, 18, 17, 20, 23, 33, 35, 39, 38, 41, 45, 48, 47] tys3 [true, true, true] (a1 s0 (a1 s1 (a1 b0 (a1 (rfl : Bool.true = Bool.true) (a1 (rfl : Bool.true = Bool.true) trivial))))) (by kernel_rfl)
    · rw [if_neg b0] at h
      replace b0 := Bool.eq_false_iff.2 b0
      obtain ⟨s2, s3, h⟩ := h
      by_cases b1 : (Decidable.decide (List.getD (g10_0 (g9_0 x1) (g9_1 x1) (g9_2 x1)) (Int.toNat v26) 0 ≥ (↑(List.length (g9_0 x1)) : Int))) = true
      · rw [if_pos b1] at h
        subst h
        exact AtV.ret Tryd.func3 tabOk ext3Ok mixed false [3, 28, 10, 9, 13, 18, 17, 20, 23, 33, 35, 39, 38, 41, 45, 48, 47] tys3 [false, true, true] (a1 s0 (a1 s1 (a1 b0 (a1 s2 (a1 s3 (a1 b1 (a1 (rfl : Bool.true = Bool.true) trivial))))))) (by kernel_rfl)
      · rw [if_neg b1] at h
        replace b1 := Bool.eq_false_iff.2 b1
        by_cases b2 : (Decidable.decide (v25 ≥ g9_2 x1)) = true
        · rw [if_pos b2] at h
          subst h
          exact AtV.ret Tryd.func3 tabOk ext3Ok mixed false [3, 28, 10, 9, 13, 18, 17, 20, 23, 33, 35, 39, 38, 41, 45, 48, 47] tys3 [false, false, true] (a1 s0 (a1 s1 (a1 b0 (a1 s2 (a1 s3 (a1 b1 (a1 b2 trivial))))))) (by kernel_rfl)
        · rw [if_neg b2] at h
          replace b2 := Bool.eq_false_iff.2 b2
          exact AtV.go tabOk ext3Ok mixed false [3, 28, 10, 9, 13, 18, 17, 20, 23, 33, 35, 39, 38, 41, 45, 48, 47] [] [18, 20, 21, 25, 26, 231, 232, 233, 234, 235, 236, 237, 240, 241, 242] [0] [false, false, false] (a1 s0 (a1 s1 (a1 b0 (a1 s2 (a1 s3 (a1 b1 (a1 b2 trivial))))))) (ih41 _ _ _ _ h K q) (by kernel_rfl)

  · intro x1 x0 v11 v15 v145 ds h K q
    rw [R3_17] at h
    obtain ⟨s0, h⟩ := h
    exact AtV.go tabOk ext3Ok mixed false [3, 28, 10, 9, 13, 18, 17, 20, 23, 33, 35, 39, 38, 41, 45, 48, 47] [] [1, 5, 6, 7, 8, 9, 11, 15] [] [] (a1 s0 trivial) (ih16 _ _ _ _ _ h K q) (by kernel_rfl)

  · intro x1 v25 v26 ds h K q
    rw [R3_41] at h
    obtain ⟨s0, s1, h⟩ := h
    obtain ⟨s2, s3, h⟩ := h
    obtain ⟨s4, h⟩ := h
    obtain ⟨s5, h⟩ := h
    by_cases b0 : (Decidable.decide (Prod.fst (Prod.snd (List.getD (g9_0 x1) (Int.toNat (List.getD (g10_0 (g9_0 x1) (g9_1 x1) (g9_2 x1)) (Int.toNat v26) 0)) (ByteArray.empty, 0, 0, ()))) > v25)) = true
    · rw [if_pos b0] at h
      subst h
      exact AtV.ret Tryd.func3 tabOk ext3Ok mixed false [3, 28, 10, 9, 13, 18, 17, 20, 23, 33, 35, 39, 38, 41, 45, 48, 47] tys3 [true, true, true, true] (a1 s0 (a1 s1 (a1 s2 (a1 s3 (a1 s4 (a1 s5 (a1 b0 (a1 (rfl : Bool.true = Bool.true) (a1 (rfl : Bool.true = Bool.true) (a1 (rfl : Bool.true = Bool.true) trivial)))))))))) (by kernel_rfl)
    · rw [if_neg b0] at h
      replace b0 := Bool.eq_false_iff.2 b0
      by_cases b1 : (Decidable.decide (Prod.fst (Prod.snd (Prod.snd (List.getD (g9_0 x1) (Int.toNat (List.getD (g10_0 (g9_0 x1) (g9_1 x1) (g9_2 x1)) (Int.toNat v26) 0)) (ByteArray.empty, 0, 0, ())))) ≤ v25)) = true
      · rw [if_pos b1] at h
        subst h
        exact AtV.ret Tryd.func3 tabOk ext3Ok mixed false [3, 28, 10, 9, 13, 18, 17, 20, 23, 33, 35, 39, 38, 41, 45, 48, 47] tys3 [false, true, true, true] (a1 s0 (a1 s1 (a1 s2 (a1 s3 (a1 s4 (a1 s5 (a1 b0 (a1 b1 (a1 (rfl : Bool.true = Bool.true) (a1 (rfl : Bool.true = Bool.true) trivial)))))))))) (by kernel_rfl)
      · rw [if_neg b1] at h
        replace b1 := Bool.eq_false_iff.2 b1
        by_cases b2 : (!g12_1 (g13_0 (List.getD (g9_0 x1) (Int.toNat (List.getD (g10_0 (g9_0 x1) (g9_1 x1) (g9_2 x1)) (Int.toNat v26) 0)) (ByteArray.empty, 0, 0, ())))) = true
        · rw [if_pos b2] at h
          subst h
          exact AtV.ret Tryd.func3 tabOk ext3Ok mixed false [3, 28, 10, 9, 13, 18, 17, 20, 23, 33, 35, 39, 38, 41, 45, 48, 47] tys3 [false, false, true, true] (a1 s0 (a1 s1 (a1 s2 (a1 s3 (a1 s4 (a1 s5 (a1 b0 (a1 b1 (a1 b2 (a1 (rfl : Bool.true = Bool.true) trivial)))))))))) (by kernel_rfl)
        · rw [if_neg b2] at h
          replace b2 := Bool.eq_false_iff.2 b2
          by_cases b3 : (!eqD (Ty.cons Ty.str (Ty.cons (Ty.int IntKind.i64) (Ty.cons (Ty.int IntKind.i64) Ty.unit))) (g12_0 (g13_0 (List.getD (g9_0 x1) (Int.toNat (List.getD (g10_0 (g9_0 x1) (g9_1 x1) (g9_2 x1)) (Int.toNat v26) 0)) (ByteArray.empty, 0, 0, ())))) (List.getD (g9_0 x1) (Int.toNat (List.getD (g10_0 (g9_0 x1) (g9_1 x1) (g9_2 x1)) (Int.toNat v26) 0)) (ByteArray.empty, 0, 0, ()))) = true
          · rw [if_pos b3] at h
            subst h
            exact AtV.ret Tryd.func3 tabOk ext3Ok mixed false [3, 28, 10, 9, 13, 18, 17, 20, 23, 33, 35, 39, 38, 41, 45, 48, 47] tys3 [false, false, false, true] (a1 s0 (a1 s1 (a1 s2 (a1 s3 (a1 s4 (a1 s5 (a1 b0 (a1 b1 (a1 b2 (a1 b3 trivial)))))))))) (by kernel_rfl)
          · rw [if_neg b3] at h
            replace b3 := Bool.eq_false_iff.2 b3
            exact AtV.go tabOk ext3Ok mixed false [3, 28, 10, 9, 13, 18, 17, 20, 23, 33, 35, 39, 38, 41, 45, 48, 47] [] [18, 20, 21, 25, 26, 27, 231, 232, 233, 234, 235, 236, 237, 240, 241, 242, 262, 263, 264, 265, 268, 269, 272, 273, 274] [0, 1] [false, false, false, false] (a1 s0 (a1 s1 (a1 s2 (a1 s3 (a1 s4 (a1 s5 (a1 b0 (a1 b1 (a1 b2 (a1 b3 trivial)))))))))) (ih45 _ _ _ _ h K q) (by kernel_rfl)

  · intro x1 v25 v26 ds h K q
    rw [R3_45] at h
    exact AtV.go tabOk ext3Ok mixed false [3, 28, 10, 9, 13, 18, 17, 20, 23, 33, 35, 39, 38, 41, 45, 48, 47] [] [18, 20, 21, 25, 26, 27, 30, 231, 232, 233, 234, 235, 236, 237, 240, 241, 242, 262, 263, 264, 265, 268, 269, 272, 273, 274] [0, 1] [] trivial (ih46 _ _ _ _ _ h K q) (by kernel_rfl)

  · intro v30 x1 v25 v26 ds h K q
    rw [R3_46] at h
    by_cases b0 : (Decidable.decide (v30 < (↑(List.length (g9_0 x1)) : Int))) = true
    · rw [if_pos b0] at h
      exact AtV.go tabOk ext3Ok mixed false [3, 28, 10, 9, 13, 18, 17, 20, 23, 33, 35, 39, 38, 41, 45, 48, 47] [] [18, 20, 21, 25, 26, 27, 30, 231, 232, 233, 234, 235, 236, 237, 240, 241, 242, 262, 263, 264, 265, 268, 269, 272, 273, 274] [0, 1] [true] (a1 b0 trivial) (ih48 _ _ _ _ _ h K q) (by kernel_rfl)
    · rw [if_neg b0] at h
      replace b0 := Bool.eq_false_iff.2 b0
      exact AtV.go tabOk ext3Ok mixed false [3, 28, 10, 9, 13, 18, 17, 20, 23, 33, 35, 39, 38, 41, 45, 48, 47] [] [18, 20, 21, 25, 26, 231, 232, 233, 234, 235, 236, 237, 240, 241, 242, 262, 263, 264, 265, 268, 269, 272, 273, 274] [0, 1] [false] (a1 b0 trivial) (ih38 _ _ _ _ h K q) (by kernel_rfl)

  · intro x1 v25 v26 v30 ds h K q
    rw [R3_48] at h
    obtain ⟨s0, s1, h⟩ := h
    by_cases b0 : (Decidable.decide (Prod.fst (Prod.snd (List.getD (g9_0 x1) (Int.toNat v30) (ByteArray.empty, 0, 0, ()))) ≤ v25)) = true
    · rw [if_pos b0] at h
      obtain ⟨s2, s3, h⟩ := h
      by_cases b1 : (Decidable.decide (Prod.fst (Prod.snd (Prod.snd (List.getD (g9_0 x1) (Int.toNat v30) (ByteArray.empty, 0, 0, ())))) > Prod.fst (Prod.snd (Prod.snd (List.getD (g9_0 x1) (Int.toNat (List.getD (g10_0 (g9_0 x1) (g9_1 x1) (g9_2 x1)) (Int.toNat v26) 0)) (ByteArray.empty, 0, 0, ())))))) = true
      · rw [if_pos b1] at h
        subst h
        exact AtV.ret Tryd.func3 tabOk ext3Ok mixed false [3, 28, 10, 9, 13, 18, 17, 20, 23, 33, 35, 39, 38, 41, 45, 48, 47] tys3 [true, true] (a1 s0 (a1 s1 (a1 b0 (a1 s2 (a1 s3 (a1 b1 trivial)))))) (by kernel_rfl)
      · rw [if_neg b1] at h
        replace b1 := Bool.eq_false_iff.2 b1
        exact AtV.go tabOk ext3Ok mixed false [3, 28, 10, 9, 13, 18, 17, 20, 23, 33, 35, 39, 38, 41, 45, 48, 47] [] [18, 20, 21, 25, 26, 27, 30, 231, 232, 233, 234, 235, 236, 237, 240, 241, 242, 262, 263, 264, 265, 268, 269, 272, 273, 274] [0, 1] [true, false] (a1 s0 (a1 s1 (a1 b0 (a1 s2 (a1 s3 (a1 b1 trivial)))))) (ih47 _ _ _ _ _ h K q) (by kernel_rfl)
    · rw [if_neg b0] at h
      replace b0 := Bool.eq_false_iff.2 b0
      exact AtV.go tabOk ext3Ok mixed false [3, 28, 10, 9, 13, 18, 17, 20, 23, 33, 35, 39, 38, 41, 45, 48, 47] [] [18, 20, 21, 25, 26, 27, 30, 231, 232, 233, 234, 235, 236, 237, 240, 241, 242, 262, 263, 264, 265, 268, 269, 272, 273, 274] [0, 1] [false, false] (a1 s0 (a1 s1 (a1 b0 (a1 (rfl : Bool.false = Bool.false) trivial)))) (ih47 _ _ _ _ _ h K q) (by kernel_rfl)

  · intro x1 v26 v25 ds h K q
    rw [R3_38] at h
    obtain ⟨s0, h⟩ := h
    exact AtV.go tabOk ext3Ok mixed false [3, 28, 10, 9, 13, 18, 17, 20, 23, 33, 35, 39, 38, 41, 45, 48, 47] [] [18, 20, 21, 25, 26] [0] [] (a1 s0 trivial) (ih37 _ _ _ _ h K q) (by kernel_rfl)

  · intro x1 v25 v26 v30 ds h K q
    rw [R3_47] at h
    obtain ⟨s0, h⟩ := h
    exact AtV.go tabOk ext3Ok mixed false [3, 28, 10, 9, 13, 18, 17, 20, 23, 33, 35, 39, 38, 41, 45, 48, 47] [] [18, 20, 21, 25, 26, 27, 30, 231, 232, 233, 234, 235, 236, 237, 240, 241, 242, 262, 263, 264, 265, 268, 269, 272, 273, 274] [0, 1] [] (a1 s0 trivial) (ih46 _ _ _ _ _ h K q) (by kernel_rfl)



def g3_0 (x0 x1 : List Int) : Bool := true
def P3 (x0 x1 : List Int) : Prop := True
abbrev WK3 := ByteArray × Int × Int × Unit
abbrev T3 : List Dyn := [⟨.bool, true⟩]

theorem start3 {x : List Int} (hw : Wf (.sl (.int .u8)) x) : P15 (g14_0 x) ∧ SrcOk 1000 (u15_0 (g14_0 x)) ∧ (g15_0 (g14_0 x)).length ≤ 30 ∧ ∀ y ∈ g15_0 (g14_0 x), wbnd y := by
  have p : P15 (x, 0, 0, ()) := (src_start hw).up (by decide)
  obtain ⟨h1, h2, _⟩ := q15 _ p
  exact ⟨p, h1, h2.1, h2.2⟩

theorem minute3 {n : Int} {s : (List Int × Int × Int × Unit)} (h : SrcOk n s) (hn : n ≤ 2000000000) : P16 s ∧ SrcOk (n + 4) (u16_0 s) ∧ -1 ≤ g16_0 s ∧ g16_0 s ≤ 1441 := by
  obtain ⟨p1, s1⟩ := one_ok h 9 (by omega)
  unfold P16 u16_0 g16_0
  by_cases c : g27_0 s 9 = true
  · simp only [if_pos c]
    obtain ⟨p2, s2, hm⟩ := among_ok s1 [-1, 0, 1440, 1441] (by decide) (by omega)
    refine ⟨⟨p1, p2, trivial⟩, s2.up (by omega), ?_⟩
    simp only [List.mem_cons, List.mem_nil_iff, or_false] at hm
    omega
  · simp only [if_neg c]
    obtain ⟨p2, s2, a, b, _⟩ := pick_ok s1 144 (by omega)
    have b := b (by decide)
    exact ⟨⟨p1, p2, by rw [i64_iff]; omega, trivial⟩, s2.up (by omega), by omega, by omega⟩

theorem alone3 {x : List Int} (hw : Wf (.sl (.int .u8)) x) : P5 x ∧ (g5_0 x).length ≤ 30 ∧ (-1 ≤ g5_1 x ∧ g5_1 x ≤ 1441) ∧ g5_2 x ≤ g5_1 x + 300 := by
  obtain ⟨p1, s1, l1, _⟩ := start3 hw
  obtain ⟨p2, s2, a2, b2⟩ := minute3 s1 (by decide)
  obtain ⟨p3, s3, m3⟩ := among_ok s2 [0, 1, 60, 300, -1] (by decide) (by decide)
  obtain ⟨p4, s4, m4⟩ := among_ok s3 [1, 2, 3, 12, 13, 0] (by decide) (by decide)
  simp only [List.mem_cons, List.mem_nil_iff, or_false] at m3
  refine ⟨⟨p1, p2, p3, by rw [i64_iff]; omega, p4, trivial⟩, l1, ⟨a2, b2⟩, ?_⟩
  show g16_0 _ + g17_0 _ _ ≤ g16_0 _ + 300
  omega

theorem few3 {x : List Int} (hw : Wf (.sl (.int .u8)) x) : P9 x ∧ (g9_0 x).length ≤ 30 := by
  obtain ⟨p1, s1, l1, hb⟩ := start3 hw
  obtain ⟨p2, s2, a2, b2⟩ := minute3 s1 (by decide)
  unfold P9 g9_0
  by_cases c : (((g15_0 (g14_0 x)).length : Int) > 0)
  · obtain ⟨p3, s3⟩ := one_ok s2 3 (by decide)
    obtain ⟨p4, s4, m4⟩ := among_ok s3 [0, 1, 60, 300, 600, -1] (by decide) (by decide)
    simp only [List.mem_cons, List.mem_nil_iff, or_false] at m4
    have hb0 := hb _ (mem_getD _ 0 (ByteArray.empty, (0 : Int), (0 : Int), ()) (by omega))
    unfold wbnd at hb0
    simp only [decide_eq_true c, if_true]
    by_cases c2 : (!g27_0 (u16_0 (u15_0 (g14_0 x))) 3) = true
    · simp only [if_pos c2]
      exact ⟨⟨p1, p2, p3, by omega, p4, by rw [i64_iff]; omega, trivial⟩, l1⟩
    · simp only [if_neg c2]
      exact ⟨⟨p1, p2, p3, p4, by rw [i64_iff]; omega, trivial⟩, l1⟩
  · obtain ⟨p4, s4, m4⟩ := among_ok s2 [0, 1, 60, 300, 600, -1] (by decide) (by decide)
    simp only [List.mem_cons, List.mem_nil_iff, or_false] at m4
    simp only [decide_eq_false c, Bool.false_eq_true, if_false]
    exact ⟨⟨p1, p2, p4, by rw [i64_iff]; omega, trivial⟩, l1⟩

theorem each3 {l : List WK3} (h : g37_0 l = true) : ∀ x ∈ l, g32_0 x = true := fun x hx => by
  unfold g37_0 at h
  rw [Bool.and_eq_true] at h
  obtain ⟨j, hj⟩ := allI_mem l 0 h.1 x hx
  unfold ok37 at hj
  exact (Bool.and_eq_true _ _ ▸ hj).1

theorem vlen3 {l : List WK3} (h : g37_0 l = true) : l.length ≤ 12 := by
  unfold g37_0 at h
  rw [Bool.and_eq_true] at h
  exact of_decide_eq_true h.2

theorem smin3 {x : Int} (h : 0 ≤ x ∧ x ≤ 1440) : g24_0 x = true ∧ g26_0 x = true := by
  rw [minute_s, minute_i, decide_eq_true h.1, decide_eq_true h.2]
  exact ⟨rfl, rfl⟩


theorem in3 (x1 : List Int) {l : List WK3} {few : List Int} {s e : Int} (e0 : g9_0 x1 = l) (e1 : g9_1 x1 = s) (e2 : g9_2 x1 = e) (e3 : g10_0 l s e = few) (hl : l.length ≤ 30) (now : Int) (i b : Nat) (hb : few.getD i 0 = (b : Int))
    (hmax : ∀ k : Nat, k < l.length → (wkAt l k).2.1 ≤ now → (wkAt l k).2.2.1 ≤ (wkAt l b).2.2.1) (hn : ∃ n, R3_38 n x1 (i : Int) now T3) : ∀ (k j : Nat), j + k = l.length → ∃ n, R3_46 n (j : Int) x1 now (i : Int) T3 := by
  intro k
  induction k with
  | zero =>
    intro j hj
    obtain ⟨n, hn⟩ := hn
    refine ⟨n + 1, ?_⟩
    rw [R3_46, e0, if_neg (by simp only [decide_eq_true_eq]; omega)]
    exact hn
  | succ k ih =>
    intro j hj
    obtain ⟨n, hn2⟩ := ih (j + 1) (by omega)
    have hlt : j < l.length := by omega
    have e4 : (j : Int) + 1 = ((j + 1 : Nat) : Int) := by omega
    have hm := hmax j hlt
    unfold wkAt at hm
    have key : R3_47 (n + 1) x1 now (i : Int) (j : Int) T3 := by
      rw [R3_47, e4]
      exact ⟨by rw [i64_iff]; omega, hn2⟩
    refine ⟨n + 1 + 1 + 1, ?_⟩
    rw [R3_46, e0, if_pos (by simp only [decide_eq_true_eq]; omega), R3_48, e0, e1, e2, e3]
    simp only [Int.toNat_natCast, hb]
    refine ⟨by omega, by omega, ?_⟩
    split
    · rename_i hc
      refine ⟨by omega, by omega, ?_⟩
      rw [if_neg (by simp only [decide_eq_true_eq] at hc ⊢; have := hm hc; omega)]
      exact key
    · exact key

theorem out3 (x1 : List Int) {l : List WK3} {few : List Int} {s e : Int} (e0 : g9_0 x1 = l) (e1 : g9_1 x1 = s) (e2 : g9_2 x1 = e) (e3 : g10_0 l s e = few) (hl : l.length ≤ 30) (hv : ∀ x ∈ l, g32_0 x = true) (hf : few.length ≤ 2000) :
    ∀ (r : List Int) (i : Nat) (now : Int), few.drop i = r → i + r.length = few.length → Chain l e now r → ∃ n, R3_37 n now (i : Int) x1 T3 := by
  intro r
  induction r with
  | nil =>
    intro i now hd hi hc
    have hc : e ≤ now := hc
    simp at hi
    refine ⟨1, ?_⟩
    rw [R3_37, e0, e1, e2, e3, if_neg (by simp only [decide_eq_true_eq]; omega), decide_eq_true (show now ≥ e from hc)]
  | cons b r ih =>
    intro i now hd hi hc
    obtain ⟨c1, c2, c3, c4, c5, c6, c7⟩ := hc
    simp only [List.length_cons] at hi
    have hlt : i < few.length := by omega
    have hbi : few.getD i 0 = b := by
      rw [List.drop_eq_getElem_cons hlt] at hd
      rw [getD_lt few i 0 hlt]
      exact (List.cons.inj hd).1
    have hdr : few.drop (i + 1) = r := by
      rw [List.drop_eq_getElem_cons hlt] at hd
      exact (List.cons.inj hd).2
    obtain ⟨b, rfl⟩ := Int.eq_ofNat_of_zero_le c2
    simp only [Int.toNat_natCast] at c4 c5 c6 c7
    have e4 : (i : Int) + 1 = ((i + 1 : Nat) : Int) := by omega
    obtain ⟨n, hn⟩ := ih (i + 1) _ hdr (by omega) c7
    have h38 : ∃ n, R3_38 n x1 (i : Int) now T3 := by
      refine ⟨n + 1, ?_⟩
      rw [R3_38, e0, e1, e2, e3, e4]
      simp only [Int.toNat_natCast, hbi]
      exact ⟨by rw [i64_iff]; omega, hn⟩
    obtain ⟨n, hn⟩ := in3 x1 e0 e1 e2 e3 hl now i b hbi c6 h38 l.length 0 (by omega)
    obtain ⟨w, hw⟩ : ∃ w, l.getD b (ByteArray.empty, (0 : Int), (0 : Int), ()) = w := ⟨_, rfl⟩
    have hwm : w ∈ l := hw ▸ mem_getD l b _ (by omega)
    obtain ⟨w1, w2, w3, w4⟩ := work_back (hv w hwm)
    have e9 : eqD (Ty.cons Ty.str (Ty.cons (Ty.int IntKind.i64) (Ty.cons (Ty.int IntKind.i64) Ty.unit))) w w = true := (eqD_eq (by decide)).2 rfl
    unfold wkAt at c4 c5
    rw [hw] at c4 c5
    refine ⟨n + 1 + 1 + 1 + 1, ?_⟩
    rw [R3_37, e0, e1, e2, e3, if_pos (by simp only [decide_eq_true_eq]; omega), R3_39, e0, e1, e2, e3]
    simp only [Int.toNat_natCast, hbi]
    refine ⟨by omega, by omega, ?_⟩
    rw [if_neg (by simp only [decide_eq_true_eq]; omega)]
    refine ⟨by omega, by omega, ?_⟩
    rw [if_neg (by simp only [decide_eq_true_eq]; omega), if_neg (by simp only [decide_eq_true_eq]; omega), R3_41, e0, e1, e2, e3]
    simp only [Int.toNat_natCast, hbi]
    refine ⟨by omega, by omega, by omega, by omega, ?_⟩
    rw [hw, w3, w4, e9]
    refine ⟨w1, w2, ?_⟩
    rw [if_neg (by simp only [decide_eq_true_eq]; omega), if_neg (by simp only [decide_eq_true_eq]; omega), if_neg (by decide), if_neg (by decide), R3_45]
    exact hn

theorem fewlen3 (l : List WK3) (e : Int) : ∀ (n : Nat) (m : Int) (r : List Int), fewL l e n m = some r → r.length ≤ n
  | 0, m, r, h => by cases h; exact Nat.le_refl _
  | n + 1, m, r, h => by
    unfold fewL at h
    split at h
    · split at h
      · cases h
      · rw [Option.map_eq_some_iff] at h
        obtain ⟨r', h1, rfl⟩ := h
        have := fewlen3 l e n _ r' h1
        simp; omega
    · cases h
      simp

theorem second3 (x1 : List Int) (hw : Wf (.sl (.int .u8)) x1) : ∃ n, R3_28 n x1 T3 := by
  obtain ⟨p9, hl⟩ := few3 hw
  obtain ⟨l, e0⟩ : ∃ l, g9_0 x1 = l := ⟨_, rfl⟩
  obtain ⟨s, e1⟩ : ∃ l, g9_1 x1 = l := ⟨_, rfl⟩
  obtain ⟨e, e2⟩ : ∃ l, g9_2 x1 = l := ⟨_, rfl⟩
  rw [e0] at hl
  have p10 : P10 l s e := (show l.length ≤ 1000 by omega)
  have p11 : P11 l s e 1 := (show l.length ≤ 1000 by omega)
  by_cases hst : g18_0 l (g19_0 s e) = 0
  · obtain ⟨hv, hsp⟩ := staffed_of hst
    obtain ⟨b1, b2, b3, b4, b5⟩ := span_of hsp
    have en : ((e - s).toNat : Int) = e - s := Int.toNat_of_nonneg (by omega)
    cases hf : fewL l e (e - s).toNat s with
    | none =>
      have g1 : g10_1 l s e = 3 := by
        unfold g10_1
        rw [if_neg (fun h => h hst), hf]
      have g0 : g10_0 l s e = [] := by
        unfold g10_0
        rw [if_neg (fun h => h hst), hf]
        rfl
      refine ⟨1, ?_⟩
      rw [R3_28, e0, e1, e2, g1, g0]
      exact ⟨p9, p10, p11, rfl⟩
    | some few =>
      have g1 : g10_1 l s e = 0 := by
        unfold g10_1
        rw [if_neg (fun h => h hst), hf]
      have g0 : g10_0 l s e = few := by
        unfold g10_0
        rw [if_neg (fun h => h hst), hf]
        rfl
      have hc := few_chain l e _ s few (by omega) hf
      have hfl := fewlen3 l e _ s few hf
      have hask : ask11 l s e 1 = 0 := by
        have hs0 : g28_0 l s e = 0 := by
          unfold g28_0
          rw [← list_Worker, hv, (smin3 ⟨b1, b2⟩).1, (smin3 ⟨b3, b4⟩).1, decide_eq_false (show ¬ e < s by omega)]
          rfl
        unfold ask11
        rw [if_pos hs0]
        rfl
      have k1 : g11_1 l s e 1 = 0 := hask
      have k0 : g11_0 l s e 1 = [] := by
        unfold g11_0
        rw [if_pos hask]
        refine arun_none _ _ _ fun i hi => ?_
        have := chain_cover hc (s + (i : Int)) (by omega) (by omega)
        unfold bad11
        have hne : (atL (s + (i : Int)) 0 l).length ≠ 0 := fun h => this (List.eq_nil_of_length_eq_zero h)
        exact decide_eq_false (by omega)
      obtain ⟨n, hn⟩ := out3 x1 e0 e1 e2 g0 hl (each3 hv) (by omega) few 0 s rfl (by omega) hc
      refine ⟨n + 1 + 1 + 1, ?_⟩
      rw [R3_28, e0, e1, e2, g1, if_neg (by decide), R3_33, e0, e1, e2, k1, k0, if_neg (by decide), if_neg (by decide), R3_35, e1]
      exact ⟨p9, p10, p11, hn⟩
  · have g1 : (g10_1 l s e != 0) = true := by
      unfold g10_1
      rw [if_pos hst]
      simpa using hst
    have g0 : g10_0 l s e = [] := by
      unfold g10_0
      rw [if_pos hst]
    refine ⟨1, ?_⟩
    rw [R3_28, e0, e1, e2, g1, g0]
    exact ⟨p9, p10, p11, rfl⟩


theorem times3 (x0 x1 : List Int) {l : List WK3} {a u c : Int} {ps : List (List Int)} (e0 : g5_0 x0 = l) (e1 : g5_1 x0 = a) (e2 : g5_2 x0 = u) (e3 : g5_3 x0 = c) (e4 : g6_0 l a u c = ps)
    (hv : g37_0 l = true) (ha : 0 ≤ a) (hu : u ≤ 1440) (hok : AOk (bad6 l c) a u ps) (hpl : ps.length ≤ 2000) (hn : ∃ n, R3_28 n x1 T3) :
    ∀ (k i : Nat) (v : Int), i + k = ps.length → v = aSum (ps.drop i) → -1000000 ≤ v - 2000 * (k : Int) ∧ v ≤ 2000 → ∃ n, R3_16 n v (i : Int) x1 x0 T3 := by
  intro k
  induction k with
  | zero =>
    intro i v hi hs _
    rw [List.drop_eq_nil_of_le (by omega)] at hs
    have hs : v = 0 := hs
    obtain ⟨n, hn⟩ := hn
    refine ⟨n + 1, ?_⟩
    rw [R3_16, e0, e1, e2, e3, e4, if_neg (by simp only [decide_eq_true_eq]; omega), hs, if_neg (by decide)]
    exact hn
  | succ k ih =>
    intro i v hi hs hb
    have hlt : i < ps.length := by omega
    obtain ⟨p, q, h1, h2, h3, h4, h5, h6⟩ := hok i hlt
    have hg : ps.getD i [] = [p, q] := by rw [List.getD_eq_getElem?_getD, h1]; rfl
    have hge : ps[i] = [p, q] := by rw [← hg, getD_lt ps i [] hlt]
    rw [List.drop_eq_getElem_cons hlt, hge] at hs
    have hs : v = (q - p) + aSum (ps.drop (i + 1)) := by
      rw [hs]
      simp [aSum]
    have e5 : (i : Int) + 1 = ((i + 1 : Nat) : Int) := by omega
    obtain ⟨n, hn2⟩ := ih (i + 1) (v - (q - p)) (by omega) (by omega) (by omega)
    have d0 : List.getD [p, q] 0 (0 : Int) = p := rfl
    have d1 : List.getD [p, q] 1 (0 : Int) = q := rfl
    have dl : (([p, q].length : Nat) : Int) = 2 := rfl
    have hst : g18_0 l (g26_0 p) = 0 := by
      unfold g18_0
      rw [hv, (smin3 (x := p) ⟨by omega, by omega⟩).2]
      rfl
    have hp8 : P8 l p := by
      unfold P8
      rw [hst, if_neg (by decide)]
      exact ⟨(show l.length ≤ 1000 by have := vlen3 hv; omega), trivial⟩
    have h80 : g8_0 l p = atL p 0 l := by
      unfold g8_0
      rw [hst, if_neg (by decide)]
      rfl
    have h81 : g8_1 l p = 0 := by
      unfold g8_1
      rw [hst, if_neg (by decide)]
    have hbad : ((atL p 0 l).length : Int) < c := of_decide_eq_true h5
    have k17 : ∀ bb, R3_17 (n + 1) x1 x0 v (i : Int) bb T3 := fun bb => by
      rw [R3_17, e0, e1, e2, e3, e4, e5]
      simp only [Int.toNat_natCast, hg, d0, d1]
      exact ⟨by rw [i64_iff]; omega, hn2⟩
    have k23 : ∀ bb, R3_23 (n + 1 + 1) x1 x0 v (i : Int) bb T3 := fun bb => by
      rw [R3_23, e0, e1, e2, e3, e4]
      simp only [Int.toNat_natCast, hg, d0, d1, dl]
      exact ⟨by omega, by omega, by decide, by omega, by omega, by decide, by rw [i64_iff]; omega, by rw [i64_iff]; omega, k17 bb⟩
    have k20 : ∀ bb, R3_20 (n + 1 + 1 + 1) bb x1 x0 v (i : Int) T3 := fun bb => by
      rw [R3_20, e0, e1, e2, e3, e4]
      simp only [Int.toNat_natCast, hg, d0, d1, dl, h80, h81]
      refine ⟨by omega, by omega, by decide, hp8, ?_⟩
      rw [if_neg (by decide), if_neg (by simp only [decide_eq_true_eq]; omega)]
      exact k23 bb
    refine ⟨n + 1 + 1 + 1 + 1 + 1, ?_⟩
    rw [R3_16, e0, e1, e2, e3, e4, if_pos (by simp only [decide_eq_true_eq]; omega), R3_18, e0, e1, e2, e3, e4]
    simp only [Int.toNat_natCast, hg, d0, d1, dl]
    refine ⟨by omega, by omega, ?_⟩
    rw [if_neg (by decide)]
    refine ⟨by omega, by omega, by decide, ?_⟩
    rw [if_neg (by simp only [decide_eq_true_eq]; omega)]
    refine ⟨by omega, by omega, by decide, ?_⟩
    rw [if_neg (by simp only [decide_eq_true_eq]; omega)]
    refine ⟨by omega, by omega, by decide, by omega, by omega, by decide, ?_⟩
    rw [if_neg (by simp only [decide_eq_true_eq]; omega)]
    by_cases hi0 : (i : Int) > 0
    · rw [if_pos (by simpa using hi0)]
      have hi' : ((i : Int) - 1).toNat = i - 1 := by omega
      obtain ⟨p', q', h1', h2', h3', h4', _, _⟩ := hok (i - 1) (by omega)
      have hg' : ps.getD (i - 1) [] = [p', q'] := by rw [List.getD_eq_getElem?_getD, h1']; rfl
      have h6' := h6 (by omega)
      rw [hg'] at h6'
      have h6' : q' < p := h6'
      have d1' : List.getD [p', q'] 1 (0 : Int) = q' := rfl
      have dl' : (([p', q'].length : Nat) : Int) = 2 := rfl
      rw [hi', hg', d1', dl']
      refine ⟨by rw [i64_iff]; omega, by omega, by omega, by decide, by omega, by omega, by decide, ?_⟩
      rw [if_neg (by simp only [decide_eq_true_eq]; omega)]
      exact k20 _
    · rw [if_neg (by simpa using hi0)]
      exact k20 _

theorem count3 (x0 x1 : List Int) {l : List WK3} {a u c : Int} (e0 : g5_0 x0 = l) (e1 : g5_1 x0 = a) (e2 : g5_2 x0 = u) (e3 : g5_3 x0 = c)
    (hv : g37_0 l = true) (ha : 0 ≤ a) (hau : a ≤ u) (hu : u ≤ 1440) (hd : u ≤ a + 300) (hn : ∃ n, R3_16 n (aCnt (bad6 l c) a (u - a).toNat) 0 x1 x0 T3) :
    ∀ (k i : Nat), i + k = (u - a).toNat → (0 ≤ aCnt (bad6 l c) a i ∧ aCnt (bad6 l c) a i ≤ (i : Int)) → ∃ n, R3_8 n (aCnt (bad6 l c) a i) (a + (i : Int)) x1 x0 T3 := by
  have en : ((u - a).toNat : Int) = u - a := Int.toNat_of_nonneg (by omega)
  intro k
  induction k with
  | zero =>
    intro i hi _
    obtain rfl : i = (u - a).toNat := by omega
    obtain ⟨n, hn⟩ := hn
    refine ⟨n + 1, ?_⟩
    rw [R3_8, e1, e2, if_neg (by simp only [decide_eq_true_eq]; omega)]
    exact hn
  | succ k ih =>
    intro i hi hc
    have hlt : a + (i : Int) < u := by omega
    have e5 : a + (i : Int) + 1 = a + ((i + 1 : Nat) : Int) := by omega
    have hval : g23_0 l = true := by rw [← list_Worker]; exact hv
    have hm := (smin3 (x := a + (i : Int)) ⟨by omega, by omega⟩).1
    have h70 : g7_0 l (a + (i : Int)) = atL (a + (i : Int)) 0 l := by
      unfold g7_0
      rw [hval, hm]
      rfl
    have h71 : g7_1 l (a + (i : Int)) = 0 := by
      unfold g7_1
      rw [hval, hm]
      rfl
    have hp7 : P7 l (a + (i : Int)) := by
      unfold P7
      rw [hval, hm]
      exact ⟨(show l.length ≤ 1000 by have := vlen3 hv; omega), trivial⟩
    have ecnt : aCnt (bad6 l c) a (i + 1) = aCnt (bad6 l c) a i + if ((atL (a + (i : Int)) 0 l).length : Int) < c then 1 else 0 := by
      show aCnt (bad6 l c) a i + (if decide (((atL (a + (i : Int)) 0 l).length : Int) < c) = true then 1 else 0) = _
      simp only [decide_eq_true_eq]
    obtain ⟨n, hn2⟩ := ih (i + 1) (by omega) (by rw [ecnt]; split <;> omega)
    have k9 : R3_9 (n + 1) (aCnt (bad6 l c) a (i + 1)) x1 x0 (a + (i : Int)) T3 := by
      rw [R3_9, e5]
      exact ⟨by rw [i64_iff]; omega, hn2⟩
    refine ⟨n + 1 + 1 + 1 + 1, ?_⟩
    rw [R3_8, e1, e2, if_pos (by simp only [decide_eq_true_eq]; omega)]
    refine ⟨by rw [i64_iff]; omega, ?_⟩
    rw [if_pos (by simp only [decide_eq_true_eq]; omega), R3_10, e0, h71]
    refine ⟨hp7, ?_⟩
    rw [if_neg (by decide), R3_13, e0, e3, h70]
    rw [ecnt] at k9
    by_cases hb : ((atL (a + (i : Int)) 0 l).length : Int) < c
    · rw [if_pos (by simpa using hb)]
      rw [if_pos hb] at k9
      exact ⟨by rw [i64_iff]; omega, k9⟩
    · rw [if_neg (by simpa using hb)]
      rw [if_neg hb, Int.add_zero] at k9
      exact k9

theorem first3 (x0 x1 : List Int) (hw : Wf (.sl (.int .u8)) x0) (hn : ∃ n, R3_28 n x1 T3) : ∃ n, R3_3 n x0 x1 T3 := by
  obtain ⟨p5, hl, hb, hd⟩ := alone3 hw
  obtain ⟨l, e0⟩ : ∃ l, g5_0 x0 = l := ⟨_, rfl⟩
  obtain ⟨a, e1⟩ : ∃ l, g5_1 x0 = l := ⟨_, rfl⟩
  obtain ⟨u, e2⟩ : ∃ l, g5_2 x0 = l := ⟨_, rfl⟩
  obtain ⟨c, e3⟩ : ∃ l, g5_3 x0 = l := ⟨_, rfl⟩
  rw [e0] at hl
  rw [e1] at hb hd
  rw [e2] at hd
  have p6 : P6 l a u c := (show l.length ≤ 1000 by omega)
  by_cases hask : ask6 l a u c = 0
  · have g1 : g6_1 l a u c = 0 := hask
    have g0 : g6_0 l a u c = aRun (bad6 l c) a (u - a).toNat := by
      unfold g6_0
      rw [if_pos hask]
    unfold ask6 at hask
    obtain ⟨hv, hs⟩ := staffed_of hask
    have hsp : g19_0 a u = true := by
      by_cases h : g19_0 a u = true
      · exact h
      · rw [if_neg h] at hs
        cases hs
    obtain ⟨b1, b2, b3, b4, b5⟩ := span_of hsp
    have en : ((u - a).toNat : Int) = u - a := Int.toNat_of_nonneg (by omega)
    obtain ⟨k1, k2, k3⟩ := arun_ok (bad6 l c) a (u - a).toNat
    have k1 : AOk (bad6 l c) a u (aRun (bad6 l c) a (u - a).toNat) := aok_mono k1 (by omega)
    have hcb : ∀ m : Nat, 0 ≤ aCnt (bad6 l c) a m ∧ aCnt (bad6 l c) a m ≤ (m : Int) := fun m => by
      induction m with
      | zero => exact ⟨Int.le_refl _, Int.le_refl _⟩
      | succ m ih =>
        unfold aCnt
        split <;> omega
    have hc := hcb (u - a).toNat
    have t16 := times3 x0 x1 e0 e1 e2 e3 g0 hv b1 b4 k1 (by omega) hn (aRun (bad6 l c) a (u - a).toNat).length 0 (aCnt (bad6 l c) a (u - a).toNat) (by omega) k2.symm (by omega)
    obtain ⟨n, h8⟩ := count3 x0 x1 e0 e1 e2 e3 hv b1 b5 b4 hd t16 (u - a).toNat 0 (by omega) (hcb 0)
    have h8 : R3_8 n 0 (a + 0) x1 x0 T3 := h8
    rw [Int.add_zero] at h8
    refine ⟨n + 1, ?_⟩
    rw [R3_3, e0, e1, e2, e3, g1, if_pos (by decide)]
    exact ⟨p5, p6, h8⟩
  · have g1 : (g6_1 l a u c == 0) = false := by
      show (ask6 l a u c == 0) = false
      simpa using hask
    have g0 : g6_0 l a u c = [] := by
      unfold g6_0
      rw [if_neg hask]
    obtain ⟨n, hn⟩ := hn
    refine ⟨n + 1, ?_⟩
    rw [R3_3, e0, e1, e2, e3, g1, g0, if_neg (by decide), if_neg (by decide)]
    exact ⟨p5, p6, hn⟩

theorem top3 (x0 x1 : List Int) (w0 : Wf (.sl (.int .u8)) x0) (w1 : Wf (.sl (.int .u8)) x1) : ∃ n, R3 n x0 x1 [⟨.bool, g3_0 x0 x1⟩] := by
  obtain ⟨n, hn⟩ := first3 x0 x1 w0 (second3 x1 w1)
  refine ⟨n + 1, ?_⟩
  rw [R3]
  split
  · rfl
  split
  · rfl
  exact hn

def S3 : Am.Spec := { sig := sig3, pre := fun ⟨x0, x1, _⟩ => P3 x0 x1, res := fun ⟨x0, x1, _⟩ => [⟨Ty.bool, g3_0 x0 x1⟩] }
theorem con3 : Contract Tryd.prog 3 S3 := contract_of Tryd.func3 hb3 (Nat.le_of_ble_eq_true (by kernel_rfl)) (fun ⟨x0, x1, _⟩ h hwf K q =>
  let ⟨n, hn⟩ := top3 x0 x1 hwf.1 hwf.2.1
  (snd3 n).1 x0 x1 _ hn K q)

end
end Go.Proofs.YtobhoepkgkmddaaDoor

/- The plain law of FnWorkers. -/
set_option linter.unusedVariables false
set_option linter.unusedSimpArgs false
set_option maxRecDepth 100000
namespace Go.Proofs.YtobhoepkgkmddaaDoor
open Go Go.Am Go.Proofs

theorem law3 (x0 x1 : List Int) (h0 : Wf (.sl (.int .u8)) x0) (h1 : Wf (.sl (.int .u8)) x1) : P3 x0 x1 ∧ g3_0 x0 x1 = true := ⟨trivial, rfl⟩

end Go.Proofs.YtobhoepkgkmddaaDoor
