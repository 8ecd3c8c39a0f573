/- Several texts in one: the functions that this law reaches, and their laws. -/
import Derived.Test.YtalgkffjceljiaaGreatDoorZ3A
import Derived.Test.YtalgkffjceljiaaGreatDoorZ3B
import Derived.Test.YtalgkffjceljiaaGreatDoorZ3C
import Derived.Lib.ItoaNum
import Derived.Shelf.Strings.Builder1
import Derived.Shelf.Strings.Builder2
import Derived.Shelf.Strings.BuilderF
import Derived.Shelf.Strings.BuilderK
import Derived.Shelf.Utf8.RuneCount
import Derived.Shelf.Strconv.Itoa0
import Derived.Shelf.Strconv.Itoa1
import Derived.Shelf.LaysM
import Derived.Shelf.Strconv.Itoa2
import Derived.Shelf.Strconv.Itoa3
import Derived.Shelf.Strconv.Itoa4
import Derived.Shelf.Strings.Search1
import Derived.Shelf.Strings.Search2
import Derived.Shelf.Strings.Search3
import Derived.Shelf.Strings.Cut
import Derived.Shelf.Strings.Count
import Derived.Shelf.Strings.Shaped
import Derived.Shelf.Strings.Prefix
import Derived.Shelf.Strings.Split
import Derived.Shelf.Strings.SplitShaped
import Derived.Shelf.Unicode.Decode
import Derived.Shelf.Strings.RuneCount
import Derived.Shelf.Strings.Explode
import Derived.Shelf.Bits.Mul64
import Derived.Shelf.Strings.Repeat
import Derived.Shelf.Unicode.DecodeSlow
import Derived.Shelf.Unicode.DecodeAny

/- Function 43 (spec.l21DrawOne): its runs between cut points. Written by a program of this repo (gen). -/
set_option linter.unusedVariables false
set_option linter.unusedSimpArgs false
set_option maxRecDepth 100000
namespace Go.Proofs.YtalgkffjceljiaaGreatDoor
open Go Go.Am Go.Proofs
noncomputable section
def ext43 : Ext := [(64, S64), (22, S22)]
theorem call43_64 : Callable Tryz.prog 64 := ⟨Tryz.f64, Tryz.func64, by kernel_rfl, by kernel_rfl⟩
theorem call43_22 : Callable Tryz.prog 22 := ⟨Tryz.f22, Tryz.func22, by kernel_rfl, by kernel_rfl⟩
theorem ext43Ok : ExtOk Tryz.prog ext43 := ⟨⟨call43_64, con64⟩, ⟨call43_22, con22⟩, trivial⟩

noncomputable def b43 : Code := bodyOf Tryz.f43
theorem hb43 : Tryz.f43.body = some b43 := by kernel_rfl
def sig43 : List AT := [AT.pb (Ty.cons (Ty.sl (Ty.int IntKind.u8)) (Ty.cons (Ty.int IntKind.i64) (Ty.cons (Ty.int IntKind.u64) Ty.unit))), AT.v (Ty.str)]
def tys43 : List Ty := [Ty.cons Ty.str (Ty.cons (Ty.int IntKind.i64) (Ty.cons (Ty.int IntKind.i64) (Ty.cons (Ty.int IntKind.i64) (Ty.cons (Ty.int IntKind.i64) Ty.unit))))]
def kds43 : List RK := []
def oks43 : List AT := owns sig43
def P43 (x0 : List Int × Int × Int × Unit) (x1 : ByteArray) : Prop := ((P64 x0 [1, 7, 30, 365]) ∧ ((P22 (u64_0 x0 [1, 7, 30, 365]) 60) ∧ ((P22 (u22_0 (u64_0 x0 [1, 7, 30, 365]) 60) 60) ∧ ((InR IntKind.i64 (1 + g22_0 (u22_0 (u64_0 x0 [1, 7, 30, 365]) 60) 60)) ∧ ((InR IntKind.i64 (50 * (1 + g22_0 (u22_0 (u64_0 x0 [1, 7, 30, 365]) 60) 60))) ∧ ((P22 (u22_0 (u22_0 (u64_0 x0 [1, 7, 30, 365]) 60) 60) 3000) ∧ True))))))
def g43_0 (x0 : List Int × Int × Int × Unit) (x1 : ByteArray) : ByteArray × Int × Int × Int × Int × Unit := (x1, g64_0 x0 [1, 7, 30, 365], 50 * (1 + g22_0 (u22_0 (u64_0 x0 [1, 7, 30, 365]) 60) 60), g22_0 (u64_0 x0 [1, 7, 30, 365]) 60, g22_0 (u22_0 (u22_0 (u64_0 x0 [1, 7, 30, 365]) 60) 60) 3000, ())
def u43_0 (x0 : List Int × Int × Int × Unit) (x1 : ByteArray) : List Int × Int × Int × Unit := u22_0 (u22_0 (u22_0 (u64_0 x0 [1, 7, 30, 365]) 60) 60) 3000
theorem at43 (x0 : List Int × Int × Int × Unit) (x1 : ByteArray) (h : P43 x0 x1) (K : Ctx) (q : Nat → Value) : AtV Tryz.prog 43 (PostR kds43 oks43 [⟨Ty.cons Ty.str (Ty.cons (Ty.int IntKind.i64) (Ty.cons (Ty.int IntKind.i64) (Ty.cons (Ty.int IntKind.i64) (Ty.cons (Ty.int IntKind.i64) Ty.unit)))), g43_0 x0 x1⟩] [some ⟨Ty.cons (Ty.sl (Ty.int IntKind.u8)) (Ty.cons (Ty.int IntKind.i64) (Ty.cons (Ty.int IntKind.u64) Ty.unit)), [u43_0 x0 x1]⟩] [0] q K) 22 K q [0] [.code b43] (entE 0 0 sig43 (x0, x1, ())) (entL sig43 (x0, x1, ())) := by
  unfold P43 at h
  unfold g43_0 u43_0
  obtain ⟨s0, h⟩ := h
  obtain ⟨s1, h⟩ := h
  obtain ⟨s2, h⟩ := h
  obtain ⟨s3, h⟩ := h
  obtain ⟨s4, h⟩ := h
  obtain ⟨s5, h⟩ := h
  exact AtV.weak (AtV.ret (us := [Option.some (Lst.mk (Ty.cons (Ty.sl (Ty.int IntKind.u8)) (Ty.cons (Ty.int IntKind.i64) (Ty.cons (Ty.int IntKind.u64) Ty.unit))) [u22_0 (u22_0 (u22_0 (u64_0 x0 [1, 7, 30, 365]) 60) 60) 3000])]) Tryz.func43 tabOk ext43Ok mixed false [] tys43 [] (a1 s0 (a1 s1 (a1 s2 (a1 s3 (a1 s4 (a1 s5 trivial)))))) (by kernel_rfl)) ⟨.inl rfl, trivial⟩

def S43 : Am.Spec := { sig := sig43, pre := fun ⟨x0, x1, _⟩ => P43 x0 x1, upd := fun ⟨x0, x1, _⟩ => [some ⟨Ty.cons (Ty.sl (Ty.int IntKind.u8)) (Ty.cons (Ty.int IntKind.i64) (Ty.cons (Ty.int IntKind.u64) Ty.unit)), [u43_0 x0 x1]⟩], res := fun ⟨x0, x1, _⟩ => [⟨Ty.cons Ty.str (Ty.cons (Ty.int IntKind.i64) (Ty.cons (Ty.int IntKind.i64) (Ty.cons (Ty.int IntKind.i64) (Ty.cons (Ty.int IntKind.i64) Ty.unit)))), g43_0 x0 x1⟩], kds := kds43 }
theorem con43 : Contract Tryz.prog 43 S43 := contract_of Tryz.func43 hb43 (Nat.le_of_ble_eq_true (by kernel_rfl)) (fun ⟨x0, x1, _⟩ h _ K q => at43 x0 x1 h K q)


end
end Go.Proofs.YtalgkffjceljiaaGreatDoor

/- Function 27 (spec.l01Dec): its runs between cut points. Written by a program of this repo (gen). -/
set_option linter.unusedVariables false
set_option linter.unusedSimpArgs false
set_option maxRecDepth 100000
namespace Go.Proofs.YtalgkffjceljiaaGreatDoor
open Go Go.Am Go.Proofs
noncomputable section
def ext27 : Ext := []
theorem ext27Ok : ExtOk Tryz.prog ext27 := trivial

noncomputable def b27 : Code := bodyOf Tryz.f27
theorem hb27 : Tryz.f27.body = some b27 := by kernel_rfl
def sig27 : List AT := [AT.v (Ty.int IntKind.i64)]
def tys27 : List Ty := [Ty.str]
def kds27 : List RK := []
def oks27 : List AT := owns sig27
def E27_5 (v4 : Int) (h0 : List Int) (x0 : Int) : Env := [(0, PV.a (Atom.val (Value.int IntKind.i64 x0))), (3, PV.a (Atom.osl 0 Option.none)), (4, PV.a (Atom.val (Value.int IntKind.i64 v4)))]
def L27_5 (v4 : Int) (h0 : List Int) (x0 : Int) : Heap := [Option.some (Arr.mk (Ty.int IntKind.u8) h0 Bool.false Option.none Option.none)]
def E27_15 (v7 : Int) (h0 : List Int) (h1 : List Int) : Env := [(3, PV.a (Atom.osl 0 Option.none)), (6, PV.a (Atom.osl 1 Option.none)), (7, PV.a (Atom.val (Value.int IntKind.i64 v7)))]
def L27_15 (v7 : Int) (h0 : List Int) (h1 : List Int) : Heap := [Option.some (Arr.mk (Ty.int IntKind.u8) h0 Bool.false Option.none Option.none), Option.some (Arr.mk (Ty.int IntKind.u8) h1 Bool.false Option.none Option.none)]
mutual
def R27 : Nat → Int → List Dyn → Prop
  | 0, _, _ => False
  | n + 1, x0, ds => (if (x0 == 0) = true then (ds = [Dyn.mk Ty.str (ByteArray.mk #[48])]) else (R27_5 n (x0) ([]) (x0) ds))
def R27_5 : Nat → Int → List Int → Int → List Dyn → Prop
  | 0, _, _, _, _ => False
  | n + 1, v4, h0, x0, ds => (if (v4 != 0) = true then ((InR IntKind.i64 (Int.tmod v4 10)) ∧ (if (Decidable.decide (Int.tmod v4 10 < 0)) = true then ((InR IntKind.i64 (0 - Int.tmod v4 10)) ∧ ((InR IntKind.i64 (48 + (0 - Int.tmod v4 10))) ∧ ((InR IntKind.u8 (48 + (0 - Int.tmod v4 10))) ∧ (((List.length h0 + 1) * 1 ≤ 140737488355328) ∧ ((InR IntKind.i64 (Int.tdiv v4 10)) ∧ (R27_5 n (Int.tdiv v4 10) (h0 ++ [48 + (0 - Int.tmod v4 10)]) (x0) ds)))))) else ((InR IntKind.i64 (48 + Int.tmod v4 10)) ∧ ((InR IntKind.u8 (48 + Int.tmod v4 10)) ∧ (((List.length h0 + 1) * 1 ≤ 140737488355328) ∧ ((InR IntKind.i64 (Int.tdiv v4 10)) ∧ (R27_5 n (Int.tdiv v4 10) (h0 ++ [48 + Int.tmod v4 10]) (x0) ds))))))) else (if (Decidable.decide (x0 < 0)) = true then (((List.length h0 + 1) * 1 ≤ 140737488355328) ∧ ((InR IntKind.i64 ((↑(List.length (h0 ++ [45])) : Int) - 1)) ∧ (R27_15 n ((↑(List.length (h0 ++ [45])) : Int) - 1) (h0 ++ [45]) ([]) ds))) else ((InR IntKind.i64 ((↑(List.length h0) : Int) - 1)) ∧ (R27_15 n ((↑(List.length h0) : Int) - 1) (h0) ([]) ds))))
def R27_15 : Nat → Int → List Int → List Int → List Dyn → Prop
  | 0, _, _, _, _ => False
  | n + 1, v7, h0, h1, ds => (if (Decidable.decide (v7 ≥ 0)) = true then ((0 ≤ v7) ∧ (v7 < (↑(List.length h0) : Int)) ∧ (((List.length h1 + 1) * 1 ≤ 140737488355328) ∧ ((InR IntKind.i64 (v7 - 1)) ∧ (R27_15 n (v7 - 1) (h0) (h1 ++ [List.getD h0 (Int.toNat v7) 0]) ds)))) else (ds = [Dyn.mk Ty.str (bytesStr h1)]))
end
theorem snd27 : ∀ n, (∀ (x0 : Int) ds, R27 n x0 ds → ∀ K q, AtV Tryz.prog 27 (PostR kds27 oks27 ds [] [] q K) 50 K q [] [.code b27] (entE 0 0 sig27 (x0, ())) (entL sig27 (x0, ()))) ∧ (∀ (v4 : Int) (h0 : List Int) (x0 : Int) ds, R27_5 n v4 h0 x0 ds → ∀ K q, AtV Tryz.prog 27 (PostR kds27 oks27 ds [] [] q K) 50 K q [] (cutAt b27 5) (E27_5 v4 h0 x0) (L27_5 v4 h0 x0)) ∧ (∀ (v7 : Int) (h0 : List Int) (h1 : List Int) ds, R27_15 n v7 h0 h1 ds → ∀ K q, AtV Tryz.prog 27 (PostR kds27 oks27 ds [] [] q K) 50 K q [] (cutAt b27 15) (E27_15 v7 h0 h1) (L27_15 v7 h0 h1)) := by
  intro n
  induction n with
  | zero => exact ⟨fun _ _ h => by simp only [R27] at h, fun _ _ _ _ h => by simp only [R27_5] at h, fun _ _ _ _ h => by simp only [R27_15] at h⟩
  | succ n ih =>
  obtain ⟨ih, ih5, ih15⟩ := ih
  refine ⟨?_, ?_, ?_⟩
  · intro x0 ds h K q
    rw [R27] at h
    by_cases b0 : (x0 == 0) = true
    · rw [if_pos b0] at h
      subst h
      exact AtV.ret Tryz.func27 tabOk ext27Ok mixed false [] tys27 [true] (a1 b0 trivial) (by kernel_rfl)
    · rw [if_neg b0] at h
      replace b0 := Bool.eq_false_iff.2 b0
      exact AtV.go tabOk ext27Ok mixed false [] [] [0, 3, 4] [0] [false] (a1 b0 trivial) (ih5 _ _ _ _ h K q) (by kernel_rfl)

  · intro v4 h0 x0 ds h K q
    rw [R27_5] at h
    by_cases b0 : (v4 != 0) = true
    · rw [if_pos b0] at h
      obtain ⟨s0, h⟩ := h
      by_cases b1 : (Decidable.decide (Int.tmod v4 10 < 0)) = true
      · rw [if_pos b1] at h
        obtain ⟨s1, h⟩ := h
        obtain ⟨s2, h⟩ := h
        obtain ⟨s3, h⟩ := h
        obtain ⟨s4, h⟩ := h
        obtain ⟨s5, h⟩ := h
        exact AtV.go tabOk ext27Ok mixed false [] [] [0, 3, 4] [0] [true, true] (a1 b0 (a1 ((by decide) : (10 : Int) ≠ (0 : Int)) (a1 s0 (a1 b1 (a1 s1 (a1 s2 (a1 s3 (a1 s4 (a1 ((by decide) : (10 : Int) ≠ (0 : Int)) (a1 s5 trivial)))))))))) (ih5 _ _ _ _ h K q) (by kernel_rfl)
      · rw [if_neg b1] at h
        replace b1 := Bool.eq_false_iff.2 b1
        obtain ⟨s1, h⟩ := h
        obtain ⟨s2, h⟩ := h
        obtain ⟨s3, h⟩ := h
        obtain ⟨s4, h⟩ := h
        exact AtV.go tabOk ext27Ok mixed false [] [] [0, 3, 4] [0] [true, false] (a1 b0 (a1 ((by decide) : (10 : Int) ≠ (0 : Int)) (a1 s0 (a1 b1 (a1 s1 (a1 s2 (a1 s3 (a1 ((by decide) : (10 : Int) ≠ (0 : Int)) (a1 s4 trivial))))))))) (ih5 _ _ _ _ h K q) (by kernel_rfl)
    · rw [if_neg b0] at h
      replace b0 := Bool.eq_false_iff.2 b0
      by_cases b1 : (Decidable.decide (x0 < 0)) = true
      · rw [if_pos b1] at h
        obtain ⟨s0, h⟩ := h
        obtain ⟨s1, h⟩ := h
        exact AtV.go tabOk ext27Ok mixed false [] [] [3, 6, 7] [0, 2] [false, true] (a1 b0 (a1 b1 (a1 s0 (a1 s1 trivial)))) (ih15 _ _ _ _ h K q) (by kernel_rfl)
      · rw [if_neg b1] at h
        replace b1 := Bool.eq_false_iff.2 b1
        obtain ⟨s0, h⟩ := h
        exact AtV.go tabOk ext27Ok mixed false [] [] [3, 6, 7] [0, 1] [false, false] (a1 b0 (a1 b1 (a1 s0 trivial))) (ih15 _ _ _ _ h K q) (by kernel_rfl)

  · intro v7 h0 h1 ds h K q
    rw [R27_15] at h
    by_cases b0 : (Decidable.decide (v7 ≥ 0)) = true
    · rw [if_pos b0] at h
      obtain ⟨s0, s1, h⟩ := h
      obtain ⟨s2, h⟩ := h
      obtain ⟨s3, h⟩ := h
      exact AtV.go tabOk ext27Ok mixed false [] [] [3, 6, 7] [0, 1] [true] (a1 b0 (a1 s0 (a1 s1 (a1 s2 (a1 s3 trivial))))) (ih15 _ _ _ _ h K q) (by kernel_rfl)
    · rw [if_neg b0] at h
      replace b0 := Bool.eq_false_iff.2 b0
      subst h
      exact AtV.ret Tryz.func27 tabOk ext27Ok mixed false [] tys27 [false] (a1 b0 trivial) (by kernel_rfl)



def g27_0 (x0 : Int) : ByteArray := numB x0
def P27 (x0 : Int) : Prop := True

theorem bstr27 (xs : List Int) : bytesStr xs = ⟨⟨xs.map fun n => UInt8.ofNat n.toNat⟩⟩ := by
  have key : ∀ (xs : List Int) (s : ByteArray), (xs.foldl (fun r n => r.push (UInt8.ofNat n.toNat)) s).data.toList = s.data.toList ++ xs.map fun n => UInt8.ofNat n.toNat := by
    intro xs
    induction xs with
    | nil => intro s; simp
    | cons a r ih =>
      intro s
      rw [List.foldl_cons, ih]
      show (s.data.push _).toList ++ _ = _
      rw [Array.toList_push]
      simp
  apply ByteArray.ext
  apply Array.ext'
  have := key xs ByteArray.empty
  unfold bytesStr
  rw [this]
  rfl
theorem bstrB27 (l : List UInt8) : bytesStr (l.map fun b => (b.toNat : Int)) = ⟨⟨l⟩⟩ := by
  rw [bstr27, List.map_map]
  congr 2
  conv => rhs; rw [← List.map_id l]
  refine List.map_congr_left fun b _ => ?_
  show UInt8.ofNat ((b.toNat : Int)).toNat = b
  rw [Int.toNat_natCast, UInt8.ofNat_toNat]

def rd27 (m : Nat) : List Int := if h : m = 0 then [] else ((48 + m % 10 : Nat) : Int) :: rd27 (m / 10)
termination_by m
decreasing_by omega
theorem rd027 : rd27 0 = [] := by rw [rd27, dif_pos rfl]
theorem rds27 {m : Nat} (h : m ≠ 0) : rd27 m = ((48 + m % 10 : Nat) : Int) :: rd27 (m / 10) := by rw [rd27, dif_neg h]
theorem rdl27 : ∀ (k m : Nat), m < 10 ^ k → (rd27 m).length ≤ k
  | 0, m, h => by obtain rfl : m = 0 := by simpa using h
                  rw [rd027]; exact Nat.le_refl _
  | k + 1, m, h => by
    by_cases h0 : m = 0
    · rw [h0, rd027]; exact Nat.zero_le _
    · rw [rds27 h0, List.length_cons]
      have := rdl27 k (m / 10) (by rw [Nat.pow_succ] at h; omega)
      omega
theorem rdd27 (m : Nat) (h : m ≠ 0) : bytesStr (rd27 m).reverse = ⟨⟨Lib.decDigits m⟩⟩ := by
  have key : ∀ m : Nat, m ≠ 0 → (rd27 m).reverse = (Lib.decDigits m).map fun b => (b.toNat : Int) := by
    intro m
    induction m using Nat.strongRecOn with
    | _ m ih =>
      intro h
      rw [rds27 h, List.reverse_cons, Lib.decDigits]
      have e : (UInt8.ofNat (48 + m % 10)).toNat = 48 + m % 10 := by rw [UInt8.toNat_ofNat']; omega
      split
      · rename_i hs
        rw [show m / 10 = 0 by omega, rd027]
        have e' : (UInt8.ofNat (48 + m)).toNat = 48 + m % 10 := by rw [UInt8.toNat_ofNat']; omega
        rw [List.map_singleton, e']
        rfl
      · rw [ih (m / 10) (by omega) (by omega), List.map_append, List.map_singleton, e]
  rw [key m h]
  exact bstrB27 _

theorem back27 (h0 : List Int) : ∀ (j : Nat) (h1 : List Int), j ≤ h0.length → h1.length + j ≤ 64 → R27_15 (j + 1) ((j : Int) - 1) h0 h1 [⟨.str, bytesStr (h1 ++ (h0.take j).reverse)⟩]
  | 0, h1, _, _ => by
    rw [R27_15, if_neg (by decide)]
    simp
  | j + 1, h1, hj, hl => by
    have ih := back27 h0 j (h1 ++ [h0.getD j 0]) (by omega) (by rw [List.length_append, List.length_singleton]; omega)
    have e : ((j + 1 : Nat) : Int) - 1 = (j : Int) := by omega
    rw [R27_15, e, if_pos (by simp only [decide_eq_true_eq]; omega), Int.toNat_natCast]
    refine ⟨by omega, by omega, by omega, by rw [i64_iff]; omega, ?_⟩
    have et : (h0.take (j + 1)).reverse = h0.getD j 0 :: (h0.take j).reverse := by
      have hlt : j < h0.length := by omega
      rw [List.take_add_one, List.getElem?_eq_getElem hlt, List.reverse_append, List.getD_eq_getElem?_getD, List.getElem?_eq_getElem hlt]
      rfl
    rw [et]
    rw [List.append_assoc] at ih
    exact ih

theorem last27 (x0 : Int) (h0 : List Int) (hl : h0.length ≤ 20) : R27_5 ((if x0 < 0 then h0.length + 1 else h0.length) + 1 + 1) 0 h0 x0 [⟨.str, bytesStr ((if x0 < 0 then h0 ++ [45] else h0)).reverse⟩] := by
  rw [R27_5, if_neg (by decide)]
  by_cases hx : x0 < 0
  · have b := back27 (h0 ++ [45]) (h0.length + 1) [] (by rw [List.length_append, List.length_singleton]; omega) (by simp; omega)
    have e : (h0 ++ [(45 : Int)]).length = h0.length + 1 := by rw [List.length_append, List.length_singleton]
    rw [List.take_of_length_le (by omega)] at b
    simp only [hx, decide_true, if_true]
    rw [e]
    exact ⟨by omega, by rw [i64_iff]; omega, b⟩
  · have b := back27 h0 h0.length [] (Nat.le_refl _) (by simp; omega)
    rw [List.take_of_length_le (Nat.le_refl _)] at b
    simp only [hx, decide_false, Bool.false_eq_true, if_false]
    exact ⟨by rw [i64_iff]; omega, b⟩

theorem run27 (x0 : Int) (ds : List Dyn) (F : List Int) (K : Nat) (hF : R27_5 K 0 F x0 ds) : ∀ (m : Nat) (v : Int) (h0 : List Int), (v = (m : Int) ∨ v = -(m : Int)) → m ≤ 9223372036854775808 → InR .i64 v → h0.length + (rd27 m).length ≤ 20 → h0 ++ rd27 m = F → R27_5 ((rd27 m).length + K) v h0 x0 ds := by
  intro m
  induction m using Nat.strongRecOn with
  | _ m ih =>
    intro v h0 hv hm hi hl he
    by_cases h : m = 0
    · subst h
      obtain rfl : v = 0 := by omega
      rw [rd027] at he ⊢
      rw [List.append_nil] at he
      rw [he, List.length_nil, Nat.zero_add]
      exact hF
    · have hr := rds27 h
      rw [hr] at he hl ⊢
      rw [List.length_cons] at hl ⊢
      have hne : (v != 0) = true := by
        have : v ≠ 0 := by omega
        simpa using this
      rw [i64_iff] at hi
      have e1 : (rd27 (m / 10)).length + 1 + K = ((rd27 (m / 10)).length + K) + 1 := by omega
      have next : ∀ v', (v' = ((m / 10 : Nat) : Int) ∨ v' = -((m / 10 : Nat) : Int)) → R27_5 ((rd27 (m / 10)).length + K) v' (h0 ++ [((48 + m % 10 : Nat) : Int)]) x0 ds := fun v' hv' =>
        ih (m / 10) (by omega) v' _ hv' (by omega) (by rw [i64_iff]; omega) (by rw [List.length_append, List.length_singleton]; omega) (by rw [List.append_assoc]; exact he)
      rw [e1, R27_5, if_pos hne]
      rcases hv with rfl | rfl
      · have t1 : Int.tmod (m : Int) 10 = ((m % 10 : Nat) : Int) := rfl
        have t2 : Int.tdiv (m : Int) 10 = ((m / 10 : Nat) : Int) := rfl
        rw [t1, t2]
        refine ⟨by rw [i64_iff]; omega, ?_⟩
        rw [if_neg (by simp only [decide_eq_true_eq]; omega)]
        have e2 : 48 + ((m % 10 : Nat) : Int) = ((48 + m % 10 : Nat) : Int) := by omega
        rw [e2]
        exact ⟨by rw [i64_iff]; omega, by rw [u8_iff]; omega, by omega, by rw [i64_iff]; omega, next _ (.inl rfl)⟩
      · have t1 : Int.tmod (-(m : Int)) 10 = -((m % 10 : Nat) : Int) := by rw [Int.neg_tmod]; rfl
        have t2 : Int.tdiv (-(m : Int)) 10 = -((m / 10 : Nat) : Int) := by rw [Int.neg_tdiv]; rfl
        rw [t1, t2]
        refine ⟨by rw [i64_iff]; omega, ?_⟩
        by_cases hz : m % 10 = 0
        · rw [if_neg (by simp only [decide_eq_true_eq]; omega)]
          have e2 : 48 + -((m % 10 : Nat) : Int) = ((48 + m % 10 : Nat) : Int) := by omega
          rw [e2]
          exact ⟨by rw [i64_iff]; omega, by rw [u8_iff]; omega, by omega, by rw [i64_iff]; omega, next _ (.inr rfl)⟩
        · rw [if_pos (by simp only [decide_eq_true_eq]; omega)]
          have e2 : 48 + (0 - -((m % 10 : Nat) : Int)) = ((48 + m % 10 : Nat) : Int) := by omega
          rw [e2]
          exact ⟨by rw [i64_iff]; omega, by rw [i64_iff]; omega, by rw [u8_iff]; omega, by omega, by rw [i64_iff]; omega, next _ (.inr rfl)⟩

theorem top27 (x0 : Int) (hi : InR .i64 x0) : ∃ n, R27 n x0 [⟨.str, g27_0 x0⟩] := by
  unfold g27_0 numB Lib.itoa
  by_cases h : x0 = 0
  · subst h
    refine ⟨1, ?_⟩
    rw [R27, if_pos (by rfl), if_neg (by decide)]
    have e : Lib.decDigits (Int.toNat 0) = [48] := by rw [Lib.decDigits, dif_pos (by decide)]; rfl
    rw [e]
  · have hi' := hi
    rw [i64_iff] at hi'
    have hn : x0.natAbs ≠ 0 := by omega
    have hl := rdl27 19 x0.natAbs (by omega)
    refine ⟨(rd27 x0.natAbs).length + ((if x0 < 0 then (rd27 x0.natAbs).length + 1 else (rd27 x0.natAbs).length) + 1 + 1) + 1, ?_⟩
    rw [R27, if_neg (by simpa using h)]
    have hlast := last27 x0 (rd27 x0.natAbs) (by omega)
    have hrun := run27 x0 _ (rd27 x0.natAbs) _ hlast x0.natAbs x0 [] (by omega) (by omega) hi (by simp; omega) rfl
    have e : bytesStr (if x0 < 0 then rd27 x0.natAbs ++ [45] else rd27 x0.natAbs).reverse = ⟨(if x0 < 0 then 45 :: Lib.decDigits x0.natAbs else Lib.decDigits x0.toNat).toArray⟩ := by
      by_cases hx : x0 < 0
      · rw [if_pos hx, if_pos hx, List.reverse_append]
        show bytesStr ((45 : Int) :: (rd27 x0.natAbs).reverse) = _
        have := rdd27 x0.natAbs hn
        have e0 : bytesStr ((45 : Int) :: (rd27 x0.natAbs).reverse) = ⟨⟨45 :: (bytesStr (rd27 x0.natAbs).reverse).data.toList⟩⟩ := by rw [bstr27, bstr27]; rfl
        rw [e0, this]
      · rw [if_neg hx, if_neg hx, rdd27 x0.natAbs hn, show x0.natAbs = x0.toNat by omega]
    rw [e] at hrun
    exact hrun

def S27 : Am.Spec := { sig := sig27, pre := fun ⟨x0, _⟩ => P27 x0, res := fun ⟨x0, _⟩ => [⟨.str, g27_0 x0⟩] }
theorem con27 : Contract Tryz.prog 27 S27 := contract_of Tryz.func27 hb27 (Nat.le_of_ble_eq_true (by kernel_rfl)) (fun ⟨x0, _⟩ h hwf K q => by
  obtain ⟨n, hn⟩ := top27 x0 hwf.1
  exact (snd27 n).1 x0 _ hn K q)

end
end Go.Proofs.YtalgkffjceljiaaGreatDoor

/- Function 65 (spec.l01List): its runs between cut points. Written by a program of this repo (gen). -/
set_option linter.unusedVariables false
set_option linter.unusedSimpArgs false
set_option maxRecDepth 100000
namespace Go.Proofs.YtalgkffjceljiaaGreatDoor
open Go Go.Am Go.Proofs
noncomputable section
def ext65 : Ext := [(27, S27)]
theorem call65_27 : Callable Tryz.prog 27 := ⟨Tryz.f27, Tryz.func27, by kernel_rfl, by kernel_rfl⟩
theorem ext65Ok : ExtOk Tryz.prog ext65 := ⟨⟨call65_27, con27⟩, trivial⟩

noncomputable def b65 : Code := bodyOf Tryz.f65
theorem hb65 : Tryz.f65.body = some b65 := by kernel_rfl
def sig65 : List AT := [AT.v (Ty.sl (Ty.int IntKind.i64))]
def tys65 : List Ty := [Ty.str]
def kds65 : List RK := []
def oks65 : List AT := owns sig65
def E65_5 (v3 : ByteArray) (v4 : Int) (x0 : List Int) : Env := [(0, PV.a (Atom.sl (Ty.int IntKind.i64) x0)), (3, PV.a (Atom.val (Value.string v3))), (4, PV.a (Atom.val (Value.int IntKind.i64 v4)))]
def L65_5 (v3 : ByteArray) (v4 : Int) (x0 : List Int) : Heap := []
mutual
def R65 : Nat → List Int → List Dyn → Prop
  | 0, _, _ => False
  | n + 1, x0, ds => (if ((↑(List.length x0) : Int) == 0) = true then (ds = [Dyn.mk Ty.str (ByteArray.mk #[45])]) else (R65_5 n (ByteArray.mk #[]) (0) (x0) ds))
def R65_5 : Nat → ByteArray → Int → List Int → List Dyn → Prop
  | 0, _, _, _, _ => False
  | n + 1, v3, v4, x0, ds => (if (Decidable.decide (v4 < (↑(List.length x0) : Int))) = true then (if (Decidable.decide (v4 > 0)) = true then ((ByteArray.size v3 + 1 ≤ 9223372036854775807) ∧ ((0 ≤ v4) ∧ (v4 < (↑(List.length x0) : Int)) ∧ ((ByteArray.size (v3 ++ ByteArray.mk #[44]) + ByteArray.size (g27_0 (List.getD x0 (Int.toNat v4) 0)) ≤ 9223372036854775807) ∧ ((InR IntKind.i64 (v4 + 1)) ∧ (R65_5 n (v3 ++ ByteArray.mk #[44] ++ g27_0 (List.getD x0 (Int.toNat v4) 0)) (v4 + 1) (x0) ds))))) else ((0 ≤ v4) ∧ (v4 < (↑(List.length x0) : Int)) ∧ ((ByteArray.size v3 + ByteArray.size (g27_0 (List.getD x0 (Int.toNat v4) 0)) ≤ 9223372036854775807) ∧ ((InR IntKind.i64 (v4 + 1)) ∧ (R65_5 n (v3 ++ g27_0 (List.getD x0 (Int.toNat v4) 0)) (v4 + 1) (x0) ds))))) else (ds = [Dyn.mk Ty.str v3]))
end
theorem snd65 : ∀ n, (∀ (x0 : List Int) ds, R65 n x0 ds → ∀ K q, AtV Tryz.prog 65 (PostR kds65 oks65 ds [] [] q K) 26 K q [] [.code b65] (entE 0 0 sig65 (x0, ())) (entL sig65 (x0, ()))) ∧ (∀ (v3 : ByteArray) (v4 : Int) (x0 : List Int) ds, R65_5 n v3 v4 x0 ds → ∀ K q, AtV Tryz.prog 65 (PostR kds65 oks65 ds [] [] q K) 26 K q [] (cutAt b65 5) (E65_5 v3 v4 x0) (L65_5 v3 v4 x0)) := by
  intro n
  induction n with
  | zero => exact ⟨fun _ _ h => by simp only [R65] at h, fun _ _ _ _ h => by simp only [R65_5] at h⟩
  | succ n ih =>
  obtain ⟨ih, ih5⟩ := ih
  refine ⟨?_, ?_⟩
  · intro x0 ds h K q
    rw [R65] at h
    by_cases b0 : ((↑(List.length x0) : Int) == 0) = true
    · rw [if_pos b0] at h
      subst h
      exact AtV.ret Tryz.func65 tabOk ext65Ok mixed false [] tys65 [true] (a1 b0 trivial) (by kernel_rfl)
    · rw [if_neg b0] at h
      replace b0 := Bool.eq_false_iff.2 b0
      exact AtV.go tabOk ext65Ok mixed false [] [] [0, 3, 4] [] [false] (a1 b0 trivial) (ih5 _ _ _ _ h K q) (by kernel_rfl)

  · intro v3 v4 x0 ds h K q
    rw [R65_5] at h
    by_cases b0 : (Decidable.decide (v4 < (↑(List.length x0) : Int))) = true
    · rw [if_pos b0] at h
      by_cases b1 : (Decidable.decide (v4 > 0)) = true
      · rw [if_pos b1] at h
        obtain ⟨s0, h⟩ := h
        obtain ⟨s1, s2, h⟩ := h
        obtain ⟨s3, h⟩ := h
        obtain ⟨s4, h⟩ := h
        exact AtV.go tabOk ext65Ok mixed false [] [] [0, 3, 4] [] [true, true] (a1 b0 (a1 b1 (a1 s0 (a1 s1 (a1 s2 (a1 trivial (a1 s3 (a1 s4 trivial)))))))) (ih5 _ _ _ _ h K q) (by kernel_rfl)
      · rw [if_neg b1] at h
        replace b1 := Bool.eq_false_iff.2 b1
        obtain ⟨s0, s1, h⟩ := h
        obtain ⟨s2, h⟩ := h
        obtain ⟨s3, h⟩ := h
        exact AtV.go tabOk ext65Ok mixed false [] [] [0, 3, 4] [] [true, false] (a1 b0 (a1 b1 (a1 s0 (a1 s1 (a1 trivial (a1 s2 (a1 s3 trivial))))))) (ih5 _ _ _ _ h K q) (by kernel_rfl)
    · rw [if_neg b0] at h
      replace b0 := Bool.eq_false_iff.2 b0
      subst h
      exact AtV.ret Tryz.func65 tabOk ext65Ok mixed false [] tys65 [false] (a1 b0 trivial) (by kernel_rfl)



def ap65 : Nat → ByteArray → List Int → ByteArray
  | _, o, [] => o
  | i, o, x :: r => ap65 (i + 1) ((if 0 < i then o ++ ByteArray.mk #[44] else o) ++ g27_0 x) r
def g65_0 (x0 : List Int) : ByteArray := if x0.length = 0 then ByteArray.mk #[45] else ap65 0 (ByteArray.mk #[]) x0
def P65 (x0 : List Int) : Prop := x0.length ≤ 1000 ∧ ∀ x ∈ x0, InR .i64 x

theorem run65 (x0 : List Int) (hm : x0.length ≤ 1000) (hx : ∀ x ∈ x0, InR .i64 x) : ∀ (k i : Nat) (o : ByteArray), i + k = x0.length → o.size ≤ 22 * i →
    R65_5 (k + 1) o (i : Int) x0 [⟨.str, ap65 i o (x0.drop i)⟩] := by
  intro k
  induction k with
  | zero =>
    intro i o hi ho
    rw [R65_5, if_neg (by simp; omega), drop_end x0 i (by omega)]
    rfl
  | succ k ih =>
    intro i o hi ho
    have hlt : i < x0.length := by omega
    have hr := hx (x0.getD i 0) (mem_getD x0 i 0 hlt)
    have hup : InR .i64 ((i : Int) + 1) := inR_up (xs := x0) (by unfold maxLen; omega) hlt
    rw [i64_iff] at hr
    have hs : (g27_0 (x0.getD i 0)).size ≤ 21 := numB_size _ (by omega) (by omega)
    rw [R65_5, if_pos (by simp; omega), drop_get x0 i 0 hlt]
    simp only [Int.toNat_natCast]
    unfold ap65
    have i44 : (ByteArray.mk #[44]).size = 1 := rfl
    by_cases h0 : 0 < i
    · rw [if_pos (by simp; omega), if_pos h0]
      have hs1 : (o ++ ByteArray.mk #[44]).size = o.size + 1 := by rw [ByteArray.size_append, i44]
      refine ⟨by omega, by omega, by omega, by rw [hs1]; omega, hup, ?_⟩
      exact ih (i + 1) _ (by omega) (by rw [ByteArray.size_append, hs1]; omega)
    · rw [if_neg (by simp; omega), if_neg h0]
      refine ⟨by omega, by omega, by omega, hup, ?_⟩
      exact ih (i + 1) _ (by omega) (by rw [ByteArray.size_append]; omega)

theorem top65 (x0 : List Int) (h : P65 x0) : R65 (x0.length + 1 + 1) x0 [⟨.str, g65_0 x0⟩] := by
  rw [R65]
  unfold g65_0
  by_cases h0 : x0.length = 0
  · rw [if_pos (by simp [h0]), if_pos h0]
  · rw [if_neg (by simp only [beq_iff_eq]; omega), if_neg h0]
    exact run65 x0 h.1 h.2 x0.length 0 (ByteArray.mk #[]) (by omega) (by decide)

def S65 : Am.Spec := { sig := sig65, pre := fun ⟨x0, _⟩ => P65 x0, res := fun ⟨x0, _⟩ => [⟨Ty.str, g65_0 x0⟩] }
theorem con65 : Contract Tryz.prog 65 S65 := contract_of Tryz.func65 hb65 (Nat.le_of_ble_eq_true (by kernel_rfl)) (fun ⟨x0, _⟩ h hwf K q =>
  (snd65 _).1 x0 _ (top65 x0 h) K q)

end
end Go.Proofs.YtalgkffjceljiaaGreatDoor

/- Function 44 (spec.l21Text): its runs between cut points. Written by a program of this repo (gen). -/
set_option linter.unusedVariables false
set_option linter.unusedSimpArgs false
set_option maxRecDepth 100000
namespace Go.Proofs.YtalgkffjceljiaaGreatDoor
open Go Go.Am Go.Proofs
noncomputable section
def ext44 : Ext := [(65, S65)]
theorem call44_65 : Callable Tryz.prog 65 := ⟨Tryz.f65, Tryz.func65, by kernel_rfl, by kernel_rfl⟩
theorem ext44Ok : ExtOk Tryz.prog ext44 := ⟨⟨call44_65, con65⟩, trivial⟩

noncomputable def b44 : Code := bodyOf Tryz.f44
theorem hb44 : Tryz.f44.body = some b44 := by kernel_rfl
def sig44 : List AT := [AT.p (Ty.cons Ty.str (Ty.cons (Ty.int IntKind.i64) (Ty.cons (Ty.int IntKind.i64) (Ty.cons (Ty.int IntKind.i64) (Ty.cons (Ty.int IntKind.i64) Ty.unit)))))]
def tys44 : List Ty := [Ty.str]
def kds44 : List RK := []
def oks44 : List AT := owns sig44
def P44 (x0 : ByteArray × Int × Int × Int × Int × Unit) : Prop := ((ByteArray.size (Prod.fst x0) + 1 ≤ 9223372036854775807) ∧ ((P65 [Prod.fst (Prod.snd x0), Prod.fst (Prod.snd (Prod.snd x0)), Prod.fst (Prod.snd (Prod.snd (Prod.snd x0))), Prod.fst (Prod.snd (Prod.snd (Prod.snd (Prod.snd x0))))]) ∧ ((ByteArray.size (Prod.fst x0 ++ ByteArray.mk #[32]) + ByteArray.size (g65_0 [Prod.fst (Prod.snd x0), Prod.fst (Prod.snd (Prod.snd x0)), Prod.fst (Prod.snd (Prod.snd (Prod.snd x0))), Prod.fst (Prod.snd (Prod.snd (Prod.snd (Prod.snd x0))))]) ≤ 9223372036854775807) ∧ True)))
def g44_0 (x0 : ByteArray × Int × Int × Int × Int × Unit) : ByteArray := Prod.fst x0 ++ ByteArray.mk #[32] ++ g65_0 [Prod.fst (Prod.snd x0), Prod.fst (Prod.snd (Prod.snd x0)), Prod.fst (Prod.snd (Prod.snd (Prod.snd x0))), Prod.fst (Prod.snd (Prod.snd (Prod.snd (Prod.snd x0))))]
theorem at44 (x0 : ByteArray × Int × Int × Int × Int × Unit) (h : P44 x0) (K : Ctx) (q : Nat → Value) : AtV Tryz.prog 44 (PostR kds44 oks44 [⟨Ty.str, g44_0 x0⟩] [] [] q K) 27 K q [] [.code b44] (entE 0 0 sig44 (x0, ())) (entL sig44 (x0, ())) := by
  unfold P44 at h
  unfold g44_0
  obtain ⟨s0, h⟩ := h
  obtain ⟨s1, h⟩ := h
  obtain ⟨s2, h⟩ := h
  exact AtV.ret Tryz.func44 tabOk ext44Ok mixed false [] tys44 [] (a1 s0 (a1 s1 (a1 s2 trivial))) (by kernel_rfl)

def S44 : Am.Spec := { sig := sig44, pre := fun ⟨x0, _⟩ => P44 x0, res := fun ⟨x0, _⟩ => [⟨Ty.str, g44_0 x0⟩], kds := kds44 }
theorem con44 : Contract Tryz.prog 44 S44 := contract_of Tryz.func44 hb44 (Nat.le_of_ble_eq_true (by kernel_rfl)) (fun ⟨x0, _⟩ h _ K q => at44 x0 h K q)


end
end Go.Proofs.YtalgkffjceljiaaGreatDoor

/- A law that says how functions of the program and of the specification hang together. -/
set_option linter.unusedVariables false
set_option linter.unusedSimpArgs false
set_option maxRecDepth 100000
namespace Go.Proofs.YtalgkffjceljiaaGreatDoor
open Go Go.Am Go.Proofs

theorem SrcOk.self {n : Int} {s : (List Int × Int × Int × Unit)} (h : SrcOk n s) : SrcOk s.2.1 s := ⟨h.1, h.2.1, Int.le_refl _⟩
theorem text_ok {n : Int} {s : (List Int × Int × Int × Unit)} (h : SrcOk n s) (l : List ByteArray) (hl : 1 ≤ l.length) (hn : n ≤ 4611686018427387902) :
    P40 s l ∧ SrcOk (n + 2) (u40_0 s l) ∧ g40_0 s l ∈ l := by
  obtain ⟨p, s1, a, b, _⟩ := pick_ok h (l.length : Int) hn
  have b := b (by omega)
  exact ⟨⟨p, a, b, trivial⟩, s1, mem_getD l _ ByteArray.empty (by omega)⟩

end Go.Proofs.YtalgkffjceljiaaGreatDoor

/- A law that says how functions of the program and of the specification hang together. -/
set_option linter.unusedVariables false
set_option linter.unusedSimpArgs false
set_option maxRecDepth 100000
namespace Go.Proofs.YtalgkffjceljiaaGreatDoor
open Go Go.Am Go.Proofs

theorem one_ok {n : Int} {s : List Int × Int × Int × Unit} (h : SrcOk n s) (m : Int) (hn : n ≤ 4611686018427387902) :
    P41 s m ∧ SrcOk (n + 2) (u41_0 s m) := by
  obtain ⟨p, s1, _⟩ := pick_ok h m hn
  exact ⟨⟨p, trivial⟩, s1⟩

end Go.Proofs.YtalgkffjceljiaaGreatDoor

/- A law that says how functions of the program and of the specification hang together. -/
set_option linter.unusedVariables false
set_option linter.unusedSimpArgs false
set_option maxRecDepth 100000
namespace Go.Proofs.YtalgkffjceljiaaGreatDoor
open Go Go.Am Go.Proofs

theorem among_ok {n : Int} {s : List Int × Int × Int × Unit} (h : SrcOk n s) (l : List Int) (hl : 1 ≤ l.length) (hn : n ≤ 4611686018427387902) :
    P64 s l ∧ SrcOk (n + 2) (u64_0 s l) ∧ g64_0 s l ∈ l := by
  obtain ⟨p, s1, a, b, _⟩ := pick_ok h (l.length : Int) hn
  have b := b (by omega)
  exact ⟨⟨p, a, b, trivial⟩, s1, mem_getD l _ 0 (by omega)⟩

end Go.Proofs.YtalgkffjceljiaaGreatDoor

/- A law that says how functions of the program and of the specification hang together. -/
set_option linter.unusedVariables false
set_option linter.unusedSimpArgs false
set_option maxRecDepth 100000
namespace Go.Proofs.YtalgkffjceljiaaGreatDoor
open Go Go.Am Go.Proofs

theorem list_size {xs : List Int} (h1 : xs.length ≤ 64) (hx : ∀ x ∈ xs, InR .i64 x) : (g65_0 xs).size ≤ 2000 := by
  have key : ∀ (r : List Int) (i : Nat) (o : ByteArray), (∀ x ∈ r, InR .i64 x) → (ap65 i o r).size ≤ o.size + 22 * r.length := by
    intro r
    induction r with
    | nil => intro i o _; simp [ap65]
    | cons x r ih =>
      intro i o hx
      have hr := hx x (List.mem_cons_self ..)
      rw [i64_iff] at hr
      have hs : (g27_0 x).size ≤ 21 := numB_size _ (by omega) (by omega)
      have i44 : (ByteArray.mk #[44]).size = 1 := rfl
      unfold ap65
      refine Nat.le_trans (ih _ _ fun y hy => hx y (List.mem_cons_of_mem _ hy)) ?_
      rw [ByteArray.size_append, List.length_cons]
      split
      · rw [ByteArray.size_append, i44]; omega
      · omega
  unfold g65_0
  split
  · exact (show (1 : Nat) ≤ 2000 by decide)
  · have := key xs 0 (ByteArray.mk #[]) hx
    have i0 : (ByteArray.mk #[]).size = 0 := rfl
    omega

end Go.Proofs.YtalgkffjceljiaaGreatDoor

/- A law that says how functions of the program and of the specification hang together. -/
set_option linter.unusedVariables false
set_option linter.unusedSimpArgs false
set_option maxRecDepth 100000
namespace Go.Proofs.YtalgkffjceljiaaGreatDoor
open Go Go.Am Go.Proofs

theorem draw_check {n : Int} {s : (List Int × Int × Int × Unit)} (h : SrcOk n s) (hn : n ≤ 4000000000000000000) (id : ByteArray) :
    P43 s id ∧ SrcOk (n + 8) (u43_0 s id) ∧ (g43_0 s id).1 = id ∧
    (g43_0 s id).2.1 ∈ [1, 7, 30, 365] ∧ (50 ≤ (g43_0 s id).2.2.1 ∧ (g43_0 s id).2.2.1 ≤ 3000) ∧ (0 ≤ (g43_0 s id).2.2.2.1 ∧ (g43_0 s id).2.2.2.1 < 60) ∧ (0 ≤ (g43_0 s id).2.2.2.2.1 ∧ (g43_0 s id).2.2.2.2.1 < 3000) := by
  obtain ⟨p1, s1, m1⟩ := among_ok h [1, 7, 30, 365] (by decide) (by omega)
  obtain ⟨p2, s2, a2, b2, _⟩ := pick_ok s1 60 (by omega)
  obtain ⟨p3, s3, a3, b3, _⟩ := pick_ok s2 60 (by omega)
  obtain ⟨p4, s4, a4, b4, _⟩ := pick_ok s3 3000 (by omega)
  have b2 := b2 (by decide)
  have b3 := b3 (by decide)
  have b4 := b4 (by decide)
  unfold P43 u43_0 g43_0
  exact ⟨⟨p1, p2, p3, by rw [i64_iff]; omega, by rw [i64_iff]; omega, p4, trivial⟩, s4.up (by omega), rfl, m1, ⟨by show 50 ≤ 50 * _; omega, by show 50 * _ ≤ 3000; omega⟩, ⟨a2, b2⟩, a4, b4⟩

theorem text_check {x : (ByteArray × Int × Int × Int × Int × Unit)} (hs : x.1.size ≤ 1048576) (hI : ∀ y ∈ [x.2.1, x.2.2.1, x.2.2.2.1, x.2.2.2.2.1], InR .i64 y) : P44 x ∧ (g44_0 x).size ≤ 1048576 + 3000 := by
  have hl := list_size (xs := [x.2.1, x.2.2.1, x.2.2.2.1, x.2.2.2.2.1]) (by simp) hI
  have i32 : (ByteArray.mk #[32]).size = 1 := rfl
  unfold P44 g44_0
  simp only [ByteArray.size_append, i32]
  exact ⟨⟨by omega, ⟨by simp, hI⟩, by omega, trivial⟩, by omega⟩

end Go.Proofs.YtalgkffjceljiaaGreatDoor

/- Function 24 (spec.l29DrawOne): its runs between cut points. Written by a program of this repo (gen). -/
set_option linter.unusedVariables false
set_option linter.unusedSimpArgs false
set_option maxRecDepth 100000
namespace Go.Proofs.YtalgkffjceljiaaGreatDoor
open Go Go.Am Go.Proofs
noncomputable section
def ext24 : Ext := [(40, S40), (41, S41), (42, S42), (43, S43), (44, S44), (22, S22)]
theorem call24_40 : Callable Tryz.prog 40 := ⟨Tryz.f40, Tryz.func40, by kernel_rfl, by kernel_rfl⟩
theorem call24_41 : Callable Tryz.prog 41 := ⟨Tryz.f41, Tryz.func41, by kernel_rfl, by kernel_rfl⟩
theorem call24_42 : Callable Tryz.prog 42 := ⟨Tryz.f42, Tryz.func42, by kernel_rfl, by kernel_rfl⟩
theorem call24_43 : Callable Tryz.prog 43 := ⟨Tryz.f43, Tryz.func43, by kernel_rfl, by kernel_rfl⟩
theorem call24_44 : Callable Tryz.prog 44 := ⟨Tryz.f44, Tryz.func44, by kernel_rfl, by kernel_rfl⟩
theorem call24_22 : Callable Tryz.prog 22 := ⟨Tryz.f22, Tryz.func22, by kernel_rfl, by kernel_rfl⟩
theorem ext24Ok : ExtOk Tryz.prog ext24 := ⟨⟨call24_40, con40⟩, ⟨call24_41, con41⟩, ⟨call24_42, con42⟩, ⟨call24_43, con43⟩, ⟨call24_44, con44⟩, ⟨call24_22, con22⟩, trivial⟩

noncomputable def b24 : Code := bodyOf Tryz.f24
theorem hb24 : Tryz.f24.body = some b24 := by kernel_rfl
def sig24 : List AT := [AT.pb (Ty.cons (Ty.sl (Ty.int IntKind.u8)) (Ty.cons (Ty.int IntKind.i64) (Ty.cons (Ty.int IntKind.u64) Ty.unit)))]
def tys24 : List Ty := [Ty.cons Ty.str (Ty.cons Ty.str (Ty.cons Ty.str Ty.unit))]
def kds24 : List RK := []
def oks24 : List AT := owns sig24
def E24_6 (h0 : List Int × Int × Int × Unit) (h2 : ByteArray × ByteArray × ByteArray × Unit) : Env := [(0, PV.a (Atom.optr 0 0 [])), (2, PV.a (Atom.optr 1 0 [])), (3, PV.a (Atom.optr 2 0 []))]
def L24_6 (h0 : List Int × Int × Int × Unit) (h2 : ByteArray × ByteArray × ByteArray × Unit) : Heap := [Option.some (Arr.mk (Ty.cons (Ty.sl (Ty.int IntKind.u8)) (Ty.cons (Ty.int IntKind.i64) (Ty.cons (Ty.int IntKind.u64) Ty.unit))) [h0] Bool.true Option.none (Option.some Bool.true)), Option.some (Arr.mk (Ty.cons Ty.str (Ty.cons Ty.str (Ty.cons Ty.str Ty.unit))) [(ByteArray.empty, ByteArray.empty, ByteArray.empty, ())] Bool.true Option.none (Option.some Bool.false)), Option.some (Arr.mk (Ty.cons Ty.str (Ty.cons Ty.str (Ty.cons Ty.str Ty.unit))) [h2] Bool.true Option.none (Option.some Bool.false))]
def E24_9 (h0 : List Int × Int × Int × Unit) (h2 : ByteArray × ByteArray × ByteArray × Unit) : Env := [(0, PV.a (Atom.optr 0 0 [])), (2, PV.a (Atom.optr 1 0 [])), (3, PV.a (Atom.optr 2 0 []))]
def L24_9 (h0 : List Int × Int × Int × Unit) (h2 : ByteArray × ByteArray × ByteArray × Unit) : Heap := [Option.some (Arr.mk (Ty.cons (Ty.sl (Ty.int IntKind.u8)) (Ty.cons (Ty.int IntKind.i64) (Ty.cons (Ty.int IntKind.u64) Ty.unit))) [h0] Bool.true Option.none (Option.some Bool.true)), Option.some (Arr.mk (Ty.cons Ty.str (Ty.cons Ty.str (Ty.cons Ty.str Ty.unit))) [(ByteArray.empty, ByteArray.empty, ByteArray.empty, ())] Bool.true Option.none (Option.some Bool.false)), Option.some (Arr.mk (Ty.cons Ty.str (Ty.cons Ty.str (Ty.cons Ty.str Ty.unit))) [h2] Bool.true Option.none (Option.some Bool.false))]
def E24_11 (h0 : List Int × Int × Int × Unit) (h2 : ByteArray × ByteArray × ByteArray × Unit) : Env := [(0, PV.a (Atom.optr 0 0 [])), (2, PV.a (Atom.optr 1 0 [])), (3, PV.a (Atom.optr 2 0 []))]
def L24_11 (h0 : List Int × Int × Int × Unit) (h2 : ByteArray × ByteArray × ByteArray × Unit) : Heap := [Option.some (Arr.mk (Ty.cons (Ty.sl (Ty.int IntKind.u8)) (Ty.cons (Ty.int IntKind.i64) (Ty.cons (Ty.int IntKind.u64) Ty.unit))) [h0] Bool.true Option.none (Option.some Bool.true)), Option.some (Arr.mk (Ty.cons Ty.str (Ty.cons Ty.str (Ty.cons Ty.str Ty.unit))) [(ByteArray.empty, ByteArray.empty, ByteArray.empty, ())] Bool.true Option.none (Option.some Bool.false)), Option.some (Arr.mk (Ty.cons Ty.str (Ty.cons Ty.str (Ty.cons Ty.str Ty.unit))) [h2] Bool.true Option.none (Option.some Bool.false))]
mutual
def R24 : Nat → List Int × Int × Int × Unit → List Dyn → List (Option Lst) → Prop
  | 0, _, _, _ => False
  | n + 1, x0, ds, us => ((P40 x0 [ByteArray.mk #[99, 104, 101, 99, 107], ByteArray.mk #[110, 111, 116, 101], ByteArray.mk #[102, 97, 99, 101]]) ∧ ((P40 (u40_0 x0 [ByteArray.mk #[99, 104, 101, 99, 107], ByteArray.mk #[110, 111, 116, 101], ByteArray.mk #[102, 97, 99, 101]]) [ByteArray.mk #[97], ByteArray.mk #[98], ByteArray.mk #[99], ByteArray.mk #[100]]) ∧ ((P40 (u40_0 (u40_0 x0 [ByteArray.mk #[99, 104, 101, 99, 107], ByteArray.mk #[110, 111, 116, 101], ByteArray.mk #[102, 97, 99, 101]]) [ByteArray.mk #[97], ByteArray.mk #[98], ByteArray.mk #[99], ByteArray.mk #[100]]) [ByteArray.mk #[], ByteArray.mk #[120], ByteArray.mk #[97, 32, 98, 32, 99], ByteArray.mk #[49, 50, 32, 51, 52], ByteArray.mk #[111, 97, 107, 47, 52, 48]]) ∧ ((P41 (u40_0 (u40_0 (u40_0 x0 [ByteArray.mk #[99, 104, 101, 99, 107], ByteArray.mk #[110, 111, 116, 101], ByteArray.mk #[102, 97, 99, 101]]) [ByteArray.mk #[97], ByteArray.mk #[98], ByteArray.mk #[99], ByteArray.mk #[100]]) [ByteArray.mk #[], ByteArray.mk #[120], ByteArray.mk #[97, 32, 98, 32, 99], ByteArray.mk #[49, 50, 32, 51, 52], ByteArray.mk #[111, 97, 107, 47, 52, 48]]) 4) ∧ (if (g41_0 (u40_0 (u40_0 (u40_0 x0 [ByteArray.mk #[99, 104, 101, 99, 107], ByteArray.mk #[110, 111, 116, 101], ByteArray.mk #[102, 97, 99, 101]]) [ByteArray.mk #[97], ByteArray.mk #[98], ByteArray.mk #[99], ByteArray.mk #[100]]) [ByteArray.mk #[], ByteArray.mk #[120], ByteArray.mk #[97, 32, 98, 32, 99], ByteArray.mk #[49, 50, 32, 51, 52], ByteArray.mk #[111, 97, 107, 47, 52, 48]]) 4) = true then ((P42 (u41_0 (u40_0 (u40_0 (u40_0 x0 [ByteArray.mk #[99, 104, 101, 99, 107], ByteArray.mk #[110, 111, 116, 101], ByteArray.mk #[102, 97, 99, 101]]) [ByteArray.mk #[97], ByteArray.mk #[98], ByteArray.mk #[99], ByteArray.mk #[100]]) [ByteArray.mk #[], ByteArray.mk #[120], ByteArray.mk #[97, 32, 98, 32, 99], ByteArray.mk #[49, 50, 32, 51, 52], ByteArray.mk #[111, 97, 107, 47, 52, 48]]) 4) 9) ∧ ((ByteArray.size (g40_0 (u40_0 (u40_0 x0 [ByteArray.mk #[99, 104, 101, 99, 107], ByteArray.mk #[110, 111, 116, 101], ByteArray.mk #[102, 97, 99, 101]]) [ByteArray.mk #[97], ByteArray.mk #[98], ByteArray.mk #[99], ByteArray.mk #[100]]) [ByteArray.mk #[], ByteArray.mk #[120], ByteArray.mk #[97, 32, 98, 32, 99], ByteArray.mk #[49, 50, 32, 51, 52], ByteArray.mk #[111, 97, 107, 47, 52, 48]]) + ByteArray.size (g42_0 (u41_0 (u40_0 (u40_0 (u40_0 x0 [ByteArray.mk #[99, 104, 101, 99, 107], ByteArray.mk #[110, 111, 116, 101], ByteArray.mk #[102, 97, 99, 101]]) [ByteArray.mk #[97], ByteArray.mk #[98], ByteArray.mk #[99], ByteArray.mk #[100]]) [ByteArray.mk #[], ByteArray.mk #[120], ByteArray.mk #[97, 32, 98, 32, 99], ByteArray.mk #[49, 50, 32, 51, 52], ByteArray.mk #[111, 97, 107, 47, 52, 48]]) 4) 9) ≤ 9223372036854775807) ∧ (R24_6 n (u42_0 (u41_0 (u40_0 (u40_0 (u40_0 x0 [ByteArray.mk #[99, 104, 101, 99, 107], ByteArray.mk #[110, 111, 116, 101], ByteArray.mk #[102, 97, 99, 101]]) [ByteArray.mk #[97], ByteArray.mk #[98], ByteArray.mk #[99], ByteArray.mk #[100]]) [ByteArray.mk #[], ByteArray.mk #[120], ByteArray.mk #[97, 32, 98, 32, 99], ByteArray.mk #[49, 50, 32, 51, 52], ByteArray.mk #[111, 97, 107, 47, 52, 48]]) 4) 9) ((g40_0 x0 [ByteArray.mk #[99, 104, 101, 99, 107], ByteArray.mk #[110, 111, 116, 101], ByteArray.mk #[102, 97, 99, 101]], g40_0 (u40_0 x0 [ByteArray.mk #[99, 104, 101, 99, 107], ByteArray.mk #[110, 111, 116, 101], ByteArray.mk #[102, 97, 99, 101]]) [ByteArray.mk #[97], ByteArray.mk #[98], ByteArray.mk #[99], ByteArray.mk #[100]], g40_0 (u40_0 (u40_0 x0 [ByteArray.mk #[99, 104, 101, 99, 107], ByteArray.mk #[110, 111, 116, 101], ByteArray.mk #[102, 97, 99, 101]]) [ByteArray.mk #[97], ByteArray.mk #[98], ByteArray.mk #[99], ByteArray.mk #[100]]) [ByteArray.mk #[], ByteArray.mk #[120], ByteArray.mk #[97, 32, 98, 32, 99], ByteArray.mk #[49, 50, 32, 51, 52], ByteArray.mk #[111, 97, 107, 47, 52, 48]] ++ g42_0 (u41_0 (u40_0 (u40_0 (u40_0 x0 [ByteArray.mk #[99, 104, 101, 99, 107], ByteArray.mk #[110, 111, 116, 101], ByteArray.mk #[102, 97, 99, 101]]) [ByteArray.mk #[97], ByteArray.mk #[98], ByteArray.mk #[99], ByteArray.mk #[100]]) [ByteArray.mk #[], ByteArray.mk #[120], ByteArray.mk #[97, 32, 98, 32, 99], ByteArray.mk #[49, 50, 32, 51, 52], ByteArray.mk #[111, 97, 107, 47, 52, 48]]) 4) 9, ())) ds us))) else (R24_6 n (u41_0 (u40_0 (u40_0 (u40_0 x0 [ByteArray.mk #[99, 104, 101, 99, 107], ByteArray.mk #[110, 111, 116, 101], ByteArray.mk #[102, 97, 99, 101]]) [ByteArray.mk #[97], ByteArray.mk #[98], ByteArray.mk #[99], ByteArray.mk #[100]]) [ByteArray.mk #[], ByteArray.mk #[120], ByteArray.mk #[97, 32, 98, 32, 99], ByteArray.mk #[49, 50, 32, 51, 52], ByteArray.mk #[111, 97, 107, 47, 52, 48]]) 4) ((g40_0 x0 [ByteArray.mk #[99, 104, 101, 99, 107], ByteArray.mk #[110, 111, 116, 101], ByteArray.mk #[102, 97, 99, 101]], g40_0 (u40_0 x0 [ByteArray.mk #[99, 104, 101, 99, 107], ByteArray.mk #[110, 111, 116, 101], ByteArray.mk #[102, 97, 99, 101]]) [ByteArray.mk #[97], ByteArray.mk #[98], ByteArray.mk #[99], ByteArray.mk #[100]], g40_0 (u40_0 (u40_0 x0 [ByteArray.mk #[99, 104, 101, 99, 107], ByteArray.mk #[110, 111, 116, 101], ByteArray.mk #[102, 97, 99, 101]]) [ByteArray.mk #[97], ByteArray.mk #[98], ByteArray.mk #[99], ByteArray.mk #[100]]) [ByteArray.mk #[], ByteArray.mk #[120], ByteArray.mk #[97, 32, 98, 32, 99], ByteArray.mk #[49, 50, 32, 51, 52], ByteArray.mk #[111, 97, 107, 47, 52, 48]], ())) ds us))))))
def R24_6 : Nat → List Int × Int × Int × Unit → ByteArray × ByteArray × ByteArray × Unit → List Dyn → List (Option Lst) → Prop
  | 0, _, _, _, _ => False
  | n + 1, h0, h2, ds, us => (if (ByteArray.toList (Prod.fst h2) == ByteArray.toList (ByteArray.mk #[99, 104, 101, 99, 107])) = true then ((P41 h0 2) ∧ (if (g41_0 h0 2) = true then ((P43 (u41_0 h0 2) (Prod.fst (Prod.snd h2))) ∧ ((P44 (Prod.fst (Prod.snd h2), g64_0 (u41_0 h0 2) [1, 7, 30, 365], 50 * (1 + g22_0 (u22_0 (u64_0 (u41_0 h0 2) [1, 7, 30, 365]) 60) 60), g22_0 (u64_0 (u41_0 h0 2) [1, 7, 30, 365]) 60, g22_0 (u22_0 (u22_0 (u64_0 (u41_0 h0 2) [1, 7, 30, 365]) 60) 60) 3000, ())) ∧ (R24_9 n (u43_0 (u41_0 h0 2) (Prod.fst (Prod.snd h2))) ((Prod.fst h2, Prod.fst (Prod.snd h2), g44_0 (Prod.fst (Prod.snd h2), g64_0 (u41_0 h0 2) [1, 7, 30, 365], 50 * (1 + g22_0 (u22_0 (u64_0 (u41_0 h0 2) [1, 7, 30, 365]) 60) 60), g22_0 (u64_0 (u41_0 h0 2) [1, 7, 30, 365]) 60, g22_0 (u22_0 (u22_0 (u64_0 (u41_0 h0 2) [1, 7, 30, 365]) 60) 60) 3000, ()), ())) ds us))) else (R24_9 n (u41_0 h0 2) (h2) ds us))) else (R24_9 n (h0) (h2) ds us))
def R24_9 : Nat → List Int × Int × Int × Unit → ByteArray × ByteArray × ByteArray × Unit → List Dyn → List (Option Lst) → Prop
  | 0, _, _, _, _ => False
  | n + 1, h0, h2, ds, us => ((P41 h0 24) ∧ (if (g41_0 h0 24) = true then ((P22 (u41_0 h0 24) 3) ∧ ((InR IntKind.i64 (399 + g22_0 (u41_0 h0 24) 3)) ∧ ((0 ≤ 399 + g22_0 (u41_0 h0 24) 3) ∧ (399 + g22_0 (u41_0 h0 24) 3 ≤ 399 + g22_0 (u41_0 h0 24) 3) ∧ (1 * (399 + g22_0 (u41_0 h0 24) 3) ≤ 281474976710656) ∧ (R24_11 n (u22_0 (u41_0 h0 24) 3) ((Prod.fst h2, Prod.fst (Prod.snd h2), bytesStr (List.replicate (Int.toNat (399 + g22_0 (u41_0 h0 24) 3)) 0), ())) ds us)))) else (R24_11 n (u41_0 h0 24) (h2) ds us)))
def R24_11 : Nat → List Int × Int × Int × Unit → ByteArray × ByteArray × ByteArray × Unit → List Dyn → List (Option Lst) → Prop
  | 0, _, _, _, _ => False
  | n + 1, h0, h2, ds, us => (ds = [Dyn.mk (Ty.cons Ty.str (Ty.cons Ty.str (Ty.cons Ty.str Ty.unit))) h2] ∧ us = [Option.some (Lst.mk (Ty.cons (Ty.sl (Ty.int IntKind.u8)) (Ty.cons (Ty.int IntKind.i64) (Ty.cons (Ty.int IntKind.u64) Ty.unit))) [h0])])
end
theorem snd24 : ∀ n, (∀ (x0 : List Int × Int × Int × Unit) ds us, R24 n x0 ds us → ∀ K q, AtV Tryz.prog 24 (PostR kds24 oks24 ds us [0] q K) 47 K q [0] [.code b24] (entE 0 0 sig24 (x0, ())) (entL sig24 (x0, ()))) ∧ (∀ (h0 : List Int × Int × Int × Unit) (h2 : ByteArray × ByteArray × ByteArray × Unit) ds us, R24_6 n h0 h2 ds us → ∀ K q, AtV Tryz.prog 24 (PostR kds24 oks24 ds us [0] q K) 47 K q [0] (cutAt b24 6) (E24_6 h0 h2) (L24_6 h0 h2)) ∧ (∀ (h0 : List Int × Int × Int × Unit) (h2 : ByteArray × ByteArray × ByteArray × Unit) ds us, R24_9 n h0 h2 ds us → ∀ K q, AtV Tryz.prog 24 (PostR kds24 oks24 ds us [0] q K) 47 K q [0] (cutAt b24 9) (E24_9 h0 h2) (L24_9 h0 h2)) ∧ (∀ (h0 : List Int × Int × Int × Unit) (h2 : ByteArray × ByteArray × ByteArray × Unit) ds us, R24_11 n h0 h2 ds us → ∀ K q, AtV Tryz.prog 24 (PostR kds24 oks24 ds us [0] q K) 47 K q [0] (cutAt b24 11) (E24_11 h0 h2) (L24_11 h0 h2)) := by
  intro n
  induction n with
  | zero => exact ⟨fun _ _ _ h => by simp only [R24] at h, fun _ _ _ _ h => by simp only [R24_6] at h, fun _ _ _ _ h => by simp only [R24_9] at h, fun _ _ _ _ h => by simp only [R24_11] at h⟩
  | succ n ih =>
  obtain ⟨ih, ih6, ih9, ih11⟩ := ih
  refine ⟨?_, ?_, ?_, ?_⟩
  · intro x0 ds us h K q
    rw [R24] at h
    obtain ⟨s0, h⟩ := h
    obtain ⟨s1, h⟩ := h
    obtain ⟨s2, h⟩ := h
    obtain ⟨s3, h⟩ := h
    by_cases b0 : (g41_0 (u40_0 (u40_0 (u40_0 x0 [ByteArray.mk #[99, 104, 101, 99, 107], ByteArray.mk #[110, 111, 116, 101], ByteArray.mk #[102, 97, 99, 101]]) [ByteArray.mk #[97], ByteArray.mk #[98], ByteArray.mk #[99], ByteArray.mk #[100]]) [ByteArray.mk #[], ByteArray.mk #[120], ByteArray.mk #[97, 32, 98, 32, 99], ByteArray.mk #[49, 50, 32, 51, 52], ByteArray.mk #[111, 97, 107, 47, 52, 48]]) 4) = true
    · rw [if_pos b0] at h
      obtain ⟨s4, h⟩ := h
      obtain ⟨s5, h⟩ := h
      exact AtV.go tabOk ext24Ok mixed false [6, 9, 11] [] [0, 2, 3] [0, 1, 3] [true] (a1 s0 (a1 s1 (a1 s2 (a1 s3 (a1 b0 (a1 s4 (a1 s5 trivial))))))) (ih6 _ _ _ _ h K q) (by kernel_rfl)
    · rw [if_neg b0] at h
      replace b0 := Bool.eq_false_iff.2 b0
      exact AtV.go tabOk ext24Ok mixed false [6, 9, 11] [] [0, 2, 3] [0, 1, 3] [false] (a1 s0 (a1 s1 (a1 s2 (a1 s3 (a1 b0 trivial))))) (ih6 _ _ _ _ h K q) (by kernel_rfl)

  · intro h0 h2 ds us h K q
    rw [R24_6] at h
    by_cases b0 : (ByteArray.toList (Prod.fst h2) == ByteArray.toList (ByteArray.mk #[99, 104, 101, 99, 107])) = true
    · rw [if_pos b0] at h
      obtain ⟨s0, h⟩ := h
      by_cases b1 : (g41_0 h0 2) = true
      · rw [if_pos b1] at h
        obtain ⟨s1, h⟩ := h
        obtain ⟨s2, h⟩ := h
        exact AtV.go tabOk ext24Ok mixed false [6, 9, 11] [] [0, 2, 3] [0, 1, 2] [true, true] (a1 b0 (a1 s0 (a1 b1 (a1 s1 (a1 s2 trivial))))) (ih9 _ _ _ _ h K q) (by kernel_rfl)
      · rw [if_neg b1] at h
        replace b1 := Bool.eq_false_iff.2 b1
        exact AtV.go tabOk ext24Ok mixed false [6, 9, 11] [] [0, 2, 3] [0, 1, 2] [true, false] (a1 b0 (a1 s0 (a1 b1 trivial))) (ih9 _ _ _ _ h K q) (by kernel_rfl)
    · rw [if_neg b0] at h
      replace b0 := Bool.eq_false_iff.2 b0
      exact AtV.go tabOk ext24Ok mixed false [6, 9, 11] [] [0, 2, 3] [0, 1, 2] [false, false] (a1 b0 (a1 (rfl : Bool.false = Bool.false) trivial)) (ih9 _ _ _ _ h K q) (by kernel_rfl)

  · intro h0 h2 ds us h K q
    rw [R24_9] at h
    obtain ⟨s0, h⟩ := h
    by_cases b0 : (g41_0 h0 24) = true
    · rw [if_pos b0] at h
      obtain ⟨s1, h⟩ := h
      obtain ⟨s2, h⟩ := h
      obtain ⟨s3, s4, s5, h⟩ := h
      exact AtV.go tabOk ext24Ok mixed false [6, 9, 11] [] [0, 2, 3] [0, 1, 2] [true] (a1 s0 (a1 b0 (a1 s1 (a1 s2 (a1 s3 (a1 s4 (a1 s5 trivial))))))) (ih11 _ _ _ _ h K q) (by kernel_rfl)
    · rw [if_neg b0] at h
      replace b0 := Bool.eq_false_iff.2 b0
      exact AtV.go tabOk ext24Ok mixed false [6, 9, 11] [] [0, 2, 3] [0, 1, 2] [false] (a1 s0 (a1 b0 trivial)) (ih11 _ _ _ _ h K q) (by kernel_rfl)

  · intro h0 h2 ds us h K q
    rw [R24_11] at h
    obtain ⟨h, h'⟩ := h; subst h; subst h'
    exact AtV.ret Tryz.func24 tabOk ext24Ok mixed false [6, 9, 11] tys24 [] trivial (by kernel_rfl)




def P24 (x0 : (List Int × Int × Int × Unit)) : Prop := SrcOk 900000000 x0
def Q24 (x0 : (List Int × Int × Int × Unit)) (y : (ByteArray × ByteArray × ByteArray × Unit)) (s : (List Int × Int × Int × Unit)) : Prop := SrcOk (x0.2.1 + 2000) s ∧ y.1 ∈ [ByteArray.mk #[99, 104, 101, 99, 107], ByteArray.mk #[110, 111, 116, 101], ByteArray.mk #[102, 97, 99, 101]] ∧ y.2.2.1.size ≤ 1100000 ∧ ∃ n, R24 n x0 [⟨(.cons .str (.cons .str (.cons .str .unit))), y⟩] [some ⟨(.cons (.sl (.int .u8)) (.cons (.int .i64) (.cons (.int .u64) .unit))), [s]⟩]

theorem end24 (n : Nat) {m : Int} {s : (List Int × Int × Int × Unit)} {b : (ByteArray × ByteArray × ByteArray × Unit)} (hs : SrcOk m s) (hm : m ≤ 2000000000) (h1 : b.1 ∈ [ByteArray.mk #[99, 104, 101, 99, 107], ByteArray.mk #[110, 111, 116, 101], ByteArray.mk #[102, 97, 99, 101]]) (h3 : b.2.2.1.size ≤ 1100000) :
    ∃ (y : (ByteArray × ByteArray × ByteArray × Unit)) (t : (List Int × Int × Int × Unit)), SrcOk (m + 10) t ∧ y.1 ∈ [ByteArray.mk #[99, 104, 101, 99, 107], ByteArray.mk #[110, 111, 116, 101], ByteArray.mk #[102, 97, 99, 101]] ∧ y.2.2.1.size ≤ 1100000 ∧ R24_9 (n + 2) s b [⟨(.cons .str (.cons .str (.cons .str .unit))), y⟩] [some ⟨(.cons (.sl (.int .u8)) (.cons (.int .i64) (.cons (.int .u64) .unit))), [t]⟩] := by
  obtain ⟨p1, s1⟩ := one_ok hs 24 (by omega)
  by_cases hc : g41_0 s 24 = true
  · obtain ⟨p2, s2, a, d, _⟩ := pick_ok s1 3 (by omega)
    have d := d (by decide)
    refine ⟨(b.1, b.2.1, bytesStr (List.replicate (Int.toNat (399 + g22_0 (u41_0 s 24) 3)) 0), ()), _, s2.up (by omega), h1, ?_, ?_⟩
    · show (bytesStr _).size ≤ 1100000
      rw [bytesStr_size, List.length_replicate]
      omega
    · rw [R24_9]
      refine ⟨p1, ?_⟩
      rw [if_pos hc]
      refine ⟨p2, by rw [i64_iff]; omega, by omega, by omega, by omega, ?_⟩
      rw [R24_11]
      exact ⟨rfl, rfl⟩
  · refine ⟨b, _, s1.up (by omega), h1, h3, ?_⟩
    rw [R24_9]
    refine ⟨p1, ?_⟩
    rw [if_neg hc, R24_11]
    exact ⟨rfl, rfl⟩

theorem mid24 (n : Nat) {m : Int} {s : (List Int × Int × Int × Unit)} {b : (ByteArray × ByteArray × ByteArray × Unit)} (hs : SrcOk m s) (hm : m ≤ 1500000000) (h1 : b.1 ∈ [ByteArray.mk #[99, 104, 101, 99, 107], ByteArray.mk #[110, 111, 116, 101], ByteArray.mk #[102, 97, 99, 101]]) (h2 : b.2.1.size ≤ 1000) (h3 : b.2.2.1.size ≤ 1100000) :
    ∃ (y : (ByteArray × ByteArray × ByteArray × Unit)) (t : (List Int × Int × Int × Unit)), SrcOk (m + 30) t ∧ y.1 ∈ [ByteArray.mk #[99, 104, 101, 99, 107], ByteArray.mk #[110, 111, 116, 101], ByteArray.mk #[102, 97, 99, 101]] ∧ y.2.2.1.size ≤ 1100000 ∧ R24_6 (n + 3) s b [⟨(.cons .str (.cons .str (.cons .str .unit))), y⟩] [some ⟨(.cons (.sl (.int .u8)) (.cons (.int .i64) (.cons (.int .u64) .unit))), [t]⟩] := by
  by_cases hk : (ByteArray.toList (Prod.fst b) == ByteArray.toList (ByteArray.mk #[99, 104, 101, 99, 107])) = true
  · obtain ⟨p1, s1⟩ := one_ok hs 2 (by omega)
    by_cases hc : g41_0 s 2 = true
    · obtain ⟨p2, s2, e, m1, ⟨m2, m3⟩, ⟨m4, m5⟩, m6, m7⟩ := draw_check s1 (by omega) b.2.1
      obtain ⟨q1, q2⟩ := text_check (x := g43_0 (u41_0 s 2) b.2.1) (by rw [e]; omega) (fun y hy => by
        simp only [List.mem_cons, List.mem_nil_iff, or_false] at hy m1
        rw [i64_iff]
        rcases hy with rfl | rfl | rfl | rfl <;> omega)
      obtain ⟨y, t, t1, t2, t3, t4⟩ := end24 n (b := (b.1, b.2.1, g44_0 (g43_0 (u41_0 s 2) b.2.1), ())) s2 (by omega) h1 (by show (g44_0 _).size ≤ _; omega)
      refine ⟨y, t, t1.up (by omega), t2, t3, ?_⟩
      rw [R24_6, if_pos hk, if_pos hc]
      exact ⟨p1, p2, q1, t4⟩
    · obtain ⟨y, t, t1, t2, t3, t4⟩ := end24 n s1 (by omega) h1 h3
      refine ⟨y, t, t1.up (by omega), t2, t3, ?_⟩
      rw [R24_6, if_pos hk, if_neg hc]
      exact ⟨p1, t4⟩
  · obtain ⟨y, t, t1, t2, t3, t4⟩ := end24 n hs (by omega) h1 h3
    refine ⟨y, t, t1.up (by omega), t2, t3, ?_⟩
    rw [R24_6, if_neg hk]
    exact t4

theorem ex24 (x0 : (List Int × Int × Int × Unit)) (h : P24 x0) : ∃ y s, Q24 x0 y s := by
  have h0 : x0.2.1 ≤ 900000000 := h.2.2
  obtain ⟨p1, s1, m1⟩ := text_ok (SrcOk.self h) [ByteArray.mk #[99, 104, 101, 99, 107], ByteArray.mk #[110, 111, 116, 101], ByteArray.mk #[102, 97, 99, 101]] (by decide) (by omega)
  obtain ⟨p2, s2, m2⟩ := text_ok s1 [ByteArray.mk #[97], ByteArray.mk #[98], ByteArray.mk #[99], ByteArray.mk #[100]] (by decide) (by omega)
  obtain ⟨p3, s3, m3⟩ := text_ok s2 [ByteArray.mk #[], ByteArray.mk #[120], ByteArray.mk #[97, 32, 98, 32, 99], ByteArray.mk #[49, 50, 32, 51, 52], ByteArray.mk #[111, 97, 107, 47, 52, 48]] (by decide) (by omega)
  obtain ⟨p4, s4⟩ := one_ok s3 4 (by omega)
  have z2 : (g40_0 (u40_0 x0 [ByteArray.mk #[99, 104, 101, 99, 107], ByteArray.mk #[110, 111, 116, 101], ByteArray.mk #[102, 97, 99, 101]]) [ByteArray.mk #[97], ByteArray.mk #[98], ByteArray.mk #[99], ByteArray.mk #[100]]).size ≤ 1000 := by
    have : ∀ z ∈ [ByteArray.mk #[97], ByteArray.mk #[98], ByteArray.mk #[99], ByteArray.mk #[100]], z.size ≤ 1000 := by decide
    exact this _ m2
  have z3 : (g40_0 (u40_0 (u40_0 x0 [ByteArray.mk #[99, 104, 101, 99, 107], ByteArray.mk #[110, 111, 116, 101], ByteArray.mk #[102, 97, 99, 101]]) [ByteArray.mk #[97], ByteArray.mk #[98], ByteArray.mk #[99], ByteArray.mk #[100]]) [ByteArray.mk #[], ByteArray.mk #[120], ByteArray.mk #[97, 32, 98, 32, 99], ByteArray.mk #[49, 50, 32, 51, 52], ByteArray.mk #[111, 97, 107, 47, 52, 48]]).size ≤ 1000 := by
    have : ∀ z ∈ [ByteArray.mk #[], ByteArray.mk #[120], ByteArray.mk #[97, 32, 98, 32, 99], ByteArray.mk #[49, 50, 32, 51, 52], ByteArray.mk #[111, 97, 107, 47, 52, 48]], z.size ≤ 1000 := by decide
    exact this _ m3
  by_cases hc : g41_0 (u40_0 (u40_0 (u40_0 x0 [ByteArray.mk #[99, 104, 101, 99, 107], ByteArray.mk #[110, 111, 116, 101], ByteArray.mk #[102, 97, 99, 101]]) [ByteArray.mk #[97], ByteArray.mk #[98], ByteArray.mk #[99], ByteArray.mk #[100]]) [ByteArray.mk #[], ByteArray.mk #[120], ByteArray.mk #[97, 32, 98, 32, 99], ByteArray.mk #[49, 50, 32, 51, 52], ByteArray.mk #[111, 97, 107, 47, 52, 48]]) 4 = true
  · obtain ⟨p5, s5, z5⟩ := word_ok s4 9 (by omega) (by omega)
    obtain ⟨y, t, t1, t2, t3, t4⟩ := mid24 0 (b := (g40_0 x0 [ByteArray.mk #[99, 104, 101, 99, 107], ByteArray.mk #[110, 111, 116, 101], ByteArray.mk #[102, 97, 99, 101]], g40_0 (u40_0 x0 [ByteArray.mk #[99, 104, 101, 99, 107], ByteArray.mk #[110, 111, 116, 101], ByteArray.mk #[102, 97, 99, 101]]) [ByteArray.mk #[97], ByteArray.mk #[98], ByteArray.mk #[99], ByteArray.mk #[100]], g40_0 (u40_0 (u40_0 x0 [ByteArray.mk #[99, 104, 101, 99, 107], ByteArray.mk #[110, 111, 116, 101], ByteArray.mk #[102, 97, 99, 101]]) [ByteArray.mk #[97], ByteArray.mk #[98], ByteArray.mk #[99], ByteArray.mk #[100]]) [ByteArray.mk #[], ByteArray.mk #[120], ByteArray.mk #[97, 32, 98, 32, 99], ByteArray.mk #[49, 50, 32, 51, 52], ByteArray.mk #[111, 97, 107, 47, 52, 48]] ++ g42_0 (u41_0 (u40_0 (u40_0 (u40_0 x0 [ByteArray.mk #[99, 104, 101, 99, 107], ByteArray.mk #[110, 111, 116, 101], ByteArray.mk #[102, 97, 99, 101]]) [ByteArray.mk #[97], ByteArray.mk #[98], ByteArray.mk #[99], ByteArray.mk #[100]]) [ByteArray.mk #[], ByteArray.mk #[120], ByteArray.mk #[97, 32, 98, 32, 99], ByteArray.mk #[49, 50, 32, 51, 52], ByteArray.mk #[111, 97, 107, 47, 52, 48]]) 4) 9, ())) s5 (by omega) m1 z2 (by refine Nat.le_trans (Nat.le_of_eq ByteArray.size_append) ?_; omega)
    refine ⟨y, t, t1.up (by omega), t2, t3, 4, ?_⟩
    rw [R24]
    refine ⟨p1, p2, p3, p4, ?_⟩
    rw [if_pos hc]
    exact ⟨p5, by omega, t4⟩
  · obtain ⟨y, t, t1, t2, t3, t4⟩ := mid24 0 (b := (g40_0 x0 [ByteArray.mk #[99, 104, 101, 99, 107], ByteArray.mk #[110, 111, 116, 101], ByteArray.mk #[102, 97, 99, 101]], g40_0 (u40_0 x0 [ByteArray.mk #[99, 104, 101, 99, 107], ByteArray.mk #[110, 111, 116, 101], ByteArray.mk #[102, 97, 99, 101]]) [ByteArray.mk #[97], ByteArray.mk #[98], ByteArray.mk #[99], ByteArray.mk #[100]], g40_0 (u40_0 (u40_0 x0 [ByteArray.mk #[99, 104, 101, 99, 107], ByteArray.mk #[110, 111, 116, 101], ByteArray.mk #[102, 97, 99, 101]]) [ByteArray.mk #[97], ByteArray.mk #[98], ByteArray.mk #[99], ByteArray.mk #[100]]) [ByteArray.mk #[], ByteArray.mk #[120], ByteArray.mk #[97, 32, 98, 32, 99], ByteArray.mk #[49, 50, 32, 51, 52], ByteArray.mk #[111, 97, 107, 47, 52, 48]], ())) s4 (by omega) m1 z2 (by show (g40_0 _ _).size ≤ _; omega)
    refine ⟨y, t, t1.up (by omega), t2, t3, 4, ?_⟩
    rw [R24]
    refine ⟨p1, p2, p3, p4, ?_⟩
    rw [if_neg hc]
    exact t4

def g24_0 (x0 : (List Int × Int × Int × Unit)) : (ByteArray × ByteArray × ByteArray × Unit) := (sel2 (ByteArray.empty, ByteArray.empty, ByteArray.empty, ()) x0 (Q24 x0)).1
def u24_0 (x0 : (List Int × Int × Int × Unit)) : (List Int × Int × Int × Unit) := (sel2 (ByteArray.empty, ByteArray.empty, ByteArray.empty, ()) x0 (Q24 x0)).2
theorem q24 (x0 : (List Int × Int × Int × Unit)) (h : P24 x0) : Q24 x0 (g24_0 x0) (u24_0 x0) := by
  obtain ⟨y, s, hq⟩ := ex24 x0 h
  exact sel2_spec hq

def S24 : Am.Spec := { sig := sig24, pre := fun ⟨x0, _⟩ => P24 x0, upd := fun ⟨x0, _⟩ => [some ⟨(.cons (.sl (.int .u8)) (.cons (.int .i64) (.cons (.int .u64) .unit))), [u24_0 x0]⟩], res := fun ⟨x0, _⟩ => [⟨(.cons .str (.cons .str (.cons .str .unit))), g24_0 x0⟩], kds := kds24 }
theorem con24 : Contract Tryz.prog 24 S24 := contract_of Tryz.func24 hb24 (Nat.le_of_ble_eq_true (by kernel_rfl)) (fun ⟨x0, _⟩ h hwf K q =>
  let ⟨n, hn⟩ := (q24 x0 h).2.2.2
  (snd24 n).1 x0 _ _ hn K q)

end
end Go.Proofs.YtalgkffjceljiaaGreatDoor

/- Function 66 (spec.l01Small): its runs between cut points. Written by a program of this repo (gen). -/
set_option linter.unusedVariables false
set_option linter.unusedSimpArgs false
set_option maxRecDepth 100000
namespace Go.Proofs.YtalgkffjceljiaaGreatDoor
open Go Go.Am Go.Proofs
noncomputable section
def ext66 : Ext := []
theorem ext66Ok : ExtOk Tryz.prog ext66 := trivial

noncomputable def b66 : Code := bodyOf Tryz.f66
theorem hb66 : Tryz.f66.body = some b66 := by kernel_rfl
def sig66 : List AT := [AT.v (Ty.int IntKind.u8)]
def tys66 : List Ty := [Ty.bool]
def kds66 : List RK := []
def oks66 : List AT := owns sig66
def P66 (x0 : Int) : Prop := True
def g66_0 (x0 : Int) : Bool := (if (Decidable.decide (x0 ≥ 97)) = true then Decidable.decide (x0 ≤ 122) else Bool.false)
theorem at66 (x0 : Int) (h : P66 x0) (K : Ctx) (q : Nat → Value) : AtV Tryz.prog 66 (PostR kds66 oks66 [⟨Ty.bool, g66_0 x0⟩] [] [] q K) 9 K q [] [.code b66] (entE 0 0 sig66 (x0, ())) (entL sig66 (x0, ())) := by
  unfold P66 at h
  unfold g66_0
  by_cases b0 : (Decidable.decide (x0 ≥ 97)) = true
  · try simp only [if_pos b0] at h ⊢
    exact AtV.ret Tryz.func66 tabOk ext66Ok mixed false [] tys66 [true] (a1 b0 trivial) (by kernel_rfl)
  · try simp only [if_neg b0] at h ⊢
    replace b0 := Bool.eq_false_iff.2 b0
    exact AtV.ret Tryz.func66 tabOk ext66Ok mixed false [] tys66 [false] (a1 b0 trivial) (by kernel_rfl)

def S66 : Am.Spec := { sig := sig66, pre := fun ⟨x0, _⟩ => P66 x0, res := fun ⟨x0, _⟩ => [⟨Ty.bool, g66_0 x0⟩], kds := kds66 }
theorem con66 : Contract Tryz.prog 66 S66 := contract_of Tryz.func66 hb66 (Nat.le_of_ble_eq_true (by kernel_rfl)) (fun ⟨x0, _⟩ h _ K q => at66 x0 h K q)


end
end Go.Proofs.YtalgkffjceljiaaGreatDoor

/- Function 67 (spec.l01Digit): its runs between cut points. Written by a program of this repo (gen). -/
set_option linter.unusedVariables false
set_option linter.unusedSimpArgs false
set_option maxRecDepth 100000
namespace Go.Proofs.YtalgkffjceljiaaGreatDoor
open Go Go.Am Go.Proofs
noncomputable section
def ext67 : Ext := []
theorem ext67Ok : ExtOk Tryz.prog ext67 := trivial

noncomputable def b67 : Code := bodyOf Tryz.f67
theorem hb67 : Tryz.f67.body = some b67 := by kernel_rfl
def sig67 : List AT := [AT.v (Ty.int IntKind.u8)]
def tys67 : List Ty := [Ty.bool]
def kds67 : List RK := []
def oks67 : List AT := owns sig67
def P67 (x0 : Int) : Prop := True
def g67_0 (x0 : Int) : Bool := (if (Decidable.decide (x0 ≥ 48)) = true then Decidable.decide (x0 ≤ 57) else Bool.false)
theorem at67 (x0 : Int) (h : P67 x0) (K : Ctx) (q : Nat → Value) : AtV Tryz.prog 67 (PostR kds67 oks67 [⟨Ty.bool, g67_0 x0⟩] [] [] q K) 9 K q [] [.code b67] (entE 0 0 sig67 (x0, ())) (entL sig67 (x0, ())) := by
  unfold P67 at h
  unfold g67_0
  by_cases b0 : (Decidable.decide (x0 ≥ 48)) = true
  · try simp only [if_pos b0] at h ⊢
    exact AtV.ret Tryz.func67 tabOk ext67Ok mixed false [] tys67 [true] (a1 b0 trivial) (by kernel_rfl)
  · try simp only [if_neg b0] at h ⊢
    replace b0 := Bool.eq_false_iff.2 b0
    exact AtV.ret Tryz.func67 tabOk ext67Ok mixed false [] tys67 [false] (a1 b0 trivial) (by kernel_rfl)

def S67 : Am.Spec := { sig := sig67, pre := fun ⟨x0, _⟩ => P67 x0, res := fun ⟨x0, _⟩ => [⟨Ty.bool, g67_0 x0⟩], kds := kds67 }
theorem con67 : Contract Tryz.prog 67 S67 := contract_of Tryz.func67 hb67 (Nat.le_of_ble_eq_true (by kernel_rfl)) (fun ⟨x0, _⟩ h _ K q => at67 x0 h K q)


end
end Go.Proofs.YtalgkffjceljiaaGreatDoor

/- Function 45 (spec.l01Name): its runs between cut points. Written by a program of this repo (gen). -/
set_option linter.unusedVariables false
set_option linter.unusedSimpArgs false
set_option maxRecDepth 100000
namespace Go.Proofs.YtalgkffjceljiaaGreatDoor
open Go Go.Am Go.Proofs
noncomputable section
def ext45 : Ext := [(66, S66), (67, S67)]
theorem call45_66 : Callable Tryz.prog 66 := ⟨Tryz.f66, Tryz.func66, by kernel_rfl, by kernel_rfl⟩
theorem call45_67 : Callable Tryz.prog 67 := ⟨Tryz.f67, Tryz.func67, by kernel_rfl, by kernel_rfl⟩
theorem ext45Ok : ExtOk Tryz.prog ext45 := ⟨⟨call45_66, con66⟩, ⟨call45_67, con67⟩, trivial⟩

noncomputable def b45 : Code := bodyOf Tryz.f45
theorem hb45 : Tryz.f45.body = some b45 := by kernel_rfl
def sig45 : List AT := [AT.v (Ty.str)]
def tys45 : List Ty := [Ty.bool]
def kds45 : List RK := []
def oks45 : List AT := owns sig45
def E45_4 (v3 : Int) (x0 : ByteArray) : Env := [(0, PV.a (Atom.val (Value.string x0))), (3, PV.a (Atom.val (Value.int IntKind.i64 v3)))]
def L45_4 (v3 : Int) (x0 : ByteArray) : Heap := []
mutual
def R45 : Nat → ByteArray → List Dyn → Prop
  | 0, _, _ => False
  | n + 1, x0, ds => (if (ByteArray.toList x0 == ByteArray.toList (ByteArray.mk #[])) = true then (ds = [Dyn.mk Ty.bool Bool.false]) else (if (Decidable.decide ((↑(ByteArray.size x0) : Int) > 10)) = true then (ds = [Dyn.mk Ty.bool Bool.false]) else ((0 < (↑(ByteArray.size x0) : Int)) ∧ (if (!g66_0 (↑(UInt8.toNat (List.getD (Array.toList (ByteArray.data x0)) 0 0)) : Int)) = true then (ds = [Dyn.mk Ty.bool Bool.false]) else (R45_4 n (0) (x0) ds)))))
def R45_4 : Nat → Int → ByteArray → List Dyn → Prop
  | 0, _, _, _ => False
  | n + 1, v3, x0, ds => (if (Decidable.decide (v3 < (↑(ByteArray.size x0) : Int))) = true then ((0 ≤ v3) ∧ (v3 < (↑(ByteArray.size x0) : Int)) ∧ (if (!g66_0 (↑(UInt8.toNat (List.getD (Array.toList (ByteArray.data x0)) (Int.toNat v3) 0)) : Int)) = true then ((0 ≤ v3) ∧ (v3 < (↑(ByteArray.size x0) : Int)) ∧ (if (!g67_0 (↑(UInt8.toNat (List.getD (Array.toList (ByteArray.data x0)) (Int.toNat v3) 0)) : Int)) = true then (ds = [Dyn.mk Ty.bool Bool.false]) else ((InR IntKind.i64 (v3 + 1)) ∧ (R45_4 n (v3 + 1) (x0) ds)))) else ((InR IntKind.i64 (v3 + 1)) ∧ (R45_4 n (v3 + 1) (x0) ds)))) else (ds = [Dyn.mk Ty.bool Bool.true]))
end
theorem snd45 : ∀ n, (∀ (x0 : ByteArray) ds, R45 n x0 ds → ∀ K q, AtV Tryz.prog 45 (PostR kds45 oks45 ds [] [] q K) 35 K q [] [.code b45] (entE 0 0 sig45 (x0, ())) (entL sig45 (x0, ()))) ∧ (∀ (v3 : Int) (x0 : ByteArray) ds, R45_4 n v3 x0 ds → ∀ K q, AtV Tryz.prog 45 (PostR kds45 oks45 ds [] [] q K) 35 K q [] (cutAt b45 4) (E45_4 v3 x0) (L45_4 v3 x0)) := by
  intro n
  induction n with
  | zero => exact ⟨fun _ _ h => by simp only [R45] at h, fun _ _ _ h => by simp only [R45_4] at h⟩
  | succ n ih =>
  obtain ⟨ih, ih4⟩ := ih
  refine ⟨?_, ?_⟩
  · intro x0 ds h K q
    rw [R45] at h
    by_cases b0 : (ByteArray.toList x0 == ByteArray.toList (ByteArray.mk #[])) = true
    · rw [if_pos b0] at h
      subst h
      exact AtV.ret Tryz.func45 tabOk ext45Ok mixed false [] tys45 [true, true, true] (a1 b0 (a1 (rfl : Bool.true = Bool.true) (a1 (rfl : Bool.true = Bool.true) trivial))) (by kernel_rfl)
    · rw [if_neg b0] at h
      replace b0 := Bool.eq_false_iff.2 b0
      by_cases b1 : (Decidable.decide ((↑(ByteArray.size x0) : Int) > 10)) = true
      · rw [if_pos b1] at h
        subst h
        exact AtV.ret Tryz.func45 tabOk ext45Ok mixed false [] tys45 [false, true, true] (a1 b0 (a1 b1 (a1 (rfl : Bool.true = Bool.true) trivial))) (by kernel_rfl)
      · rw [if_neg b1] at h
        replace b1 := Bool.eq_false_iff.2 b1
        obtain ⟨s0, h⟩ := h
        by_cases b2 : (!g66_0 (↑(UInt8.toNat (List.getD (Array.toList (ByteArray.data x0)) 0 0)) : Int)) = true
        · rw [if_pos b2] at h
          subst h
          exact AtV.ret Tryz.func45 tabOk ext45Ok mixed false [] tys45 [false, false, true] (a1 b0 (a1 b1 (a1 ((by decide) : (0 : Int) ≤ (0 : Int)) (a1 s0 (a1 trivial (a1 b2 trivial)))))) (by kernel_rfl)
        · rw [if_neg b2] at h
          replace b2 := Bool.eq_false_iff.2 b2
          exact AtV.go tabOk ext45Ok mixed false [] [] [0, 3] [] [false, false, false] (a1 b0 (a1 b1 (a1 ((by decide) : (0 : Int) ≤ (0 : Int)) (a1 s0 (a1 trivial (a1 b2 trivial)))))) (ih4 _ _ _ h K q) (by kernel_rfl)

  · intro v3 x0 ds h K q
    rw [R45_4] at h
    by_cases b0 : (Decidable.decide (v3 < (↑(ByteArray.size x0) : Int))) = true
    · rw [if_pos b0] at h
      obtain ⟨s0, s1, h⟩ := h
      by_cases b1 : (!g66_0 (↑(UInt8.toNat (List.getD (Array.toList (ByteArray.data x0)) (Int.toNat v3) 0)) : Int)) = true
      · rw [if_pos b1] at h
        obtain ⟨s2, s3, h⟩ := h
        by_cases b2 : (!g67_0 (↑(UInt8.toNat (List.getD (Array.toList (ByteArray.data x0)) (Int.toNat v3) 0)) : Int)) = true
        · rw [if_pos b2] at h
          subst h
          exact AtV.ret Tryz.func45 tabOk ext45Ok mixed false [] tys45 [true, true, true] (a1 b0 (a1 s0 (a1 s1 (a1 trivial (a1 b1 (a1 s2 (a1 s3 (a1 trivial (a1 b2 trivial))))))))) (by kernel_rfl)
        · rw [if_neg b2] at h
          replace b2 := Bool.eq_false_iff.2 b2
          obtain ⟨s4, h⟩ := h
          exact AtV.go tabOk ext45Ok mixed false [] [] [0, 3] [] [true, true, false] (a1 b0 (a1 s0 (a1 s1 (a1 trivial (a1 b1 (a1 s2 (a1 s3 (a1 trivial (a1 b2 (a1 s4 trivial)))))))))) (ih4 _ _ _ h K q) (by kernel_rfl)
      · rw [if_neg b1] at h
        replace b1 := Bool.eq_false_iff.2 b1
        obtain ⟨s2, h⟩ := h
        exact AtV.go tabOk ext45Ok mixed false [] [] [0, 3] [] [true, false, false] (a1 b0 (a1 s0 (a1 s1 (a1 trivial (a1 b1 (a1 (rfl : Bool.false = Bool.false) (a1 s2 trivial))))))) (ih4 _ _ _ h K q) (by kernel_rfl)
    · rw [if_neg b0] at h
      replace b0 := Bool.eq_false_iff.2 b0
      subst h
      exact AtV.ret Tryz.func45 tabOk ext45Ok mixed false [] tys45 [false] (a1 b0 trivial) (by kernel_rfl)



def g45_0 (x0 : ByteArray) : Bool := decide (1 ≤ x0.size) && decide (x0.size ≤ 10) && g66_0 ((bytesOf x0).getD 0 0) && (bytesOf x0).all fun b => g66_0 b || g67_0 b
def P45 (x0 : ByteArray) : Prop := True

theorem top45 (x0 : ByteArray) (hw : Wf .str x0) : R45 (x0.size + 1 + 1) x0 [⟨.bool, g45_0 x0⟩] := by
  have hl := bytesOf_length x0
  rw [R45]
  by_cases h0 : x0 = ByteArray.mk #[]
  · rw [if_pos ((bytes_eq _ _).2 h0)]
    subst h0
    rfl
  · rw [if_neg (fun h => h0 ((bytes_eq _ _).1 h))]
    have hs : 1 ≤ x0.size := by
      rcases Nat.lt_or_ge 0 x0.size with h | h
      · exact h
      · exact absurd (bytesOf_inj (s := x0) (t := ByteArray.mk #[]) (List.eq_nil_of_length_eq_zero (by rw [hl]; omega))) h0
    by_cases h1 : (x0.size : Int) > 10
    · rw [if_pos (by simpa using h1)]
      have : ¬ x0.size ≤ 10 := by omega
      simp [g45_0, this]
    · rw [if_neg (by simpa using h1)]
      refine ⟨by omega, ?_⟩
      rw [byte_get]
      cases h2 : g66_0 ((bytesOf x0).getD 0 0) with
      | false =>
        rw [if_pos (by simp)]
        simp [g45_0, h2, -List.getD_eq_getElem?_getD]
      | true =>
        rw [if_neg (by simp)]
        have key := loop_test (bytesOf x0) 0 (fun b => g66_0 b || g67_0 b) [(⟨.bool, false⟩ : Dyn)] [⟨.bool, true⟩] (fun n i ds => R45_4 n i x0 ds) (fun n => ?_) (fun n i hi hok ds hr => ?_) (fun n i hi hok => ?_)
        · rw [hl] at key
          have e : g45_0 x0 = (bytesOf x0).all fun b => g66_0 b || g67_0 b := by
            have : x0.size ≤ 10 := by omega
            unfold g45_0
            simp only [hs, this, decide_true, Bool.true_and, h2]
          rw [e]
          cases h : (bytesOf x0).all fun b => g66_0 b || g67_0 b with
          | true => rw [if_pos h] at key; exact key
          | false => rw [if_neg (by rw [h]; simp)] at key; exact key
        · show R45_4 (n + 1) ((bytesOf x0).length : Int) x0 _
          rw [R45_4, hl, if_neg (by simp)]
        · rw [R45_4, if_pos (by simp; omega)]
          simp only [Int.toNat_natCast, byte_get]
          generalize (bytesOf x0).getD i 0 = c at *
          refine ⟨by omega, by omega, ?_⟩
          have hu := inR_up (xs := bytesOf x0) (by rw [hl]; exact hw) hi
          cases h3 : g66_0 c with
          | true => rw [if_neg (by simp)]; exact ⟨hu, hr⟩
          | false =>
            rw [if_pos (by simp)]
            rw [h3, Bool.false_or] at hok
            refine ⟨by omega, by omega, ?_⟩
            rw [if_neg (by rw [hok]; simp)]
            exact ⟨hu, hr⟩
        · simp only [Bool.or_eq_false_iff] at hok
          rw [R45_4, if_pos (by simp; omega)]
          simp only [Int.toNat_natCast, byte_get]
          refine ⟨by omega, by omega, ?_⟩
          rw [if_pos (by rw [hok.1]; rfl)]
          refine ⟨by omega, by omega, ?_⟩
          rw [if_pos (by rw [hok.2]; rfl)] <;> trivial

def S45 : Am.Spec := { sig := sig45, pre := fun ⟨x0, _⟩ => P45 x0, res := fun ⟨x0, _⟩ => [⟨Ty.bool, g45_0 x0⟩] }
theorem con45 : Contract Tryz.prog 45 S45 := contract_of Tryz.func45 hb45 (Nat.le_of_ble_eq_true (by kernel_rfl)) (fun ⟨x0, _⟩ h hwf K q =>
  (snd45 _).1 x0 _ (top45 x0 hwf.1) K q)

end
end Go.Proofs.YtalgkffjceljiaaGreatDoor

/- Function 25 (spec.l29One): its runs between cut points. Written by a program of this repo (gen). -/
set_option linter.unusedVariables false
set_option linter.unusedSimpArgs false
set_option maxRecDepth 100000
namespace Go.Proofs.YtalgkffjceljiaaGreatDoor
open Go Go.Am Go.Proofs
noncomputable section
def ext25 : Ext := [(45, S45)]
theorem call25_45 : Callable Tryz.prog 45 := ⟨Tryz.f45, Tryz.func45, by kernel_rfl, by kernel_rfl⟩
theorem ext25Ok : ExtOk Tryz.prog ext25 := ⟨⟨call25_45, con45⟩, trivial⟩

noncomputable def b25 : Code := bodyOf Tryz.f25
theorem hb25 : Tryz.f25.body = some b25 := by kernel_rfl
def sig25 : List AT := [AT.p (Ty.cons Ty.str (Ty.cons Ty.str (Ty.cons Ty.str Ty.unit)))]
def tys25 : List Ty := [Ty.bool]
def kds25 : List RK := []
def oks25 : List AT := owns sig25
def E25_2 (v3 : Int) (x0 : ByteArray × ByteArray × ByteArray × Unit) : Env := [(0, PV.a (Atom.ptr (Ty.cons Ty.str (Ty.cons Ty.str (Ty.cons Ty.str Ty.unit))) x0)), (3, PV.a (Atom.val (Value.int IntKind.i64 v3)))]
def L25_2 (v3 : Int) (x0 : ByteArray × ByteArray × ByteArray × Unit) : Heap := []
mutual
def R25 : Nat → ByteArray × ByteArray × ByteArray × Unit → List Dyn → Prop
  | 0, _, _ => False
  | n + 1, x0, ds => (R25_2 n (0) (x0) ds)
def R25_2 : Nat → Int → ByteArray × ByteArray × ByteArray × Unit → List Dyn → Prop
  | 0, _, _, _ => False
  | n + 1, v3, x0, ds => (if (Decidable.decide (v3 < (↑(ByteArray.size (Prod.fst (Prod.snd (Prod.snd x0)))) : Int))) = true then ((0 ≤ v3) ∧ (v3 < (↑(ByteArray.size (Prod.fst (Prod.snd (Prod.snd x0)))) : Int)) ∧ (if ((↑(UInt8.toNat (List.getD (Array.toList (ByteArray.data (Prod.fst (Prod.snd (Prod.snd x0))))) (Int.toNat v3) 0)) : Int) == 10) = true then (ds = [Dyn.mk Ty.bool Bool.false]) else ((InR IntKind.i64 (v3 + 1)) ∧ (R25_2 n (v3 + 1) (x0) ds)))) else (if (g45_0 (Prod.fst x0)) = true then (if (g45_0 (Prod.fst (Prod.snd x0))) = true then (ds = [Dyn.mk Ty.bool (Decidable.decide ((↑(ByteArray.size (Prod.fst (Prod.snd (Prod.snd x0)))) : Int) ≤ 400))]) else (ds = [Dyn.mk Ty.bool Bool.false])) else (ds = [Dyn.mk Ty.bool Bool.false])))
end
theorem snd25 : ∀ n, (∀ (x0 : ByteArray × ByteArray × ByteArray × Unit) ds, R25 n x0 ds → ∀ K q, AtV Tryz.prog 25 (PostR kds25 oks25 ds [] [] q K) 40 K q [] [.code b25] (entE 0 0 sig25 (x0, ())) (entL sig25 (x0, ()))) ∧ (∀ (v3 : Int) (x0 : ByteArray × ByteArray × ByteArray × Unit) ds, R25_2 n v3 x0 ds → ∀ K q, AtV Tryz.prog 25 (PostR kds25 oks25 ds [] [] q K) 40 K q [] (cutAt b25 2) (E25_2 v3 x0) (L25_2 v3 x0)) := by
  intro n
  induction n with
  | zero => exact ⟨fun _ _ h => by simp only [R25] at h, fun _ _ _ h => by simp only [R25_2] at h⟩
  | succ n ih =>
  obtain ⟨ih, ih2⟩ := ih
  refine ⟨?_, ?_⟩
  · intro x0 ds h K q
    rw [R25] at h
    exact AtV.go tabOk ext25Ok mixed false [] [] [0, 3] [] [] trivial (ih2 _ _ _ h K q) (by kernel_rfl)

  · intro v3 x0 ds h K q
    rw [R25_2] at h
    by_cases b0 : (Decidable.decide (v3 < (↑(ByteArray.size (Prod.fst (Prod.snd (Prod.snd x0)))) : Int))) = true
    · rw [if_pos b0] at h
      obtain ⟨s0, s1, h⟩ := h
      by_cases b1 : ((↑(UInt8.toNat (List.getD (Array.toList (ByteArray.data (Prod.fst (Prod.snd (Prod.snd x0))))) (Int.toNat v3) 0)) : Int) == 10) = true
      · rw [if_pos b1] at h
        subst h
        exact AtV.ret Tryz.func25 tabOk ext25Ok mixed false [] tys25 [true, true] (a1 b0 (a1 s0 (a1 s1 (a1 b1 trivial)))) (by kernel_rfl)
      · rw [if_neg b1] at h
        replace b1 := Bool.eq_false_iff.2 b1
        obtain ⟨s2, h⟩ := h
        exact AtV.go tabOk ext25Ok mixed false [] [] [0, 3] [] [true, false] (a1 b0 (a1 s0 (a1 s1 (a1 b1 (a1 s2 trivial))))) (ih2 _ _ _ h K q) (by kernel_rfl)
    · rw [if_neg b0] at h
      replace b0 := Bool.eq_false_iff.2 b0
      by_cases b1 : (g45_0 (Prod.fst x0)) = true
      · rw [if_pos b1] at h
        by_cases b2 : (g45_0 (Prod.fst (Prod.snd x0))) = true
        · rw [if_pos b2] at h
          subst h
          exact AtV.ret Tryz.func25 tabOk ext25Ok mixed false [] tys25 [false, true, true] (a1 b0 (a1 trivial (a1 b1 (a1 trivial (a1 b2 trivial))))) (by kernel_rfl)
        · rw [if_neg b2] at h
          replace b2 := Bool.eq_false_iff.2 b2
          subst h
          exact AtV.ret Tryz.func25 tabOk ext25Ok mixed false [] tys25 [false, true, false] (a1 b0 (a1 trivial (a1 b1 (a1 trivial (a1 b2 trivial))))) (by kernel_rfl)
      · rw [if_neg b1] at h
        replace b1 := Bool.eq_false_iff.2 b1
        subst h
        exact AtV.ret Tryz.func25 tabOk ext25Ok mixed false [] tys25 [false, false, false] (a1 b0 (a1 trivial (a1 b1 (a1 (rfl : Bool.false = Bool.false) trivial)))) (by kernel_rfl)



def g25_0 (x0 : ByteArray × ByteArray × ByteArray × Unit) : Bool := (bytesOf x0.2.2.1).all (fun b => !(b == 10)) && g45_0 x0.1 && g45_0 x0.2.1 && decide (x0.2.2.1.size ≤ 400)
def P25 (x0 : ByteArray × ByteArray × ByteArray × Unit) : Prop := True

theorem top25 (x0 : ByteArray × ByteArray × ByteArray × Unit) (hw : Wf (.cons .str (.cons .str (.cons .str .unit))) x0) : R25 (x0.2.2.1.size + 1 + 1) x0 [⟨.bool, g25_0 x0⟩] := by
  have hl := bytesOf_length x0.2.2.1
  have hw3 : Wf .str x0.2.2.1 := hw.2.2.1
  rw [R25]
  have key := loop_test (bytesOf x0.2.2.1) 0 (fun b => !(b == 10)) [(⟨.bool, false⟩ : Dyn)] [⟨.bool, g45_0 x0.1 && g45_0 x0.2.1 && decide (x0.2.2.1.size ≤ 400)⟩] (fun n i ds => R25_2 n i x0 ds) (fun n => ?_) (fun n i hi hok ds hr => ?_) (fun n i hi hok => ?_)
  · rw [hl] at key
    unfold g25_0
    cases h : (bytesOf x0.2.2.1).all fun b => !(b == 10) with
    | true => rw [if_pos h] at key; simpa using key
    | false => rw [if_neg (by rw [h]; simp)] at key; simpa using key
  · show R25_2 (n + 1) ((bytesOf x0.2.2.1).length : Int) x0 _
    rw [R25_2, hl, if_neg (by simp)]
    have hc : decide ((x0.2.2.1.size : Int) ≤ 400) = decide (x0.2.2.1.size ≤ 400) := by
      congr 1; exact propext ⟨fun h => by omega, fun h => by omega⟩
    rw [hc]
    cases g45_0 x0.1 <;> cases g45_0 x0.2.1 <;> simp
  · rw [R25_2, if_pos (by simp; omega)]
    simp only [Int.toNat_natCast, byte_get]
    refine ⟨by omega, by omega, ?_⟩
    rw [if_neg (by intro h; rw [h] at hok; cases hok)]
    exact ⟨inR_up (xs := bytesOf x0.2.2.1) (by rw [hl]; exact hw3) hi, hr⟩
  · rw [R25_2, if_pos (by simp; omega)]
    simp only [Int.toNat_natCast, byte_get]
    refine ⟨by omega, by omega, ?_⟩
    rw [if_pos (by rw [Bool.not_eq_false'] at hok; exact hok)] <;> trivial

def S25 : Am.Spec := { sig := sig25, pre := fun ⟨x0, _⟩ => P25 x0, res := fun ⟨x0, _⟩ => [⟨Ty.bool, g25_0 x0⟩] }
theorem con25 : Contract Tryz.prog 25 S25 := contract_of Tryz.func25 hb25 (Nat.le_of_ble_eq_true (by kernel_rfl)) (fun ⟨x0, _⟩ h hwf K q =>
  (snd25 _).1 x0 _ (top25 x0 hwf.1) K q)

end
end Go.Proofs.YtalgkffjceljiaaGreatDoor

/- Function 26 (spec.l29Before): its runs between cut points. Written by a program of this repo (gen). -/
set_option linter.unusedVariables false
set_option linter.unusedSimpArgs false
set_option maxRecDepth 100000
namespace Go.Proofs.YtalgkffjceljiaaGreatDoor
open Go Go.Am Go.Proofs
noncomputable section
def ext26 : Ext := []
theorem ext26Ok : ExtOk Tryz.prog ext26 := trivial

noncomputable def b26 : Code := bodyOf Tryz.f26
theorem hb26 : Tryz.f26.body = some b26 := by kernel_rfl
def sig26 : List AT := [AT.p (Ty.cons Ty.str (Ty.cons Ty.str (Ty.cons Ty.str Ty.unit))), AT.p (Ty.cons Ty.str (Ty.cons Ty.str (Ty.cons Ty.str Ty.unit)))]
def tys26 : List Ty := [Ty.bool]
def kds26 : List RK := []
def oks26 : List AT := owns sig26
def P26 (x0 : ByteArray × ByteArray × ByteArray × Unit) (x1 : ByteArray × ByteArray × ByteArray × Unit) : Prop := True
def g26_0 (x0 : ByteArray × ByteArray × ByteArray × Unit) (x1 : ByteArray × ByteArray × ByteArray × Unit) : Bool := (if (Op.bytesLess (ByteArray.toList (Prod.fst x0)) (ByteArray.toList (Prod.fst x1))) = true then Bool.true else (if (ByteArray.toList (Prod.fst x0) == ByteArray.toList (Prod.fst x1)) = true then Op.bytesLess (ByteArray.toList (Prod.fst (Prod.snd x0))) (ByteArray.toList (Prod.fst (Prod.snd x1))) else Bool.false))
theorem at26 (x0 : ByteArray × ByteArray × ByteArray × Unit) (x1 : ByteArray × ByteArray × ByteArray × Unit) (h : P26 x0 x1) (K : Ctx) (q : Nat → Value) : AtV Tryz.prog 26 (PostR kds26 oks26 [⟨Ty.bool, g26_0 x0 x1⟩] [] [] q K) 36 K q [] [.code b26] (entE 0 0 sig26 (x0, x1, ())) (entL sig26 (x0, x1, ())) := by
  unfold P26 at h
  unfold g26_0
  by_cases b0 : (Op.bytesLess (ByteArray.toList (Prod.fst x0)) (ByteArray.toList (Prod.fst x1))) = true
  · try simp only [if_pos b0] at h ⊢
    exact AtV.ret Tryz.func26 tabOk ext26Ok mixed false [] tys26 [true] (a1 b0 trivial) (by kernel_rfl)
  · try simp only [if_neg b0] at h ⊢
    replace b0 := Bool.eq_false_iff.2 b0
    by_cases b1 : (ByteArray.toList (Prod.fst x0) == ByteArray.toList (Prod.fst x1)) = true
    · try simp only [if_pos b1] at h ⊢
      exact AtV.ret Tryz.func26 tabOk ext26Ok mixed false [] tys26 [false, true] (a1 b0 (a1 b1 trivial)) (by kernel_rfl)
    · try simp only [if_neg b1] at h ⊢
      replace b1 := Bool.eq_false_iff.2 b1
      exact AtV.ret Tryz.func26 tabOk ext26Ok mixed false [] tys26 [false, false] (a1 b0 (a1 b1 trivial)) (by kernel_rfl)

def S26 : Am.Spec := { sig := sig26, pre := fun ⟨x0, x1, _⟩ => P26 x0 x1, res := fun ⟨x0, x1, _⟩ => [⟨Ty.bool, g26_0 x0 x1⟩], kds := kds26 }
theorem con26 : Contract Tryz.prog 26 S26 := contract_of Tryz.func26 hb26 (Nat.le_of_ble_eq_true (by kernel_rfl)) (fun ⟨x0, x1, _⟩ h _ K q => at26 x0 x1 h K q)


end
end Go.Proofs.YtalgkffjceljiaaGreatDoor

/- Function 15 (spec.l29Ok): its runs between cut points. Written by a program of this repo (gen). -/
set_option linter.unusedVariables false
set_option linter.unusedSimpArgs false
set_option maxRecDepth 100000
namespace Go.Proofs.YtalgkffjceljiaaGreatDoor
open Go Go.Am Go.Proofs
noncomputable section
def ext15 : Ext := [(25, S25), (26, S26)]
theorem call15_25 : Callable Tryz.prog 25 := ⟨Tryz.f25, Tryz.func25, by kernel_rfl, by kernel_rfl⟩
theorem call15_26 : Callable Tryz.prog 26 := ⟨Tryz.f26, Tryz.func26, by kernel_rfl, by kernel_rfl⟩
theorem ext15Ok : ExtOk Tryz.prog ext15 := ⟨⟨call15_25, con25⟩, ⟨call15_26, con26⟩, trivial⟩

noncomputable def b15 : Code := bodyOf Tryz.f15
theorem hb15 : Tryz.f15.body = some b15 := by kernel_rfl
def sig15 : List AT := [AT.v (Ty.sl (Ty.cons Ty.str (Ty.cons Ty.str (Ty.cons Ty.str Ty.unit))))]
def tys15 : List Ty := [Ty.bool]
def kds15 : List RK := []
def oks15 : List AT := owns sig15
def E15_2 (v3 : Int) (x0 : List (ByteArray × ByteArray × ByteArray × Unit)) : Env := [(0, PV.a (Atom.sl (Ty.cons Ty.str (Ty.cons Ty.str (Ty.cons Ty.str Ty.unit))) x0)), (3, PV.a (Atom.val (Value.int IntKind.i64 v3)))]
def L15_2 (v3 : Int) (x0 : List (ByteArray × ByteArray × ByteArray × Unit)) : Heap := []
mutual
def R15 : Nat → List (ByteArray × ByteArray × ByteArray × Unit) → List Dyn → Prop
  | 0, _, _ => False
  | n + 1, x0, ds => (R15_2 n (0) (x0) ds)
def R15_2 : Nat → Int → List (ByteArray × ByteArray × ByteArray × Unit) → List Dyn → Prop
  | 0, _, _, _ => False
  | n + 1, v3, x0, ds => (if (Decidable.decide (v3 < (↑(List.length x0) : Int))) = true then ((0 ≤ v3) ∧ (v3 < (↑(List.length x0) : Int)) ∧ (if (!g25_0 (List.getD x0 (Int.toNat v3) (ByteArray.empty, ByteArray.empty, ByteArray.empty, ()))) = true then (ds = [Dyn.mk Ty.bool Bool.false]) else (if (Decidable.decide (v3 > 0)) = true then ((InR IntKind.i64 (v3 - 1)) ∧ ((0 ≤ v3 - 1) ∧ (v3 - 1 < (↑(List.length x0) : Int)) ∧ ((0 ≤ v3) ∧ (v3 < (↑(List.length x0) : Int)) ∧ (if (!g26_0 (List.getD x0 (Int.toNat (v3 - 1)) (ByteArray.empty, ByteArray.empty, ByteArray.empty, ())) (List.getD x0 (Int.toNat v3) (ByteArray.empty, ByteArray.empty, ByteArray.empty, ()))) = true then (ds = [Dyn.mk Ty.bool Bool.false]) else ((InR IntKind.i64 (v3 + 1)) ∧ (R15_2 n (v3 + 1) (x0) ds)))))) else ((InR IntKind.i64 (v3 + 1)) ∧ (R15_2 n (v3 + 1) (x0) ds))))) else (ds = [Dyn.mk Ty.bool (Decidable.decide ((↑(List.length x0) : Int) ≤ 32))]))
end
theorem snd15 : ∀ n, (∀ (x0 : List (ByteArray × ByteArray × ByteArray × Unit)) ds, R15 n x0 ds → ∀ K q, AtV Tryz.prog 15 (PostR kds15 oks15 ds [] [] q K) 33 K q [] [.code b15] (entE 0 0 sig15 (x0, ())) (entL sig15 (x0, ()))) ∧ (∀ (v3 : Int) (x0 : List (ByteArray × ByteArray × ByteArray × Unit)) ds, R15_2 n v3 x0 ds → ∀ K q, AtV Tryz.prog 15 (PostR kds15 oks15 ds [] [] q K) 33 K q [] (cutAt b15 2) (E15_2 v3 x0) (L15_2 v3 x0)) := by
  intro n
  induction n with
  | zero => exact ⟨fun _ _ h => by simp only [R15] at h, fun _ _ _ h => by simp only [R15_2] at h⟩
  | succ n ih =>
  obtain ⟨ih, ih2⟩ := ih
  refine ⟨?_, ?_⟩
  · intro x0 ds h K q
    rw [R15] at h
    exact AtV.go tabOk ext15Ok mixed false [] [] [0, 3] [] [] trivial (ih2 _ _ _ h K q) (by kernel_rfl)

  · intro v3 x0 ds h K q
    rw [R15_2] at h
    by_cases b0 : (Decidable.decide (v3 < (↑(List.length x0) : Int))) = true
    · rw [if_pos b0] at h
      obtain ⟨s0, s1, h⟩ := h
      by_cases b1 : (!g25_0 (List.getD x0 (Int.toNat v3) (ByteArray.empty, ByteArray.empty, ByteArray.empty, ()))) = true
      · rw [if_pos b1] at h
        subst h
        exact AtV.ret Tryz.func15 tabOk ext15Ok mixed false [] tys15 [true, true, true] (a1 b0 (a1 s0 (a1 s1 (a1 trivial (a1 b1 (a1 (rfl : Bool.true = Bool.true) trivial)))))) (by kernel_rfl)
      · rw [if_neg b1] at h
        replace b1 := Bool.eq_false_iff.2 b1
        by_cases b2 : (Decidable.decide (v3 > 0)) = true
        · rw [if_pos b2] at h
          obtain ⟨s2, h⟩ := h
          obtain ⟨s3, s4, h⟩ := h
          obtain ⟨s5, s6, h⟩ := h
          by_cases b3 : (!g26_0 (List.getD x0 (Int.toNat (v3 - 1)) (ByteArray.empty, ByteArray.empty, ByteArray.empty, ())) (List.getD x0 (Int.toNat v3) (ByteArray.empty, ByteArray.empty, ByteArray.empty, ()))) = true
          · rw [if_pos b3] at h
            subst h
            exact AtV.ret Tryz.func15 tabOk ext15Ok mixed false [] tys15 [true, false, true, true] (a1 b0 (a1 s0 (a1 s1 (a1 trivial (a1 b1 (a1 b2 (a1 s2 (a1 s3 (a1 s4 (a1 s5 (a1 s6 (a1 trivial (a1 b3 trivial))))))))))))) (by kernel_rfl)
          · rw [if_neg b3] at h
            replace b3 := Bool.eq_false_iff.2 b3
            obtain ⟨s7, h⟩ := h
            exact AtV.go tabOk ext15Ok mixed false [] [] [0, 3] [] [true, false, true, false] (a1 b0 (a1 s0 (a1 s1 (a1 trivial (a1 b1 (a1 b2 (a1 s2 (a1 s3 (a1 s4 (a1 s5 (a1 s6 (a1 trivial (a1 b3 (a1 s7 trivial)))))))))))))) (ih2 _ _ _ h K q) (by kernel_rfl)
        · rw [if_neg b2] at h
          replace b2 := Bool.eq_false_iff.2 b2
          obtain ⟨s2, h⟩ := h
          exact AtV.go tabOk ext15Ok mixed false [] [] [0, 3] [] [true, false, false, false] (a1 b0 (a1 s0 (a1 s1 (a1 trivial (a1 b1 (a1 b2 (a1 (rfl : Bool.false = Bool.false) (a1 s2 trivial)))))))) (ih2 _ _ _ h K q) (by kernel_rfl)
    · rw [if_neg b0] at h
      replace b0 := Bool.eq_false_iff.2 b0
      subst h
      exact AtV.ret Tryz.func15 tabOk ext15Ok mixed false [] tys15 [false] (a1 b0 trivial) (by kernel_rfl)



def ok15 (x0 : List (ByteArray × ByteArray × ByteArray × Unit)) (i : Nat) (x : ByteArray × ByteArray × ByteArray × Unit) : Bool :=
  g25_0 x && (i == 0 || g26_0 (x0.getD (i - 1) (ByteArray.empty, ByteArray.empty, ByteArray.empty, ())) x)
def g15_0 (x0 : List (ByteArray × ByteArray × ByteArray × Unit)) : Bool := allI (ok15 x0) 0 x0 && decide (x0.length ≤ 32)
def P15 (x0 : List (ByteArray × ByteArray × ByteArray × Unit)) : Prop := True

theorem step15 (n i : Nat) (x0 : List (ByteArray × ByteArray × ByteArray × Unit)) (hm : x0.length ≤ maxLen) (hi : i < x0.length) (ds : List Dyn) :
    (if ok15 x0 i (x0.getD i (ByteArray.empty, ByteArray.empty, ByteArray.empty, ())) = true then R15_2 n ((i : Int) + 1) x0 ds else ds = [⟨.bool, false⟩]) → R15_2 (n + 1) (i : Int) x0 ds := by
  intro h
  have hu := inR_up hm hi
  rw [R15_2, if_pos (by simp; omega)]
  refine ⟨by omega, by omega, ?_⟩
  simp only [Int.toNat_natCast]
  unfold ok15 at h
  cases h1 : g25_0 (x0.getD i (ByteArray.empty, ByteArray.empty, ByteArray.empty, ())) with
  | false =>
    rw [h1] at h
    rw [if_pos (by rfl)]
    simpa using h
  | true =>
    rw [h1] at h
    rw [if_neg (by simp)]
    by_cases h0 : (i : Int) > 0
    · rw [if_pos (by simpa using h0)]
      have hi0 : (i == 0) = false := by simp; omega
      have e : ((i : Int) - 1).toNat = i - 1 := by omega
      refine ⟨by rw [i64_iff]; have : maxLen ≤ 9223372036854775807 := by decide
                 omega, by omega, by omega, by omega, by omega, ?_⟩
      rw [e]
      by_cases h2 : g26_0 (x0.getD (i - 1) (ByteArray.empty, ByteArray.empty, ByteArray.empty, ())) (x0.getD i (ByteArray.empty, ByteArray.empty, ByteArray.empty, ())) = true
      · rw [h2, hi0] at h
        rw [if_neg (by rw [h2]; simp)]
        exact ⟨hu, by simpa using h⟩
      · have h2 := Bool.eq_false_iff.2 h2
        rw [h2, hi0] at h
        rw [if_pos (by rw [h2]; rfl)]
        simpa using h
    · rw [if_neg (by simpa using h0)]
      have hi0 : (i == 0) = true := by simp; omega
      rw [hi0] at h
      exact ⟨hu, by simpa using h⟩

theorem top15 (x0 : List (ByteArray × ByteArray × ByteArray × Unit)) (hw : x0.length ≤ maxLen) : R15 (x0.length + 1 + 1) x0 [⟨.bool, g15_0 x0⟩] := by
  rw [R15]
  have key := loop_testI x0 (ByteArray.empty, ByteArray.empty, ByteArray.empty, ()) (ok15 x0) [(⟨.bool, false⟩ : Dyn)] [⟨.bool, decide (x0.length ≤ 32)⟩] (fun n i ds => R15_2 n i x0 ds) (fun n => ?_) (fun n i hi hok ds hr => ?_) (fun n i hi hok => ?_)
  · unfold g15_0
    cases h : allI (ok15 x0) 0 x0 with
    | true => rw [if_pos h] at key; simpa using key
    | false => rw [if_neg (by rw [h]; simp)] at key; simpa using key
  · rw [R15_2, if_neg (by simp)]
    have hc : decide ((x0.length : Int) ≤ 32) = decide (x0.length ≤ 32) := by
      congr 1; exact propext ⟨fun h => by omega, fun h => by omega⟩
    rw [hc]
  · exact step15 n i x0 hw hi ds (by rw [if_pos hok]; exact hr)
  · exact step15 n i x0 hw hi _ (by rw [if_neg (by rw [hok]; simp)])

def S15 : Am.Spec := { sig := sig15, pre := fun ⟨x0, _⟩ => P15 x0, res := fun ⟨x0, _⟩ => [⟨Ty.bool, g15_0 x0⟩] }
theorem con15 : Contract Tryz.prog 15 S15 := contract_of Tryz.func15 hb15 (Nat.le_of_ble_eq_true (by kernel_rfl)) (fun ⟨x0, _⟩ h hwf K q =>
  (snd15 _).1 x0 _ (top15 x0 hwf.1.1) K q)

end
end Go.Proofs.YtalgkffjceljiaaGreatDoor

/- Function 39 (spec.l29Put): its runs between cut points. Written by a program of this repo (gen). -/
set_option linter.unusedVariables false
set_option linter.unusedSimpArgs false
set_option maxRecDepth 100000
namespace Go.Proofs.YtalgkffjceljiaaGreatDoor
open Go Go.Am Go.Proofs
noncomputable section
def ext39 : Ext := [(26, S26)]
theorem call39_26 : Callable Tryz.prog 26 := ⟨Tryz.f26, Tryz.func26, by kernel_rfl, by kernel_rfl⟩
theorem ext39Ok : ExtOk Tryz.prog ext39 := ⟨⟨call39_26, con26⟩, trivial⟩

noncomputable def b39 : Code := bodyOf Tryz.f39
theorem hb39 : Tryz.f39.body = some b39 := by kernel_rfl
def sig39 : List AT := [AT.v (Ty.sl (Ty.cons Ty.str (Ty.cons Ty.str (Ty.cons Ty.str Ty.unit)))), AT.v (Ty.cons Ty.str (Ty.cons Ty.str (Ty.cons Ty.str Ty.unit)))]
def tys39 : List Ty := [Ty.sl (Ty.cons Ty.str (Ty.cons Ty.str (Ty.cons Ty.str Ty.unit)))]
def kds39 : List RK := []
def oks39 : List AT := owns sig39
def E39_4 (v6 : Bool) (v7 : Int) (h1 : List (ByteArray × ByteArray × ByteArray × Unit)) (x0 : List (ByteArray × ByteArray × ByteArray × Unit)) (x1 : ByteArray × ByteArray × ByteArray × Unit) : Env := [(0, PV.a (Atom.sl (Ty.cons Ty.str (Ty.cons Ty.str (Ty.cons Ty.str Ty.unit))) x0)), (3, PV.a (Atom.optr 0 0 [])), (5, PV.a (Atom.osl 1 Option.none)), (6, PV.a (Atom.val (Value.bool v6))), (7, PV.a (Atom.val (Value.int IntKind.i64 v7)))]
def L39_4 (v6 : Bool) (v7 : Int) (h1 : List (ByteArray × ByteArray × ByteArray × Unit)) (x0 : List (ByteArray × ByteArray × ByteArray × Unit)) (x1 : ByteArray × ByteArray × ByteArray × Unit) : Heap := [Option.some (Arr.mk (Ty.cons Ty.str (Ty.cons Ty.str (Ty.cons Ty.str Ty.unit))) [x1] Bool.true Option.none (Option.some Bool.false)), Option.some (Arr.mk (Ty.cons Ty.str (Ty.cons Ty.str (Ty.cons Ty.str Ty.unit))) h1 Bool.false Option.none Option.none)]
mutual
def R39 : Nat → List (ByteArray × ByteArray × ByteArray × Unit) → ByteArray × ByteArray × ByteArray × Unit → List Dyn → Prop
  | 0, _, _, _ => False
  | n + 1, x0, x1, ds => (R39_4 n (Bool.false) (0) ([]) (x0) (x1) ds)
def R39_4 : Nat → Bool → Int → List (ByteArray × ByteArray × ByteArray × Unit) → List (ByteArray × ByteArray × ByteArray × Unit) → ByteArray × ByteArray × ByteArray × Unit → List Dyn → Prop
  | 0, _, _, _, _, _, _ => False
  | n + 1, v6, v7, h1, x0, x1, ds => (if (Decidable.decide (v7 < (↑(List.length x0) : Int))) = true then (if (!v6) = true then ((0 ≤ v7) ∧ (v7 < (↑(List.length x0) : Int)) ∧ (if (!g26_0 (List.getD x0 (Int.toNat v7) (ByteArray.empty, ByteArray.empty, ByteArray.empty, ())) x1) = true then (((List.length h1 + 1) * 48 ≤ 140737488355328) ∧ ((0 ≤ v7) ∧ (v7 < (↑(List.length x0) : Int)) ∧ (if (!ByteArray.toList (Prod.fst (List.getD x0 (Int.toNat v7) (ByteArray.empty, ByteArray.empty, ByteArray.empty, ()))) == ByteArray.toList (Prod.fst x1)) = true then ((0 ≤ v7) ∧ (v7 < (↑(List.length x0) : Int)) ∧ (((List.length (h1 ++ [x1]) + 1) * 48 ≤ 140737488355328) ∧ ((InR IntKind.i64 (v7 + 1)) ∧ (R39_4 n (Bool.true) (v7 + 1) (h1 ++ [x1] ++ [List.getD x0 (Int.toNat v7) (ByteArray.empty, ByteArray.empty, ByteArray.empty, ())]) (x0) (x1) ds)))) else ((0 ≤ v7) ∧ (v7 < (↑(List.length x0) : Int)) ∧ (if (!ByteArray.toList (Prod.fst (Prod.snd (List.getD x0 (Int.toNat v7) (ByteArray.empty, ByteArray.empty, ByteArray.empty, ())))) == ByteArray.toList (Prod.fst (Prod.snd x1))) = true then ((0 ≤ v7) ∧ (v7 < (↑(List.length x0) : Int)) ∧ (((List.length (h1 ++ [x1]) + 1) * 48 ≤ 140737488355328) ∧ ((InR IntKind.i64 (v7 + 1)) ∧ (R39_4 n (Bool.true) (v7 + 1) (h1 ++ [x1] ++ [List.getD x0 (Int.toNat v7) (ByteArray.empty, ByteArray.empty, ByteArray.empty, ())]) (x0) (x1) ds)))) else ((InR IntKind.i64 (v7 + 1)) ∧ (R39_4 n (Bool.true) (v7 + 1) (h1 ++ [x1]) (x0) (x1) ds))))))) else ((0 ≤ v7) ∧ (v7 < (↑(List.length x0) : Int)) ∧ (if (!ByteArray.toList (Prod.fst (List.getD x0 (Int.toNat v7) (ByteArray.empty, ByteArray.empty, ByteArray.empty, ()))) == ByteArray.toList (Prod.fst x1)) = true then ((0 ≤ v7) ∧ (v7 < (↑(List.length x0) : Int)) ∧ (((List.length h1 + 1) * 48 ≤ 140737488355328) ∧ ((InR IntKind.i64 (v7 + 1)) ∧ (R39_4 n (v6) (v7 + 1) (h1 ++ [List.getD x0 (Int.toNat v7) (ByteArray.empty, ByteArray.empty, ByteArray.empty, ())]) (x0) (x1) ds)))) else ((0 ≤ v7) ∧ (v7 < (↑(List.length x0) : Int)) ∧ (if (!ByteArray.toList (Prod.fst (Prod.snd (List.getD x0 (Int.toNat v7) (ByteArray.empty, ByteArray.empty, ByteArray.empty, ())))) == ByteArray.toList (Prod.fst (Prod.snd x1))) = true then ((0 ≤ v7) ∧ (v7 < (↑(List.length x0) : Int)) ∧ (((List.length h1 + 1) * 48 ≤ 140737488355328) ∧ ((InR IntKind.i64 (v7 + 1)) ∧ (R39_4 n (v6) (v7 + 1) (h1 ++ [List.getD x0 (Int.toNat v7) (ByteArray.empty, ByteArray.empty, ByteArray.empty, ())]) (x0) (x1) ds)))) else ((InR IntKind.i64 (v7 + 1)) ∧ (R39_4 n (v6) (v7 + 1) (h1) (x0) (x1) ds)))))))) else ((0 ≤ v7) ∧ (v7 < (↑(List.length x0) : Int)) ∧ (if (!ByteArray.toList (Prod.fst (List.getD x0 (Int.toNat v7) (ByteArray.empty, ByteArray.empty, ByteArray.empty, ()))) == ByteArray.toList (Prod.fst x1)) = true then ((0 ≤ v7) ∧ (v7 < (↑(List.length x0) : Int)) ∧ (((List.length h1 + 1) * 48 ≤ 140737488355328) ∧ ((InR IntKind.i64 (v7 + 1)) ∧ (R39_4 n (v6) (v7 + 1) (h1 ++ [List.getD x0 (Int.toNat v7) (ByteArray.empty, ByteArray.empty, ByteArray.empty, ())]) (x0) (x1) ds)))) else ((0 ≤ v7) ∧ (v7 < (↑(List.length x0) : Int)) ∧ (if (!ByteArray.toList (Prod.fst (Prod.snd (List.getD x0 (Int.toNat v7) (ByteArray.empty, ByteArray.empty, ByteArray.empty, ())))) == ByteArray.toList (Prod.fst (Prod.snd x1))) = true then ((0 ≤ v7) ∧ (v7 < (↑(List.length x0) : Int)) ∧ (((List.length h1 + 1) * 48 ≤ 140737488355328) ∧ ((InR IntKind.i64 (v7 + 1)) ∧ (R39_4 n (v6) (v7 + 1) (h1 ++ [List.getD x0 (Int.toNat v7) (ByteArray.empty, ByteArray.empty, ByteArray.empty, ())]) (x0) (x1) ds)))) else ((InR IntKind.i64 (v7 + 1)) ∧ (R39_4 n (v6) (v7 + 1) (h1) (x0) (x1) ds))))))) else (if (!v6) = true then (((List.length h1 + 1) * 48 ≤ 140737488355328) ∧ (ds = [Dyn.mk (Ty.sl (Ty.cons Ty.str (Ty.cons Ty.str (Ty.cons Ty.str Ty.unit)))) (h1 ++ [x1])])) else (ds = [Dyn.mk (Ty.sl (Ty.cons Ty.str (Ty.cons Ty.str (Ty.cons Ty.str Ty.unit)))) h1])))
end
theorem snd39 : ∀ n, (∀ (x0 : List (ByteArray × ByteArray × ByteArray × Unit)) (x1 : ByteArray × ByteArray × ByteArray × Unit) ds, R39 n x0 x1 ds → ∀ K q, AtV Tryz.prog 39 (PostR kds39 oks39 ds [] [] q K) 60 K q [] [.code b39] (entE 0 0 sig39 (x0, x1, ())) (entL sig39 (x0, x1, ()))) ∧ (∀ (v6 : Bool) (v7 : Int) (h1 : List (ByteArray × ByteArray × ByteArray × Unit)) (x0 : List (ByteArray × ByteArray × ByteArray × Unit)) (x1 : ByteArray × ByteArray × ByteArray × Unit) ds, R39_4 n v6 v7 h1 x0 x1 ds → ∀ K q, AtV Tryz.prog 39 (PostR kds39 oks39 ds [] [] q K) 60 K q [] (cutAt b39 4) (E39_4 v6 v7 h1 x0 x1) (L39_4 v6 v7 h1 x0 x1)) := by
  intro n
  induction n with
  | zero => exact ⟨fun _ _ _ h => by simp only [R39] at h, fun _ _ _ _ _ _ h => by simp only [R39_4] at h⟩
  | succ n ih =>
  obtain ⟨ih, ih4⟩ := ih
  refine ⟨?_, ?_⟩
  · intro x0 x1 ds h K q
    rw [R39] at h
    exact AtV.go tabOk ext39Ok mixed false [] [] [0, 3, 5, 6, 7] [0, 1] [] trivial (ih4 _ _ _ _ _ _ h K q) (by kernel_rfl)

  · intro v6 v7 h1 x0 x1 ds h K q
    rw [R39_4] at h
    by_cases b0 : (Decidable.decide (v7 < (↑(List.length x0) : Int))) = true
    · rw [if_pos b0] at h
      by_cases b1 : (!v6) = true
      · rw [if_pos b1] at h
        obtain ⟨s0, s1, h⟩ := h
        by_cases b2 : (!g26_0 (List.getD x0 (Int.toNat v7) (ByteArray.empty, ByteArray.empty, ByteArray.empty, ())) x1) = true
        · rw [if_pos b2] at h
          obtain ⟨s2, h⟩ := h
          obtain ⟨s3, s4, h⟩ := h
          by_cases b3 : (!ByteArray.toList (Prod.fst (List.getD x0 (Int.toNat v7) (ByteArray.empty, ByteArray.empty, ByteArray.empty, ()))) == ByteArray.toList (Prod.fst x1)) = true
          · rw [if_pos b3] at h
            obtain ⟨s5, s6, h⟩ := h
            obtain ⟨s7, h⟩ := h
            obtain ⟨s8, h⟩ := h
            exact AtV.go tabOk ext39Ok mixed false [] [] [0, 3, 5, 6, 7] [0, 1] [true, true, true, true, true] (a1 b0 (a1 b1 (a1 s0 (a1 s1 (a1 trivial (a1 b2 (a1 s2 (a1 s3 (a1 s4 (a1 b3 (a1 (rfl : Bool.true = Bool.true) (a1 s5 (a1 s6 (a1 s7 (a1 s8 trivial))))))))))))))) (ih4 _ _ _ _ _ _ h K q) (by kernel_rfl)
          · rw [if_neg b3] at h
            replace b3 := Bool.eq_false_iff.2 b3
            obtain ⟨s5, s6, h⟩ := h
            by_cases b4 : (!ByteArray.toList (Prod.fst (Prod.snd (List.getD x0 (Int.toNat v7) (ByteArray.empty, ByteArray.empty, ByteArray.empty, ())))) == ByteArray.toList (Prod.fst (Prod.snd x1))) = true
            · rw [if_pos b4] at h
              obtain ⟨s7, s8, h⟩ := h
              obtain ⟨s9, h⟩ := h
              obtain ⟨s10, h⟩ := h
              exact AtV.go tabOk ext39Ok mixed false [] [] [0, 3, 5, 6, 7] [0, 1] [true, true, true, false, true] (a1 b0 (a1 b1 (a1 s0 (a1 s1 (a1 trivial (a1 b2 (a1 s2 (a1 s3 (a1 s4 (a1 b3 (a1 s5 (a1 s6 (a1 b4 (a1 s7 (a1 s8 (a1 s9 (a1 s10 trivial))))))))))))))))) (ih4 _ _ _ _ _ _ h K q) (by kernel_rfl)
            · rw [if_neg b4] at h
              replace b4 := Bool.eq_false_iff.2 b4
              obtain ⟨s7, h⟩ := h
              exact AtV.go tabOk ext39Ok mixed false [] [] [0, 3, 5, 6, 7] [0, 1] [true, true, true, false, false] (a1 b0 (a1 b1 (a1 s0 (a1 s1 (a1 trivial (a1 b2 (a1 s2 (a1 s3 (a1 s4 (a1 b3 (a1 s5 (a1 s6 (a1 b4 (a1 s7 trivial)))))))))))))) (ih4 _ _ _ _ _ _ h K q) (by kernel_rfl)
        · rw [if_neg b2] at h
          replace b2 := Bool.eq_false_iff.2 b2
          obtain ⟨s2, s3, h⟩ := h
          by_cases b3 : (!ByteArray.toList (Prod.fst (List.getD x0 (Int.toNat v7) (ByteArray.empty, ByteArray.empty, ByteArray.empty, ()))) == ByteArray.toList (Prod.fst x1)) = true
          · rw [if_pos b3] at h
            obtain ⟨s4, s5, h⟩ := h
            obtain ⟨s6, h⟩ := h
            obtain ⟨s7, h⟩ := h
            exact AtV.go tabOk ext39Ok mixed false [] [] [0, 3, 5, 6, 7] [0, 1] [true, true, false, true, true] (a1 b0 (a1 b1 (a1 s0 (a1 s1 (a1 trivial (a1 b2 (a1 s2 (a1 s3 (a1 b3 (a1 (rfl : Bool.true = Bool.true) (a1 s4 (a1 s5 (a1 s6 (a1 s7 trivial)))))))))))))) (ih4 _ _ _ _ _ _ h K q) (by kernel_rfl)
          · rw [if_neg b3] at h
            replace b3 := Bool.eq_false_iff.2 b3
            obtain ⟨s4, s5, h⟩ := h
            by_cases b4 : (!ByteArray.toList (Prod.fst (Prod.snd (List.getD x0 (Int.toNat v7) (ByteArray.empty, ByteArray.empty, ByteArray.empty, ())))) == ByteArray.toList (Prod.fst (Prod.snd x1))) = true
            · rw [if_pos b4] at h
              obtain ⟨s6, s7, h⟩ := h
              obtain ⟨s8, h⟩ := h
              obtain ⟨s9, h⟩ := h
              exact AtV.go tabOk ext39Ok mixed false [] [] [0, 3, 5, 6, 7] [0, 1] [true, true, false, false, true] (a1 b0 (a1 b1 (a1 s0 (a1 s1 (a1 trivial (a1 b2 (a1 s2 (a1 s3 (a1 b3 (a1 s4 (a1 s5 (a1 b4 (a1 s6 (a1 s7 (a1 s8 (a1 s9 trivial)))))))))))))))) (ih4 _ _ _ _ _ _ h K q) (by kernel_rfl)
            · rw [if_neg b4] at h
              replace b4 := Bool.eq_false_iff.2 b4
              obtain ⟨s6, h⟩ := h
              exact AtV.go tabOk ext39Ok mixed false [] [] [0, 3, 5, 6, 7] [0, 1] [true, true, false, false, false] (a1 b0 (a1 b1 (a1 s0 (a1 s1 (a1 trivial (a1 b2 (a1 s2 (a1 s3 (a1 b3 (a1 s4 (a1 s5 (a1 b4 (a1 s6 trivial))))))))))))) (ih4 _ _ _ _ _ _ h K q) (by kernel_rfl)
      · rw [if_neg b1] at h
        replace b1 := Bool.eq_false_iff.2 b1
        obtain ⟨s0, s1, h⟩ := h
        by_cases b2 : (!ByteArray.toList (Prod.fst (List.getD x0 (Int.toNat v7) (ByteArray.empty, ByteArray.empty, ByteArray.empty, ()))) == ByteArray.toList (Prod.fst x1)) = true
        · rw [if_pos b2] at h
          obtain ⟨s2, s3, h⟩ := h
          obtain ⟨s4, h⟩ := h
          obtain ⟨s5, h⟩ := h
          exact AtV.go tabOk ext39Ok mixed false [] [] [0, 3, 5, 6, 7] [0, 1] [true, false, false, true, true] (a1 b0 (a1 b1 (a1 (rfl : Bool.false = Bool.false) (a1 s0 (a1 s1 (a1 b2 (a1 (rfl : Bool.true = Bool.true) (a1 s2 (a1 s3 (a1 s4 (a1 s5 trivial))))))))))) (ih4 _ _ _ _ _ _ h K q) (by kernel_rfl)
        · rw [if_neg b2] at h
          replace b2 := Bool.eq_false_iff.2 b2
          obtain ⟨s2, s3, h⟩ := h
          by_cases b3 : (!ByteArray.toList (Prod.fst (Prod.snd (List.getD x0 (Int.toNat v7) (ByteArray.empty, ByteArray.empty, ByteArray.empty, ())))) == ByteArray.toList (Prod.fst (Prod.snd x1))) = true
          · rw [if_pos b3] at h
            obtain ⟨s4, s5, h⟩ := h
            obtain ⟨s6, h⟩ := h
            obtain ⟨s7, h⟩ := h
            exact AtV.go tabOk ext39Ok mixed false [] [] [0, 3, 5, 6, 7] [0, 1] [true, false, false, false, true] (a1 b0 (a1 b1 (a1 (rfl : Bool.false = Bool.false) (a1 s0 (a1 s1 (a1 b2 (a1 s2 (a1 s3 (a1 b3 (a1 s4 (a1 s5 (a1 s6 (a1 s7 trivial))))))))))))) (ih4 _ _ _ _ _ _ h K q) (by kernel_rfl)
          · rw [if_neg b3] at h
            replace b3 := Bool.eq_false_iff.2 b3
            obtain ⟨s4, h⟩ := h
            exact AtV.go tabOk ext39Ok mixed false [] [] [0, 3, 5, 6, 7] [0, 1] [true, false, false, false, false] (a1 b0 (a1 b1 (a1 (rfl : Bool.false = Bool.false) (a1 s0 (a1 s1 (a1 b2 (a1 s2 (a1 s3 (a1 b3 (a1 s4 trivial)))))))))) (ih4 _ _ _ _ _ _ h K q) (by kernel_rfl)
    · rw [if_neg b0] at h
      replace b0 := Bool.eq_false_iff.2 b0
      by_cases b1 : (!v6) = true
      · rw [if_pos b1] at h
        obtain ⟨s0, h⟩ := h
        subst h
        exact AtV.ret Tryz.func39 tabOk ext39Ok mixed false [] tys39 [false, true] (a1 b0 (a1 b1 (a1 s0 trivial))) (by kernel_rfl)
      · rw [if_neg b1] at h
        replace b1 := Bool.eq_false_iff.2 b1
        subst h
        exact AtV.ret Tryz.func39 tabOk ext39Ok mixed false [] tys39 [false, false] (a1 b0 (a1 b1 trivial)) (by kernel_rfl)



def st39 (t : (ByteArray × ByteArray × ByteArray × Unit)) (s : List (ByteArray × ByteArray × ByteArray × Unit) × Bool) (x : (ByteArray × ByteArray × ByteArray × Unit)) : List (ByteArray × ByteArray × ByteArray × Unit) × Bool :=
  (if (ByteArray.toList x.1 == ByteArray.toList t.1 && ByteArray.toList x.2.1 == ByteArray.toList t.2.1) = true then (if (!s.2 && !g26_0 x t) = true then s.1 ++ [t] else s.1) else (if (!s.2 && !g26_0 x t) = true then s.1 ++ [t] else s.1) ++ [x], s.2 || !g26_0 x t)

def fin39 (t : (ByteArray × ByteArray × ByteArray × Unit)) (s : List (ByteArray × ByteArray × ByteArray × Unit) × Bool) : List (ByteArray × ByteArray × ByteArray × Unit) := if s.2 = true then s.1 else s.1 ++ [t]
def g39_0 (x0 : List (ByteArray × ByteArray × ByteArray × Unit)) (x1 : (ByteArray × ByteArray × ByteArray × Unit)) : List (ByteArray × ByteArray × ByteArray × Unit) := fin39 x1 (x0.foldl (st39 x1) ([], false))
def P39 (x0 : List (ByteArray × ByteArray × ByteArray × Unit)) (x1 : (ByteArray × ByteArray × ByteArray × Unit)) : Prop := x0.length ≤ 1048576

theorem stl39 (t : (ByteArray × ByteArray × ByteArray × Unit)) (s : List (ByteArray × ByteArray × ByteArray × Unit) × Bool) (x : (ByteArray × ByteArray × ByteArray × Unit)) (i : Nat) (h : s.1.length ≤ 2 * i) : (st39 t s x).1.length ≤ 2 * (i + 1) := by
  unfold st39
  cases (ByteArray.toList x.1 == ByteArray.toList t.1 && ByteArray.toList x.2.1 == ByteArray.toList t.2.1) <;> cases (!s.2 && !g26_0 x t) <;> simp <;> omega

set_option maxHeartbeats 1000000 in
theorem top39 (x0 : List (ByteArray × ByteArray × ByteArray × Unit)) (x1 : (ByteArray × ByteArray × ByteArray × Unit)) (hp : P39 x0 x1) : R39 (x0.length + 1 + 1) x0 x1 [⟨.sl (.cons .str (.cons .str (.cons .str .unit))), g39_0 x0 x1⟩] := by
  have hl : x0.length ≤ 1048576 := hp
  have hm : x0.length ≤ maxLen := by unfold maxLen; omega
  rw [R39]
  have key : ∀ d : List Dyn, d = [(⟨.sl (.cons .str (.cons .str (.cons .str .unit))), fin39 x1 (x0.foldl (st39 x1) ([], false))⟩ : Dyn)] → R39_4 (x0.length + 1) false 0 [] x0 x1 d → R39_4 (x0.length + 1) false 0 [] x0 x1 [⟨.sl (.cons .str (.cons .str (.cons .str .unit))), g39_0 x0 x1⟩] := fun d hd h => by rw [hd] at h; exact h
  refine key _ rfl ?_
  clear key
  refine loop_fold (β := List (ByteArray × ByteArray × ByteArray × Unit) × Bool) (δ := List Dyn) (b := ([], false)) x0 (ByteArray.empty, ByteArray.empty, ByteArray.empty, ()) (st39 x1) (fun s => [(⟨.sl (.cons .str (.cons .str (.cons .str .unit))), fin39 x1 s⟩ : Dyn)]) (fun n s => s.1.length ≤ 2 * n) (fun n i s ds => R39_4 n s.2 i s.1 x0 x1 ds) (by simp) (fun n s hs => ?_) (fun n i s hi hs => ⟨stl39 x1 s _ i hs, fun ds hr => ?_⟩)
  · show R39_4 (n + 1) s.2 (x0.length : Int) s.1 x0 x1 _
    rw [R39_4, if_neg (by simp)]
    obtain ⟨h, d⟩ := s
    simp only at hs ⊢
    unfold fin39
    cases d with
    | true => simp
    | false =>
      exact ⟨by omega, rfl⟩
  · have hup := inR_up hm hi
    obtain ⟨h, d⟩ := s
    simp only at hs
    have b0 : (0 : Int) ≤ (i : Int) := by omega
    have b1 : (i : Int) < (x0.length : Int) := by omega
    have c1 : ((h.length + 1 : Nat) : Nat) * 48 ≤ 140737488355328 := by omega
    have c2 : ((h ++ [x1]).length + 1) * 48 ≤ 140737488355328 := by
      have e : (h ++ [x1]).length = h.length + 1 := by rw [List.length_append, List.length_singleton]
      omega
    show R39_4 (n + 1) d (i : Int) h x0 x1 ds
    rw [R39_4, if_pos (by simp only [decide_eq_true_eq]; omega)]
    unfold st39 at hr
    simp only [Int.toNat_natCast] at hr ⊢
    generalize x0.getD i (ByteArray.empty, ByteArray.empty, ByteArray.empty, ()) = y at *
    cases d <;> cases hb : g26_0 y x1 <;> cases hk : (ByteArray.toList y.1 == ByteArray.toList x1.1) <;> cases hn : (ByteArray.toList y.2.1 == ByteArray.toList x1.2.1) <;>
      simp only [hb, hk, hn, Bool.not_true, Bool.not_false, Bool.and_true, Bool.and_false, Bool.true_and, Bool.false_and, Bool.or_true, Bool.or_false, Bool.true_or, Bool.false_or, if_true, if_false, Bool.false_eq_true, b0, b1, c1, c2, hup, true_and] at hr ⊢ <;> exact hr

def S39 : Am.Spec := { sig := sig39, pre := fun ⟨x0, x1, _⟩ => P39 x0 x1, res := fun ⟨x0, x1, _⟩ => [⟨.sl (.cons .str (.cons .str (.cons .str .unit))), g39_0 x0 x1⟩] }
theorem con39 : Contract Tryz.prog 39 S39 := contract_of Tryz.func39 hb39 (Nat.le_of_ble_eq_true (by kernel_rfl)) (fun ⟨x0, x1, _⟩ h hwf K q =>
  (snd39 _).1 x0 x1 _ (top39 x0 x1 h) K q)

theorem len39 (x0 : List (ByteArray × ByteArray × ByteArray × Unit)) (x1 : (ByteArray × ByteArray × ByteArray × Unit)) : (g39_0 x0 x1).length ≤ x0.length + 1 := by
  have key : ∀ (l : List (ByteArray × ByteArray × ByteArray × Unit)) (s : List (ByteArray × ByteArray × ByteArray × Unit) × Bool) (n : Nat), s.1.length ≤ n + (if s.2 = true then 1 else 0) → (l.foldl (st39 x1) s).1.length ≤ n + l.length + (if (l.foldl (st39 x1) s).2 = true then 1 else 0) := by
    intro l
    induction l with
    | nil => intro s n h; exact h
    | cons y r ih =>
      intro s n h
      rw [List.foldl_cons]
      have := ih (st39 x1 s y) (n + 1) (by
        obtain ⟨a, d⟩ := s
        simp only at h
        unfold st39
        cases (ByteArray.toList y.1 == ByteArray.toList x1.1 && ByteArray.toList y.2.1 == ByteArray.toList x1.2.1) <;> cases g26_0 y x1 <;> cases d <;> simp at h ⊢ <;> omega)
      rw [List.length_cons]
      omega
  have := key x0 ([], false) 0 (by simp)
  unfold g39_0 fin39
  generalize x0.foldl (st39 x1) ([], false) = s at *
  obtain ⟨a, d⟩ := s
  cases d with
  | true => simp at this ⊢; omega
  | false => simp at this ⊢; omega

end
end Go.Proofs.YtalgkffjceljiaaGreatDoor

/- Function 23 (spec.PutBlock): its runs between cut points. Written by a program of this repo (gen). -/
set_option linter.unusedVariables false
set_option linter.unusedSimpArgs false
set_option maxRecDepth 100000
namespace Go.Proofs.YtalgkffjceljiaaGreatDoor
open Go Go.Am Go.Proofs
noncomputable section
def ext23 : Ext := [(15, S15), (25, S25), (39, S39)]
theorem call23_15 : Callable Tryz.prog 15 := ⟨Tryz.f15, Tryz.func15, by kernel_rfl, by kernel_rfl⟩
theorem call23_25 : Callable Tryz.prog 25 := ⟨Tryz.f25, Tryz.func25, by kernel_rfl, by kernel_rfl⟩
theorem call23_39 : Callable Tryz.prog 39 := ⟨Tryz.f39, Tryz.func39, by kernel_rfl, by kernel_rfl⟩
theorem ext23Ok : ExtOk Tryz.prog ext23 := ⟨⟨call23_15, con15⟩, ⟨call23_25, con25⟩, ⟨call23_39, con39⟩, trivial⟩

noncomputable def b23 : Code := bodyOf Tryz.f23
theorem hb23 : Tryz.f23.body = some b23 := by kernel_rfl
def sig23 : List AT := [AT.v (Ty.sl (Ty.cons Ty.str (Ty.cons Ty.str (Ty.cons Ty.str Ty.unit)))), AT.v (Ty.cons Ty.str (Ty.cons Ty.str (Ty.cons Ty.str Ty.unit)))]
def tys23 : List Ty := [Ty.sl (Ty.cons Ty.str (Ty.cons Ty.str (Ty.cons Ty.str Ty.unit))), Ty.int IntKind.i64]
def kds23 : List RK := []
def oks23 : List AT := owns sig23
def P23 (x0 : List (ByteArray × ByteArray × ByteArray × Unit)) (x1 : ByteArray × ByteArray × ByteArray × Unit) : Prop := (if (!g15_0 x0) = true then True else (if (!g25_0 x1) = true then True else ((P39 x0 x1) ∧ True)))
def g23_0 (x0 : List (ByteArray × ByteArray × ByteArray × Unit)) (x1 : ByteArray × ByteArray × ByteArray × Unit) : List (ByteArray × ByteArray × ByteArray × Unit) := (if (!g15_0 x0) = true then [] else (if (!g25_0 x1) = true then [] else (if (Decidable.decide ((↑(List.length (g39_0 x0 x1)) : Int) > 32)) = true then [] else g39_0 x0 x1)))
def g23_1 (x0 : List (ByteArray × ByteArray × ByteArray × Unit)) (x1 : ByteArray × ByteArray × ByteArray × Unit) : Int := (if (!g15_0 x0) = true then 1 else (if (!g25_0 x1) = true then 1 else (if (Decidable.decide ((↑(List.length (g39_0 x0 x1)) : Int) > 32)) = true then 5 else 0)))
theorem at23 (x0 : List (ByteArray × ByteArray × ByteArray × Unit)) (x1 : ByteArray × ByteArray × ByteArray × Unit) (h : P23 x0 x1) (K : Ctx) (q : Nat → Value) : AtV Tryz.prog 23 (PostR kds23 oks23 [⟨Ty.sl (Ty.cons Ty.str (Ty.cons Ty.str (Ty.cons Ty.str Ty.unit))), g23_0 x0 x1⟩, ⟨Ty.int IntKind.i64, g23_1 x0 x1⟩] [] [] q K) 21 K q [] [.code b23] (entE 0 0 sig23 (x0, x1, ())) (entL sig23 (x0, x1, ())) := by
  unfold P23 at h
  unfold g23_0 g23_1
  by_cases b0 : (!g15_0 x0) = true
  · try simp only [if_pos b0] at h ⊢
    exact AtV.ret Tryz.func23 tabOk ext23Ok mixed false [] tys23 [true, true] (a1 trivial (a1 b0 (a1 (rfl : Bool.true = Bool.true) trivial))) (by kernel_rfl)
  · try simp only [if_neg b0] at h ⊢
    replace b0 := Bool.eq_false_iff.2 b0
    by_cases b1 : (!g25_0 x1) = true
    · try simp only [if_pos b1] at h ⊢
      exact AtV.ret Tryz.func23 tabOk ext23Ok mixed false [] tys23 [false, true] (a1 trivial (a1 b0 (a1 trivial (a1 b1 trivial)))) (by kernel_rfl)
    · try simp only [if_neg b1] at h ⊢
      replace b1 := Bool.eq_false_iff.2 b1
      obtain ⟨s0, h⟩ := h
      by_cases b2 : (Decidable.decide ((↑(List.length (g39_0 x0 x1)) : Int) > 32)) = true
      · try simp only [if_pos b2] at h ⊢
        exact AtV.ret Tryz.func23 tabOk ext23Ok mixed false [] tys23 [false, false, true] (a1 trivial (a1 b0 (a1 trivial (a1 b1 (a1 s0 (a1 b2 trivial)))))) (by kernel_rfl)
      · try simp only [if_neg b2] at h ⊢
        replace b2 := Bool.eq_false_iff.2 b2
        exact AtV.ret Tryz.func23 tabOk ext23Ok mixed false [] tys23 [false, false, false] (a1 trivial (a1 b0 (a1 trivial (a1 b1 (a1 s0 (a1 b2 trivial)))))) (by kernel_rfl)

def S23 : Am.Spec := { sig := sig23, pre := fun ⟨x0, x1, _⟩ => P23 x0 x1, res := fun ⟨x0, x1, _⟩ => [⟨Ty.sl (Ty.cons Ty.str (Ty.cons Ty.str (Ty.cons Ty.str Ty.unit))), g23_0 x0 x1⟩, ⟨Ty.int IntKind.i64, g23_1 x0 x1⟩], kds := kds23 }
theorem con23 : Contract Tryz.prog 23 S23 := contract_of Tryz.func23 hb23 (Nat.le_of_ble_eq_true (by kernel_rfl)) (fun ⟨x0, x1, _⟩ h _ K q => at23 x0 x1 h K q)


end
end Go.Proofs.YtalgkffjceljiaaGreatDoor

/- A law that says how functions of the program and of the specification hang together. -/
set_option linter.unusedVariables false
set_option linter.unusedSimpArgs false
set_option maxRecDepth 100000
namespace Go.Proofs.YtalgkffjceljiaaGreatDoor
open Go Go.Am Go.Proofs

theorem before_iff (a b : (ByteArray × ByteArray × ByteArray × Unit)) : g26_0 a b = true ↔ sless a.1 b.1 = true ∨ (a.1 = b.1 ∧ sless a.2.1 b.2.1 = true) := by
  unfold g26_0 sless
  have e := bytes_eq a.1 b.1
  cases h1 : Op.bytesLess (ByteArray.toList a.1) (ByteArray.toList b.1) with
  | true => simp
  | false =>
    cases h2 : (ByteArray.toList a.1 == ByteArray.toList b.1) with
    | true => rw [h2] at e; simp [e.1 rfl]
    | false =>
      rw [h2] at e
      have : a.1 ≠ b.1 := fun h => by have := e.2 h; cases this
      simp [this]

theorem before_trans {a b c : (ByteArray × ByteArray × ByteArray × Unit)} (h1 : g26_0 a b = true) (h2 : g26_0 b c = true) : g26_0 a c = true := by
  rw [before_iff] at *
  rcases h1 with h1 | ⟨e1, h1⟩
  · rcases h2 with h2 | ⟨e2, h2⟩
    · exact .inl (sless_trans h1 h2)
    · exact .inl (by rw [← e2]; exact h1)
  · rcases h2 with h2 | ⟨e2, h2⟩
    · exact .inl (by rw [e1]; exact h2)
    · exact .inr ⟨e1.trans e2, sless_trans h1 h2⟩


def twins (a b : (ByteArray × ByteArray × ByteArray × Unit)) : Prop := a.1 = b.1 ∧ a.2.1 = b.2.1

theorem before_twins {a b : (ByteArray × ByteArray × ByteArray × Unit)} (h : twins a b) : g26_0 a b = false := by
  rw [Bool.eq_false_iff]
  intro hb
  rw [before_iff, h.1, h.2, sless_irrefl, sless_irrefl] at hb
  simp at hb

theorem before_left {a b c : (ByteArray × ByteArray × ByteArray × Unit)} (h : twins b c) (hb : g26_0 a b = true) : g26_0 a c = true := by
  rw [before_iff] at *
  rw [← h.1, ← h.2]
  exact hb

theorem before_tri {a b : (ByteArray × ByteArray × ByteArray × Unit)} (h1 : g26_0 a b = false) (h2 : ¬ twins a b) : g26_0 b a = true := by
  rw [Bool.eq_false_iff, ne_eq, before_iff, not_or] at h1
  rw [before_iff]
  cases h3 : sless b.1 a.1 with
  | true => exact .inl rfl
  | false =>
    have e : a.1 = b.1 := sless_tri (Bool.eq_false_iff.2 h1.1) h3
    refine .inr ⟨e.symm, ?_⟩
    cases h4 : sless b.2.1 a.2.1 with
    | true => rfl
    | false =>
      exfalso
      refine h2 ⟨e, sless_tri (Bool.eq_false_iff.2 fun h => h1.2 ⟨e, h⟩) h4⟩


theorem allI_get {α : Type} {q : Nat → α → Bool} : ∀ {l : List α} {i : Nat}, allI q i l = true → ∀ (j : Nat) (h : j < l.length), q (i + j) l[j] = true
  | x :: r, i, h, j, hj => by
    simp only [allI, Bool.and_eq_true] at h
    cases j with
    | zero => exact h.1
    | succ j =>
      have := allI_get h.2 j (by simpa using hj)
      rw [show i + (j + 1) = i + 1 + j from by omega]
      exact this
  | [], _, _, j, hj => by cases hj

theorem sorted (x : List (ByteArray × ByteArray × ByteArray × Unit)) (h : g15_0 x = true) : x.length ≤ 32 ∧ ∀ i j : Nat, i < j → (hj : j < x.length) → g26_0 (x.getD i (ByteArray.empty, ByteArray.empty, ByteArray.empty, ())) (x.getD j (ByteArray.empty, ByteArray.empty, ByteArray.empty, ())) = true := by
  unfold g15_0 at h
  simp only [Bool.and_eq_true, decide_eq_true_eq] at h
  refine ⟨h.2, ?_⟩
  have step : ∀ j : Nat, j + 1 < x.length → g26_0 (x.getD j (ByteArray.empty, ByteArray.empty, ByteArray.empty, ())) (x.getD (j + 1) (ByteArray.empty, ByteArray.empty, ByteArray.empty, ())) = true := fun j hj => by
    have := allI_get h.1 (j + 1) hj
    rw [Nat.zero_add] at this
    unfold ok15 at this
    simp only [Bool.and_eq_true, Nat.add_sub_cancel] at this
    rw [getD_lt x (j + 1) _ hj]
    simpa using this.2
  intro i j hij
  induction j with
  | zero => omega
  | succ j ih =>
    intro hj
    rcases Nat.lt_or_ge i j with hlt | hge
    · exact before_trans (ih hlt (by omega)) (step j hj)
    · have : i = j := by omega
      subst this
      exact step i hj

theorem cut_atS (p : Nat → Bool) : ∀ N : Nat, (∀ i j, i < j → j < N → p j = true → p i = true) → ∃ k, k ≤ N ∧ ∀ i, i < N → p i = decide (i < k)
  | 0, _ => ⟨0, Nat.le_refl _, fun i h => by omega⟩
  | N + 1, hm => by
    obtain ⟨k, h1, h2⟩ := cut_atS p N (fun i j hij hj => hm i j hij (by omega))
    cases hp : p N with
    | true =>
      refine ⟨N + 1, Nat.le_refl _, fun i hi => ?_⟩
      rw [decide_eq_true hi]
      rcases Nat.lt_or_ge i N with h | h
      · exact hm i N h (by omega) hp
      · rw [show i = N from by omega]; exact hp
    | false =>
      refine ⟨k, by omega, fun i hi => ?_⟩
      rcases Nat.lt_or_ge i N with h | h
      · exact h2 i h
      · rw [show i = N from by omega, hp, decide_eq_false (by omega)]

end Go.Proofs.YtalgkffjceljiaaGreatDoor

/- A law that says how functions of the program and of the specification hang together. -/
set_option linter.unusedVariables false
set_option linter.unusedSimpArgs false
set_option maxRecDepth 100000
namespace Go.Proofs.YtalgkffjceljiaaGreatDoor
open Go Go.Am Go.Proofs


def Srt (x : List (ByteArray × ByteArray × ByteArray × Unit)) : Prop := ∀ i j : Nat, i < j → j < x.length → g26_0 (x.getD i (ByteArray.empty, ByteArray.empty, ByteArray.empty, ())) (x.getD j (ByteArray.empty, ByteArray.empty, ByteArray.empty, ())) = true

theorem twinB (y t : (ByteArray × ByteArray × ByteArray × Unit)) : (ByteArray.toList y.1 == ByteArray.toList t.1 && ByteArray.toList y.2.1 == ByteArray.toList t.2.1) = true ↔ twins y t := by
  unfold twins
  rw [Bool.and_eq_true, bytes_eq, bytes_eq]

theorem put_low (t : (ByteArray × ByteArray × ByteArray × Unit)) : ∀ (l h : List (ByteArray × ByteArray × ByteArray × Unit)), (∀ y ∈ l, g26_0 y t = true) → l.foldl (st39 t) (h, false) = (h ++ l, false)
  | [], h, _ => by simp
  | y :: r, h, hl => by
    have hb := hl y (List.mem_cons_self ..)
    have ht : ¬ twins y t := fun h => by rw [before_twins h] at hb; cases hb
    have hf : (ByteArray.toList y.1 == ByteArray.toList t.1 && ByteArray.toList y.2.1 == ByteArray.toList t.2.1) = false := Bool.eq_false_iff.2 fun h => ht ((twinB y t).1 h)
    have e : st39 t (h, false) y = (h ++ [y], false) := by
      unfold st39
      rw [hf, hb]
      rfl
    rw [List.foldl_cons, e, put_low t r (h ++ [y]) (fun z hz => hl z (List.mem_cons_of_mem _ hz))]
    simp

theorem put_high (t : (ByteArray × ByteArray × ByteArray × Unit)) : ∀ (l h : List (ByteArray × ByteArray × ByteArray × Unit)), (∀ y ∈ l, ¬ twins y t) → l.foldl (st39 t) (h, true) = (h ++ l, true)
  | [], h, _ => by simp
  | y :: r, h, hl => by
    have ht := hl y (List.mem_cons_self ..)
    have hf : (ByteArray.toList y.1 == ByteArray.toList t.1 && ByteArray.toList y.2.1 == ByteArray.toList t.2.1) = false := Bool.eq_false_iff.2 fun h => ht ((twinB y t).1 h)
    have e : st39 t (h, true) y = (h ++ [y], true) := by
      unfold st39
      rw [hf]
      rfl
    rw [List.foldl_cons, e, put_high t r (h ++ [y]) (fun z hz => hl z (List.mem_cons_of_mem _ hz))]
    simp

theorem mem_take_get {x : List (ByteArray × ByteArray × ByteArray × Unit)} {K : Nat} {y : (ByteArray × ByteArray × ByteArray × Unit)} (h : y ∈ x.take K) : ∃ i, i < K ∧ i < x.length ∧ y = x.getD i (ByteArray.empty, ByteArray.empty, ByteArray.empty, ()) := by
  obtain ⟨i, hi, rfl⟩ := List.mem_iff_getElem.1 h
  rw [List.length_take] at hi
  exact ⟨i, by omega, by omega, by rw [List.getElem_take, getD_lt _ _ _ (by omega)]⟩

theorem mem_drop_get {x : List (ByteArray × ByteArray × ByteArray × Unit)} {K : Nat} {y : (ByteArray × ByteArray × ByteArray × Unit)} (h : y ∈ x.drop K) : ∃ i, K ≤ i ∧ i < x.length ∧ y = x.getD i (ByteArray.empty, ByteArray.empty, ByteArray.empty, ()) := by
  obtain ⟨i, hi, rfl⟩ := List.mem_iff_getElem.1 h
  rw [List.length_drop] at hi
  exact ⟨K + i, by omega, by omega, by rw [List.getElem_drop, getD_lt _ _ _ (by omega)]⟩

open Classical in
theorem put_at (x : List (ByteArray × ByteArray × ByteArray × Unit)) (t : (ByteArray × ByteArray × ByteArray × Unit)) (hs : Srt x) (K : Nat) (hK : K ≤ x.length) (h1 : ∀ i, i < K → g26_0 (x.getD i (ByteArray.empty, ByteArray.empty, ByteArray.empty, ())) t = true) (h2 : ∀ i, K ≤ i → i < x.length → g26_0 (x.getD i (ByteArray.empty, ByteArray.empty, ByteArray.empty, ())) t = false) :
    g39_0 x t = if K < x.length ∧ twins (x.getD K (ByteArray.empty, ByteArray.empty, ByteArray.empty, ())) t then x.take K ++ t :: x.drop (K + 1) else x.take K ++ t :: x.drop K := by
  unfold g39_0
  have e : x.foldl (st39 t) ([], false) = (x.drop K).foldl (st39 t) (x.take K, false) := by
    conv => lhs; rw [← List.take_append_drop K x]
    rw [List.foldl_append, put_low t _ _ (fun y hy => by
      obtain ⟨i, hi, _, rfl⟩ := mem_take_get hy
      exact h1 i hi)]
    rfl
  rw [e]
  by_cases hlt : K < x.length
  · have hd : x.drop K = x.getD K (ByteArray.empty, ByteArray.empty, ByteArray.empty, ()) :: x.drop (K + 1) := drop_get x K _ hlt
    have hb := h2 K (Nat.le_refl _) hlt
    have hrest : ∀ y ∈ x.drop (K + 1), ¬ twins y t := fun y hy ht => by
      obtain ⟨i, hi, hl, rfl⟩ := mem_drop_get hy
      have := before_left ht (hs K i (by omega) hl)
      rw [hb] at this
      cases this
    rw [hd, List.foldl_cons]
    by_cases htw : twins (x.getD K (ByteArray.empty, ByteArray.empty, ByteArray.empty, ())) t
    · have e2 : st39 t (x.take K, false) (x.getD K (ByteArray.empty, ByteArray.empty, ByteArray.empty, ())) = (x.take K ++ [t], true) := by
        unfold st39
        rw [(twinB _ t).2 htw, hb]
        rfl
      rw [e2, put_high t _ _ hrest, if_pos ⟨hlt, htw⟩]
      simp [fin39]
    · have hf : (ByteArray.toList (x.getD K (ByteArray.empty, ByteArray.empty, ByteArray.empty, ())).1 == ByteArray.toList t.1 && ByteArray.toList (x.getD K (ByteArray.empty, ByteArray.empty, ByteArray.empty, ())).2.1 == ByteArray.toList t.2.1) = false := Bool.eq_false_iff.2 fun h => htw ((twinB _ t).1 h)
      have e2 : st39 t (x.take K, false) (x.getD K (ByteArray.empty, ByteArray.empty, ByteArray.empty, ())) = (x.take K ++ [t] ++ [x.getD K (ByteArray.empty, ByteArray.empty, ByteArray.empty, ())], true) := by
        unfold st39
        rw [hf, hb]
        rfl
      rw [e2, put_high t _ _ hrest, if_neg (fun h => htw h.2)]
      simp [fin39]
  · have : K = x.length := by omega
    rw [List.drop_of_length_le (by omega), if_neg (fun h => hlt h.1)]
    simp [fin39]

theorem before_right {a b c : (ByteArray × ByteArray × ByteArray × Unit)} (h : twins a b) (hb : g26_0 a c = true) : g26_0 b c = true := by
  rw [before_iff] at *
  rw [← h.1, ← h.2]
  exact hb

theorem srt_join {a b : List (ByteArray × ByteArray × ByteArray × Unit)} {t : (ByteArray × ByteArray × ByteArray × Unit)} (ha : Srt a) (hb : Srt b) (h1 : ∀ y ∈ a, g26_0 y t = true) (h2 : ∀ y ∈ b, g26_0 t y = true) : Srt (a ++ t :: b) := by
  have get : ∀ i, i < (a ++ t :: b).length → (i < a.length ∧ (a ++ t :: b).getD i (ByteArray.empty, ByteArray.empty, ByteArray.empty, ()) = a.getD i (ByteArray.empty, ByteArray.empty, ByteArray.empty, ())) ∨ (i = a.length ∧ (a ++ t :: b).getD i (ByteArray.empty, ByteArray.empty, ByteArray.empty, ()) = t) ∨ (a.length < i ∧ i - a.length - 1 < b.length ∧ (a ++ t :: b).getD i (ByteArray.empty, ByteArray.empty, ByteArray.empty, ()) = b.getD (i - a.length - 1) (ByteArray.empty, ByteArray.empty, ByteArray.empty, ())) := fun i hi => by
    simp only [List.length_append, List.length_cons] at hi
    rw [List.getD_eq_getElem?_getD]
    rcases Nat.lt_trichotomy i a.length with h | h | h
    · left; refine ⟨h, ?_⟩; rw [List.getElem?_append_left h, List.getD_eq_getElem?_getD]
    · right; left; refine ⟨h, ?_⟩; rw [List.getElem?_append_right (by omega), h, Nat.sub_self]; rfl
    · right; right
      obtain ⟨m, hm⟩ : ∃ m, i - a.length = m + 1 := ⟨i - a.length - 1, by omega⟩
      refine ⟨h, by omega, ?_⟩
      rw [List.getElem?_append_right (by omega), hm, List.getElem?_cons_succ, Nat.add_sub_cancel, List.getD_eq_getElem?_getD]
  have mem : ∀ (l : List (ByteArray × ByteArray × ByteArray × Unit)) i, i < l.length → l.getD i (ByteArray.empty, ByteArray.empty, ByteArray.empty, ()) ∈ l := fun l i hi => by rw [getD_lt _ _ _ hi]; exact List.getElem_mem _
  intro i j hij hj
  rcases get i (by omega) with ⟨i1, ei⟩ | ⟨i1, ei⟩ | ⟨i1, i2, ei⟩ <;> rcases get j hj with ⟨j1, ej⟩ | ⟨j1, ej⟩ | ⟨j1, j2, ej⟩ <;> rw [ei, ej]
  · exact ha i j hij j1
  · exact h1 _ (mem a i i1)
  · exact before_trans (h1 _ (mem a i i1)) (h2 _ (mem b _ j2))
  · omega
  · omega
  · exact h2 _ (mem b _ j2)
  · omega
  · omega
  · exact hb _ _ (by omega) j2

theorem srt_take {x : List (ByteArray × ByteArray × ByteArray × Unit)} (h : Srt x) (K : Nat) : Srt (x.take K) := fun i j hij hj => by
  rw [List.length_take] at hj
  have := h i j hij (by omega)
  rw [getD_lt _ _ _ (by omega), getD_lt _ _ _ (by omega)] at this
  rw [getD_lt _ _ _ (by rw [List.length_take]; omega), getD_lt _ _ _ (by rw [List.length_take]; omega), List.getElem_take, List.getElem_take]
  exact this

theorem srt_drop {x : List (ByteArray × ByteArray × ByteArray × Unit)} (h : Srt x) (K : Nat) : Srt (x.drop K) := fun i j hij hj => by
  rw [List.length_drop] at hj
  have := h (K + i) (K + j) (by omega) (by omega)
  rw [getD_lt _ _ _ (by omega), getD_lt _ _ _ (by omega)] at this
  rw [getD_lt _ _ _ (by rw [List.length_drop]; omega), getD_lt _ _ _ (by rw [List.length_drop]; omega), List.getElem_drop, List.getElem_drop]
  exact this

theorem low_before {x : List (ByteArray × ByteArray × ByteArray × Unit)} {t : (ByteArray × ByteArray × ByteArray × Unit)} {K : Nat} (p2 : ∀ i, i < K → g26_0 (x.getD i (ByteArray.empty, ByteArray.empty, ByteArray.empty, ())) t = true) : ∀ y ∈ x.take K, g26_0 y t = true := fun y hy => by
  obtain ⟨i, hi, _, rfl⟩ := mem_take_get hy
  exact p2 i hi

theorem place_ex (x : List (ByteArray × ByteArray × ByteArray × Unit)) (t : (ByteArray × ByteArray × ByteArray × Unit)) (hs : Srt x) : ∃ K, K ≤ x.length ∧ (∀ i, i < K → g26_0 (x.getD i (ByteArray.empty, ByteArray.empty, ByteArray.empty, ())) t = true) ∧ (∀ i, K ≤ i → i < x.length → g26_0 (x.getD i (ByteArray.empty, ByteArray.empty, ByteArray.empty, ())) t = false) := by
  obtain ⟨k, hk1, hk2⟩ := cut_atS (fun i => g26_0 (x.getD i (ByteArray.empty, ByteArray.empty, ByteArray.empty, ())) t) x.length (fun i j hij hj h => before_trans (hs i j hij hj) h)
  exact ⟨k, hk1, fun i hi => by rw [hk2 i (by omega)]; simpa using hi, fun i hi hl => by rw [hk2 i hl]; simpa using hi⟩

theorem put_parts (x : List (ByteArray × ByteArray × ByteArray × Unit)) (t : (ByteArray × ByteArray × ByteArray × Unit)) (hs : Srt x) : ∃ a b : List (ByteArray × ByteArray × ByteArray × Unit), g39_0 x t = a ++ t :: b ∧ (∀ y ∈ a, y ∈ x ∧ g26_0 y t = true) ∧ (∀ y ∈ b, y ∈ x ∧ g26_0 t y = true) ∧ (∀ y ∈ x, ¬ twins y t → y ∈ a ++ b) ∧ Srt (a ++ t :: b) ∧ (x = a ++ b ∨ ∃ y, twins y t ∧ x = a ++ y :: b) := by
  obtain ⟨K, p1, p2, p3⟩ := place_ex x t hs
  have e := put_at x t hs K p1 p2 p3
  have low := low_before p2
  by_cases h : K < x.length ∧ twins (x.getD K (ByteArray.empty, ByteArray.empty, ByteArray.empty, ())) t
  · rw [if_pos h] at e
    have hd : x.drop K = x.getD K (ByteArray.empty, ByteArray.empty, ByteArray.empty, ()) :: x.drop (K + 1) := drop_get x K _ h.1
    have ex : x = x.take K ++ x.getD K (ByteArray.empty, ByteArray.empty, ByteArray.empty, ()) :: x.drop (K + 1) := by rw [← hd, List.take_append_drop]
    have hb : ∀ y ∈ x.drop (K + 1), g26_0 t y = true := fun y hy => by
      obtain ⟨i, hi, hl, rfl⟩ := mem_drop_get hy
      exact before_right h.2 (hs K i (by omega) hl)
    refine ⟨x.take K, x.drop (K + 1), e, fun y hy => ⟨List.mem_of_mem_take hy, low y hy⟩, fun y hy => ⟨List.mem_of_mem_drop hy, hb y hy⟩, fun y hy hn => ?_, srt_join (srt_take hs K) (srt_drop hs _) low hb, .inr ⟨_, h.2, ex⟩⟩
    rw [ex] at hy
    rcases List.mem_append.1 hy with hy | hy
    · exact List.mem_append_left _ hy
    · rcases List.mem_cons.1 hy with rfl | hy
      · exact absurd h.2 hn
      · exact List.mem_append_right _ hy
  · rw [if_neg h] at e
    have hb : ∀ y ∈ x.drop K, g26_0 t y = true := fun y hy => by
      obtain ⟨i, hi, hl, rfl⟩ := mem_drop_get hy
      refine before_tri (p3 i hi hl) (fun ht => ?_)
      rcases Nat.lt_or_ge K i with hlt | hge
      · have := before_left ht (hs K i hlt hl)
        rw [p3 K (Nat.le_refl _) (by omega)] at this
        cases this
      · have : i = K := by omega
        subst this
        exact h ⟨hl, ht⟩
    refine ⟨x.take K, x.drop K, e, fun y hy => ⟨List.mem_of_mem_take hy, low y hy⟩, fun y hy => ⟨List.mem_of_mem_drop hy, hb y hy⟩, fun y hy hn => ?_, srt_join (srt_take hs K) (srt_drop hs _) low hb, .inl (List.take_append_drop K x).symm⟩
    rw [List.take_append_drop]
    exact hy

theorem srt_step {x : List (ByteArray × ByteArray × ByteArray × Unit)} (h : Srt x) (j : Nat) (hj : j + 1 < x.length) : g26_0 (x.getD j (ByteArray.empty, ByteArray.empty, ByteArray.empty, ())) (x.getD (j + 1) (ByteArray.empty, ByteArray.empty, ByteArray.empty, ())) = true := h j (j + 1) (by omega) hj

theorem allI_of {α : Type} {q : Nat → α → Bool} : ∀ {l : List α} {i : Nat}, (∀ (j : Nat) (h : j < l.length), q (i + j) l[j] = true) → allI q i l = true
  | [], _, _ => rfl
  | x :: r, i, h => by
    simp only [allI, Bool.and_eq_true]
    refine ⟨h 0 (by simp), allI_of fun j hj => ?_⟩
    have := h (j + 1) (by simpa using hj)
    rw [show i + (j + 1) = i + 1 + j from by omega] at this
    exact this

theorem ok_of_srt {x : List (ByteArray × ByteArray × ByteArray × Unit)} (h1 : ∀ y ∈ x, g25_0 y = true) (h2 : Srt x) (h3 : x.length ≤ 32) : g15_0 x = true := by
  unfold g15_0
  rw [decide_eq_true h3, Bool.and_true]
  refine allI_of fun j hj => ?_
  unfold ok15
  rw [Nat.zero_add, h1 _ (List.getElem_mem hj), Bool.true_and]
  cases j with
  | zero => rfl
  | succ j =>
    have := srt_step h2 j hj
    rw [getD_lt x (j + 1) _ hj] at this
    simp only [Nat.add_sub_cancel]
    rw [this, Bool.or_true]

theorem ok_one {x : List (ByteArray × ByteArray × ByteArray × Unit)} (h : g15_0 x = true) : ∀ y ∈ x, g25_0 y = true := fun y hy => by
  unfold g15_0 at h
  rw [Bool.and_eq_true] at h
  obtain ⟨j, hj, rfl⟩ := List.mem_iff_getElem.1 hy
  have := allI_get h.1 j hj
  unfold ok15 at this
  rw [Bool.and_eq_true] at this
  exact this.1

theorem ok_srt {x : List (ByteArray × ByteArray × ByteArray × Unit)} (h : g15_0 x = true) : Srt x := fun i j hij hj => (sorted x h).2 i j hij hj

end Go.Proofs.YtalgkffjceljiaaGreatDoor

/- Function 14 (spec.l29Draw): its runs between cut points. Written by a program of this repo (gen). -/
set_option linter.unusedVariables false
set_option linter.unusedSimpArgs false
set_option maxRecDepth 100000
namespace Go.Proofs.YtalgkffjceljiaaGreatDoor
open Go Go.Am Go.Proofs
noncomputable section
def ext14 : Ext := [(22, S22), (24, S24), (23, S23)]
theorem call14_22 : Callable Tryz.prog 22 := ⟨Tryz.f22, Tryz.func22, by kernel_rfl, by kernel_rfl⟩
theorem call14_24 : Callable Tryz.prog 24 := ⟨Tryz.f24, Tryz.func24, by kernel_rfl, by kernel_rfl⟩
theorem call14_23 : Callable Tryz.prog 23 := ⟨Tryz.f23, Tryz.func23, by kernel_rfl, by kernel_rfl⟩
theorem ext14Ok : ExtOk Tryz.prog ext14 := ⟨⟨call14_22, con22⟩, ⟨call14_24, con24⟩, ⟨call14_23, con23⟩, trivial⟩

noncomputable def b14 : Code := bodyOf Tryz.f14
theorem hb14 : Tryz.f14.body = some b14 := by kernel_rfl
def sig14 : List AT := [AT.pb (Ty.cons (Ty.sl (Ty.int IntKind.u8)) (Ty.cons (Ty.int IntKind.i64) (Ty.cons (Ty.int IntKind.u64) Ty.unit)))]
def tys14 : List Ty := [Ty.sl (Ty.cons Ty.str (Ty.cons Ty.str (Ty.cons Ty.str Ty.unit)))]
def kds14 : List RK := []
def oks14 : List AT := owns sig14
def E14_3 (v4 : Int) (h0 : List Int × Int × Int × Unit) (h1 : List (ByteArray × ByteArray × ByteArray × Unit)) : Env := [(0, PV.a (Atom.optr 0 0 [])), (3, PV.a (Atom.osl 1 Option.none)), (4, PV.a (Atom.val (Value.int IntKind.i64 v4)))]
def L14_3 (v4 : Int) (h0 : List Int × Int × Int × Unit) (h1 : List (ByteArray × ByteArray × ByteArray × Unit)) : Heap := [Option.some (Arr.mk (Ty.cons (Ty.sl (Ty.int IntKind.u8)) (Ty.cons (Ty.int IntKind.i64) (Ty.cons (Ty.int IntKind.u64) Ty.unit))) [h0] Bool.true Option.none (Option.some Bool.true)), Option.some (Arr.mk (Ty.cons Ty.str (Ty.cons Ty.str (Ty.cons Ty.str Ty.unit))) h1 Bool.false Option.none Option.none)]
mutual
def R14 : Nat → List Int × Int × Int × Unit → List Dyn → List (Option Lst) → Prop
  | 0, _, _, _ => False
  | n + 1, x0, ds, us => ((P22 x0 6) ∧ (R14_3 n (g22_0 x0 6) (u22_0 x0 6) ([]) ds us))
def R14_3 : Nat → Int → List Int × Int × Int × Unit → List (ByteArray × ByteArray × ByteArray × Unit) → List Dyn → List (Option Lst) → Prop
  | 0, _, _, _, _, _ => False
  | n + 1, v4, h0, h1, ds, us => (if (Decidable.decide (v4 > 0)) = true then ((P24 h0) ∧ ((P23 h1 (g24_0 h0)) ∧ (if (g23_1 h1 (g24_0 h0) == 0) = true then ((InR IntKind.i64 (v4 - 1)) ∧ (R14_3 n (v4 - 1) (u24_0 h0) (g23_0 h1 (g24_0 h0)) ds us)) else ((InR IntKind.i64 (v4 - 1)) ∧ (R14_3 n (v4 - 1) (u24_0 h0) (h1) ds us))))) else (ds = [Dyn.mk (Ty.sl (Ty.cons Ty.str (Ty.cons Ty.str (Ty.cons Ty.str Ty.unit)))) h1] ∧ us = [Option.some (Lst.mk (Ty.cons (Ty.sl (Ty.int IntKind.u8)) (Ty.cons (Ty.int IntKind.i64) (Ty.cons (Ty.int IntKind.u64) Ty.unit))) [h0])]))
end
theorem snd14 : ∀ n, (∀ (x0 : List Int × Int × Int × Unit) ds us, R14 n x0 ds us → ∀ K q, AtV Tryz.prog 14 (PostR kds14 oks14 ds us [0] q K) 25 K q [0] [.code b14] (entE 0 0 sig14 (x0, ())) (entL sig14 (x0, ()))) ∧ (∀ (v4 : Int) (h0 : List Int × Int × Int × Unit) (h1 : List (ByteArray × ByteArray × ByteArray × Unit)) ds us, R14_3 n v4 h0 h1 ds us → ∀ K q, AtV Tryz.prog 14 (PostR kds14 oks14 ds us [0] q K) 25 K q [0] (cutAt b14 3) (E14_3 v4 h0 h1) (L14_3 v4 h0 h1)) := by
  intro n
  induction n with
  | zero => exact ⟨fun _ _ _ h => by simp only [R14] at h, fun _ _ _ _ _ h => by simp only [R14_3] at h⟩
  | succ n ih =>
  obtain ⟨ih, ih3⟩ := ih
  refine ⟨?_, ?_⟩
  · intro x0 ds us h K q
    rw [R14] at h
    obtain ⟨s0, h⟩ := h
    exact AtV.go tabOk ext14Ok mixed false [] [] [0, 3, 4] [0, 1] [] (a1 s0 trivial) (ih3 _ _ _ _ _ h K q) (by kernel_rfl)

  · intro v4 h0 h1 ds us h K q
    rw [R14_3] at h
    by_cases b0 : (Decidable.decide (v4 > 0)) = true
    · rw [if_pos b0] at h
      obtain ⟨s0, h⟩ := h
      obtain ⟨s1, h⟩ := h
      by_cases b1 : (g23_1 h1 (g24_0 h0) == 0) = true
      · rw [if_pos b1] at h
        obtain ⟨s2, h⟩ := h
        exact AtV.go tabOk ext14Ok mixed false [] [] [0, 3, 4] [0, 2] [true, true] (a1 b0 (a1 s0 (a1 s1 (a1 b1 (a1 s2 trivial))))) (ih3 _ _ _ _ _ h K q) (by kernel_rfl)
      · rw [if_neg b1] at h
        replace b1 := Bool.eq_false_iff.2 b1
        obtain ⟨s2, h⟩ := h
        exact AtV.go tabOk ext14Ok mixed false [] [] [0, 3, 4] [0, 1] [true, false] (a1 b0 (a1 s0 (a1 s1 (a1 b1 (a1 s2 trivial))))) (ih3 _ _ _ _ _ h K q) (by kernel_rfl)
    · rw [if_neg b0] at h
      replace b0 := Bool.eq_false_iff.2 b0
      obtain ⟨h, h'⟩ := h; subst h; subst h'
      exact AtV.ret Tryz.func14 tabOk ext14Ok mixed false [] tys14 [false] (a1 b0 trivial) (by kernel_rfl)



def P14 (x0 : (List Int × Int × Int × Unit)) : Prop := SrcOk 800000000 x0
def kin14 : List ByteArray := [ByteArray.mk #[99, 104, 101, 99, 107], ByteArray.mk #[110, 111, 116, 101], ByteArray.mk #[102, 97, 99, 101]]
def Q14 (x0 : (List Int × Int × Int × Unit)) (y : List (ByteArray × ByteArray × ByteArray × Unit)) (s : (List Int × Int × Int × Unit)) : Prop := SrcOk (x0.2.1 + 20000) s ∧ g15_0 y = true ∧ y.length ≤ 5 ∧ (∀ b ∈ y, b.1 ∈ kin14) ∧ ∃ n, R14 n x0 [⟨.sl (.cons .str (.cons .str (.cons .str .unit))), y⟩] [some ⟨(.cons (.sl (.int .u8)) (.cons (.int .i64) (.cons (.int .u64) .unit))), [s]⟩]

theorem step14 {h : List (ByteArray × ByteArray × ByteArray × Unit)} {b : (ByteArray × ByteArray × ByteArray × Unit)} (hok : g15_0 h = true) (hk : ∀ b ∈ h, b.1 ∈ kin14) (hb : b.1 ∈ kin14) (hc : (g23_1 h b == 0) = true) :
    g15_0 (g23_0 h b) = true ∧ (g23_0 h b).length ≤ h.length + 1 ∧ ∀ c ∈ g23_0 h b, c.1 ∈ kin14 := by
  unfold g23_1 at hc
  unfold g23_0
  rw [hok] at hc ⊢
  cases h1 : g25_0 b with
  | false => rw [h1] at hc; simp at hc
  | true =>
    rw [h1] at hc
    by_cases h2 : ((g39_0 h b).length : Int) > 32
    · rw [decide_eq_true h2] at hc; simp at hc
    · rw [decide_eq_false h2]
      simp only [Bool.not_true, Bool.false_eq_true, if_false]
      obtain ⟨a, d, e, ha, hd, _, hs, hx⟩ := put_parts h b (ok_srt hok)
      have hall : ∀ c ∈ g39_0 h b, c ∈ h ∨ c = b := fun c hc => by
        rw [e] at hc
        rcases List.mem_append.1 hc with hc | hc
        · exact .inl (ha c hc).1
        · rcases List.mem_cons.1 hc with rfl | hc
          · exact .inr rfl
          · exact .inl (hd c hc).1
      refine ⟨ok_of_srt (fun c hc => ?_) (by rw [e]; exact hs) (by omega), len39 h b, fun c hc => ?_⟩
      · rcases hall c hc with hc | rfl
        · exact ok_one hok c hc
        · exact h1
      · rcases hall c hc with hc | rfl
        · exact hk c hc
        · exact hb

theorem run14 : ∀ (k : Nat) (v : Int) (s : (List Int × Int × Int × Unit)) (h : List (ByteArray × ByteArray × ByteArray × Unit)) (m : Int), v = (k : Int) → SrcOk m s → m + 2000 * (k : Int) ≤ 890000000 → g15_0 h = true → (∀ b ∈ h, b.1 ∈ kin14) →
    ∃ (y : List (ByteArray × ByteArray × ByteArray × Unit)) (t : (List Int × Int × Int × Unit)), SrcOk (m + 2000 * (k : Int)) t ∧ g15_0 y = true ∧ y.length ≤ h.length + k ∧ (∀ b ∈ y, b.1 ∈ kin14) ∧ R14_3 (k + 1) v s h [⟨.sl (.cons .str (.cons .str (.cons .str .unit))), y⟩] [some ⟨(.cons (.sl (.int .u8)) (.cons (.int .i64) (.cons (.int .u64) .unit))), [t]⟩] := by
  intro k
  induction k with
  | zero =>
    intro v s h m hv hs hm hok hk
    refine ⟨h, s, hs.up (by omega), hok, by omega, hk, ?_⟩
    rw [R14_3, if_neg (by simp only [decide_eq_true_eq]; omega)]
    exact ⟨rfl, rfl⟩
  | succ k ih =>
    intro v s h m hv hs hm hok hk
    have p1 : P24 s := hs.up (by omega)
    obtain ⟨s1, k1, _, _⟩ := q24 s p1
    have hat := hs.2.2
    have hat0 := hs.2.1
    have p2 : P23 h (g24_0 s) := by
      unfold P23
      have hl := (sorted h hok).1
      split
      · trivial
      · split
        · trivial
        · exact ⟨(show h.length ≤ 1048576 from by omega), trivial⟩
    have hv' : v - 1 = ((k : Nat) : Int) := by omega
    by_cases hc : (g23_1 h (g24_0 s) == 0) = true
    · obtain ⟨a1, a2, a3⟩ := step14 hok hk k1 hc
      obtain ⟨y, t, b1, b2, b3, b4, b5⟩ := ih (v - 1) _ _ (m + 2000) hv' (s1.up (by omega)) (by omega) a1 a3
      refine ⟨y, t, b1.up (by omega), b2, by omega, b4, ?_⟩
      rw [R14_3, if_pos (by simp only [decide_eq_true_eq]; omega)]
      refine ⟨p1, p2, ?_⟩
      rw [if_pos hc]
      exact ⟨by rw [i64_iff]; omega, b5⟩
    · obtain ⟨y, t, b1, b2, b3, b4, b5⟩ := ih (v - 1) _ _ (m + 2000) hv' (s1.up (by omega)) (by omega) hok hk
      refine ⟨y, t, b1.up (by omega), b2, by omega, b4, ?_⟩
      rw [R14_3, if_pos (by simp only [decide_eq_true_eq]; omega)]
      refine ⟨p1, p2, ?_⟩
      rw [if_neg hc]
      exact ⟨by rw [i64_iff]; omega, b5⟩

theorem ex14 (x0 : (List Int × Int × Int × Unit)) (h : P14 x0) : ∃ y s, Q14 x0 y s := by
  have h0 : x0.2.1 ≤ 800000000 := h.2.2
  obtain ⟨p1, s1, a, b, _⟩ := pick_ok (SrcOk.self h) 6 (by omega)
  have b := b (by decide)
  obtain ⟨y, t, b1, b2, b3, b4, b5⟩ := run14 (g22_0 x0 6).toNat (g22_0 x0 6) _ [] _ (by omega) s1 (by omega) rfl (fun _ h => by cases h)
  simp only [List.length_nil] at b3
  refine ⟨y, t, b1.up (by omega), b2, by omega, b4, (g22_0 x0 6).toNat + 1 + 1, ?_⟩
  rw [R14]
  exact ⟨p1, b5⟩

def g14_0 (x0 : (List Int × Int × Int × Unit)) : List (ByteArray × ByteArray × ByteArray × Unit) := (sel2 [] x0 (Q14 x0)).1
def u14_0 (x0 : (List Int × Int × Int × Unit)) : (List Int × Int × Int × Unit) := (sel2 [] x0 (Q14 x0)).2
theorem q14 (x0 : (List Int × Int × Int × Unit)) (h : P14 x0) : Q14 x0 (g14_0 x0) (u14_0 x0) := by
  obtain ⟨y, s, hq⟩ := ex14 x0 h
  exact sel2_spec hq

def S14 : Am.Spec := { sig := sig14, pre := fun ⟨x0, _⟩ => P14 x0, upd := fun ⟨x0, _⟩ => [some ⟨(.cons (.sl (.int .u8)) (.cons (.int .i64) (.cons (.int .u64) .unit))), [u14_0 x0]⟩], res := fun ⟨x0, _⟩ => [⟨.sl (.cons .str (.cons .str (.cons .str .unit))), g14_0 x0⟩], kds := kds14 }
theorem con14 : Contract Tryz.prog 14 S14 := contract_of Tryz.func14 hb14 (Nat.le_of_ble_eq_true (by kernel_rfl)) (fun ⟨x0, _⟩ h hwf K q =>
  let ⟨n, hn⟩ := (q14 x0 h).2.2.2.2
  (snd14 n).1 x0 _ _ hn K q)

end
end Go.Proofs.YtalgkffjceljiaaGreatDoor

/- Function 5 (spec.R8Blocks): its runs between cut points. Written by a program of this repo (gen). -/
set_option linter.unusedVariables false
set_option linter.unusedSimpArgs false
set_option maxRecDepth 100000
namespace Go.Proofs.YtalgkffjceljiaaGreatDoor
open Go Go.Am Go.Proofs
noncomputable section
def ext5 : Ext := [(13, S13), (14, S14)]
theorem call5_13 : Callable Tryz.prog 13 := ⟨Tryz.f13, Tryz.func13, by kernel_rfl, by kernel_rfl⟩
theorem call5_14 : Callable Tryz.prog 14 := ⟨Tryz.f14, Tryz.func14, by kernel_rfl, by kernel_rfl⟩
theorem ext5Ok : ExtOk Tryz.prog ext5 := ⟨⟨call5_13, con13⟩, ⟨call5_14, con14⟩, trivial⟩

noncomputable def b5 : Code := bodyOf Tryz.f5
theorem hb5 : Tryz.f5.body = some b5 := by kernel_rfl
def sig5 : List AT := [AT.v (Ty.sl (Ty.int IntKind.u8))]
def tys5 : List Ty := [Ty.sl (Ty.cons Ty.str (Ty.cons Ty.str (Ty.cons Ty.str Ty.unit)))]
def kds5 : List RK := []
def oks5 : List AT := owns sig5
def P5 (x0 : List Int) : Prop := ((P14 (g13_0 x0)) ∧ True)
def g5_0 (x0 : List Int) : List (ByteArray × ByteArray × ByteArray × Unit) := g14_0 (g13_0 x0)
theorem at5 (x0 : List Int) (h : P5 x0) (K : Ctx) (q : Nat → Value) : AtV Tryz.prog 5 (PostR kds5 oks5 [⟨Ty.sl (Ty.cons Ty.str (Ty.cons Ty.str (Ty.cons Ty.str Ty.unit))), g5_0 x0⟩] [] [] q K) 8 K q [] [.code b5] (entE 0 0 sig5 (x0, ())) (entL sig5 (x0, ())) := by
  unfold P5 at h
  unfold g5_0
  obtain ⟨s0, h⟩ := h
  exact AtV.ret Tryz.func5 tabOk ext5Ok mixed false [] tys5 [] (a1 trivial (a1 s0 trivial)) (by kernel_rfl)

def S5 : Am.Spec := { sig := sig5, pre := fun ⟨x0, _⟩ => P5 x0, res := fun ⟨x0, _⟩ => [⟨Ty.sl (Ty.cons Ty.str (Ty.cons Ty.str (Ty.cons Ty.str Ty.unit))), g5_0 x0⟩], kds := kds5 }
theorem con5 : Contract Tryz.prog 5 S5 := contract_of Tryz.func5 hb5 (Nat.le_of_ble_eq_true (by kernel_rfl)) (fun ⟨x0, _⟩ h _ K q => at5 x0 h K q)


end
end Go.Proofs.YtalgkffjceljiaaGreatDoor

/- Function 47 (spec.l01Crc): its runs between cut points. Written by a program of this repo (gen). -/
set_option linter.unusedVariables false
set_option linter.unusedSimpArgs false
set_option maxRecDepth 100000
namespace Go.Proofs.YtalgkffjceljiaaGreatDoor
open Go Go.Am Go.Proofs
noncomputable section
def ext47 : Ext := []
theorem ext47Ok : ExtOk Tryz.prog ext47 := trivial

noncomputable def b47 : Code := bodyOf Tryz.f47
theorem hb47 : Tryz.f47.body = some b47 := by kernel_rfl
def sig47 : List AT := [AT.v (Ty.str), AT.v (Ty.int IntKind.i64)]
def tys47 : List Ty := [Ty.int IntKind.i64]
def kds47 : List RK := []
def oks47 : List AT := owns sig47
def E47_2 (v5 : Int) (x0 : ByteArray) (x1 : Int) : Env := [(0, PV.a (Atom.val (Value.string x0))), (1, PV.a (Atom.val (Value.int IntKind.i64 x1))), (5, PV.a (Atom.val (Value.int IntKind.i64 v5)))]
def L47_2 (v5 : Int) (x0 : ByteArray) (x1 : Int) : Heap := []
def E47_6 (v1 : Int) (v6 : Int) (x0 : ByteArray) (v5 : Int) : Env := [(0, PV.a (Atom.val (Value.string x0))), (1, PV.a (Atom.val (Value.int IntKind.i64 v1))), (5, PV.a (Atom.val (Value.int IntKind.i64 v5))), (6, PV.a (Atom.val (Value.int IntKind.i64 v6)))]
def L47_6 (v1 : Int) (v6 : Int) (x0 : ByteArray) (v5 : Int) : Heap := []
mutual
def R47 : Nat → ByteArray → Int → List Dyn → Prop
  | 0, _, _, _ => False
  | n + 1, x0, x1, ds => (R47_2 n (0) (x0) (x1) ds)
def R47_2 : Nat → Int → ByteArray → Int → List Dyn → Prop
  | 0, _, _, _, _ => False
  | n + 1, v5, x0, x1, ds => (if (Decidable.decide (v5 < (↑(ByteArray.size x0) : Int))) = true then ((0 ≤ v5) ∧ (v5 < (↑(ByteArray.size x0) : Int)) ∧ ((InR IntKind.i64 (↑(UInt8.toNat (List.getD (Array.toList (ByteArray.data x0)) (Int.toNat v5) 0)) : Int)) ∧ (R47_6 n (IntKind.wrap IntKind.i64 (↑(BitVec.toNat (BitVec.ofInt 64 x1 ^^^ BitVec.ofInt 64 (IntKind.wrap IntKind.i64 ((↑(UInt8.toNat (List.getD (Array.toList (ByteArray.data x0)) (Int.toNat v5) 0)) : Int) * 256)))) : Int)) (0) (x0) (v5) ds))) else (ds = [Dyn.mk (Ty.int IntKind.i64) x1]))
def R47_6 : Nat → Int → Int → ByteArray → Int → List Dyn → Prop
  | 0, _, _, _, _, _ => False
  | n + 1, v1, v6, x0, v5, ds => (if (Decidable.decide (v6 < 8)) = true then (if (Decidable.decide (IntKind.wrap IntKind.i64 (v1 * 2) > 65535)) = true then ((InR IntKind.i64 (v6 + 1)) ∧ (R47_6 n (IntKind.wrap IntKind.i64 (↑(BitVec.toNat (BitVec.ofInt 64 (IntKind.wrap IntKind.i64 (↑(BitVec.toNat (BitVec.ofInt 64 (IntKind.wrap IntKind.i64 (v1 * 2)) &&& BitVec.ofInt 64 65535)) : Int)) ^^^ BitVec.ofInt 64 4129)) : Int)) (v6 + 1) (x0) (v5) ds)) else ((InR IntKind.i64 (v6 + 1)) ∧ (R47_6 n (IntKind.wrap IntKind.i64 (v1 * 2)) (v6 + 1) (x0) (v5) ds))) else ((InR IntKind.i64 (v5 + 1)) ∧ (R47_2 n (v5 + 1) (x0) (v1) ds)))
end
theorem snd47 : ∀ n, (∀ (x0 : ByteArray) (x1 : Int) ds, R47 n x0 x1 ds → ∀ K q, AtV Tryz.prog 47 (PostR kds47 oks47 ds [] [] q K) 32 K q [] [.code b47] (entE 0 0 sig47 (x0, x1, ())) (entL sig47 (x0, x1, ()))) ∧ (∀ (v5 : Int) (x0 : ByteArray) (x1 : Int) ds, R47_2 n v5 x0 x1 ds → ∀ K q, AtV Tryz.prog 47 (PostR kds47 oks47 ds [] [] q K) 32 K q [] (cutAt b47 2) (E47_2 v5 x0 x1) (L47_2 v5 x0 x1)) ∧ (∀ (v1 : Int) (v6 : Int) (x0 : ByteArray) (v5 : Int) ds, R47_6 n v1 v6 x0 v5 ds → ∀ K q, AtV Tryz.prog 47 (PostR kds47 oks47 ds [] [] q K) 32 K q [] (cutAt b47 6) (E47_6 v1 v6 x0 v5) (L47_6 v1 v6 x0 v5)) := by
  intro n
  induction n with
  | zero => exact ⟨fun _ _ _ h => by simp only [R47] at h, fun _ _ _ _ h => by simp only [R47_2] at h, fun _ _ _ _ _ h => by simp only [R47_6] at h⟩
  | succ n ih =>
  obtain ⟨ih, ih2, ih6⟩ := ih
  refine ⟨?_, ?_, ?_⟩
  · intro x0 x1 ds h K q
    rw [R47] at h
    exact AtV.go tabOk ext47Ok mixed false [] [] [0, 1, 5] [] [] trivial (ih2 _ _ _ _ h K q) (by kernel_rfl)

  · intro v5 x0 x1 ds h K q
    rw [R47_2] at h
    by_cases b0 : (Decidable.decide (v5 < (↑(ByteArray.size x0) : Int))) = true
    · rw [if_pos b0] at h
      obtain ⟨s0, s1, h⟩ := h
      obtain ⟨s2, h⟩ := h
      exact AtV.go tabOk ext47Ok mixed false [] [] [0, 1, 5, 6] [] [true] (a1 b0 (a1 s0 (a1 s1 (a1 s2 (a1 ((by decide) : (0 : Int) ≤ (8 : Int)) trivial))))) (ih6 _ _ _ _ _ h K q) (by kernel_rfl)
    · rw [if_neg b0] at h
      replace b0 := Bool.eq_false_iff.2 b0
      subst h
      exact AtV.ret Tryz.func47 tabOk ext47Ok mixed false [] tys47 [false] (a1 b0 trivial) (by kernel_rfl)

  · intro v1 v6 x0 v5 ds h K q
    rw [R47_6] at h
    by_cases b0 : (Decidable.decide (v6 < 8)) = true
    · rw [if_pos b0] at h
      by_cases b1 : (Decidable.decide (IntKind.wrap IntKind.i64 (v1 * 2) > 65535)) = true
      · rw [if_pos b1] at h
        obtain ⟨s0, h⟩ := h
        exact AtV.go tabOk ext47Ok mixed false [] [] [0, 1, 5, 6] [] [true, true] (a1 b0 (a1 ((by decide) : (0 : Int) ≤ (1 : Int)) (a1 b1 (a1 s0 trivial)))) (ih6 _ _ _ _ _ h K q) (by kernel_rfl)
      · rw [if_neg b1] at h
        replace b1 := Bool.eq_false_iff.2 b1
        obtain ⟨s0, h⟩ := h
        exact AtV.go tabOk ext47Ok mixed false [] [] [0, 1, 5, 6] [] [true, false] (a1 b0 (a1 ((by decide) : (0 : Int) ≤ (1 : Int)) (a1 b1 (a1 s0 trivial)))) (ih6 _ _ _ _ _ h K q) (by kernel_rfl)
    · rw [if_neg b0] at h
      replace b0 := Bool.eq_false_iff.2 b0
      obtain ⟨s0, h⟩ := h
      exact AtV.go tabOk ext47Ok mixed false [] [] [0, 1, 5] [] [false] (a1 b0 (a1 s0 trivial)) (ih2 _ _ _ _ h K q) (by kernel_rfl)



def bit47 (s : Int) : Int := if (Decidable.decide (IntKind.wrap IntKind.i64 (s * 2) > 65535)) = true then (IntKind.wrap IntKind.i64 (↑(BitVec.toNat (BitVec.ofInt 64 (IntKind.wrap IntKind.i64 (↑(BitVec.toNat (BitVec.ofInt 64 (IntKind.wrap IntKind.i64 (s * 2)) &&& BitVec.ofInt 64 65535)) : Int)) ^^^ BitVec.ofInt 64 4129)) : Int)) else (IntKind.wrap IntKind.i64 (s * 2))
def bits47 : Nat → Int → Int
  | 0, s => s
  | k + 1, s => bits47 k (bit47 s)
def byte47 (s c : Int) : Int := bits47 8 (IntKind.wrap IntKind.i64 (↑(BitVec.toNat (BitVec.ofInt 64 s ^^^ BitVec.ofInt 64 (IntKind.wrap IntKind.i64 (c * 256)))) : Int))
def g47_0 (x0 : ByteArray) (x1 : Int) : Int := (bytesOf x0).foldl byte47 x1
def P47 (x0 : ByteArray) (x1 : Int) : Prop := True

theorem inner47 (x0 : ByteArray) (hm : (bytesOf x0).length ≤ maxLen) (i n : Nat) (hi : i < (bytesOf x0).length) (ds : List Dyn) : ∀ (k j : Nat) (s : Int), j + k = 8 → R47_2 n ((i : Int) + 1) x0 (bits47 k s) ds → R47_6 (n + 1 + k) s (j : Int) x0 (i : Int) ds := by
  intro k
  induction k with
  | zero =>
    intro j s hj hr
    rw [R47_6, if_neg (by simp; omega)]
    exact ⟨inR_up hm hi, hr⟩
  | succ k ih =>
    intro j s hj hr
    have e2 : (j : Int) + 1 = ((j + 1 : Nat) : Int) := by omega
    rw [show n + 1 + (k + 1) = (n + 1 + k) + 1 by omega, R47_6, if_pos (by simp; omega)]
    unfold bits47 bit47 at hr
    by_cases hc : (Decidable.decide (IntKind.wrap IntKind.i64 (s * 2) > 65535)) = true
    · rw [if_pos hc] at hr ⊢
      rw [e2]
      exact ⟨by rw [i64_iff]; omega, ih (j + 1) _ (by omega) hr⟩
    · rw [if_neg hc] at hr ⊢
      rw [e2]
      exact ⟨by rw [i64_iff]; omega, ih (j + 1) _ (by omega) hr⟩

theorem run47 (x0 : ByteArray) (hm : x0.size ≤ maxLen) : ∀ (k i : Nat) (s : Int), i + k = x0.size → ∃ n, R47_2 n (i : Int) x0 s [⟨.int .i64, ((bytesOf x0).drop i).foldl byte47 s⟩] := by
  intro k
  have hl := bytesOf_length x0
  induction k with
  | zero =>
    intro i s hi
    refine ⟨1, ?_⟩
    rw [R47_2, if_neg (by simp; omega), List.drop_of_length_le (by omega)]
    rfl
  | succ k ih =>
    intro i s hi
    have hlt : i < (bytesOf x0).length := by omega
    have hcons := drop_get (bytesOf x0) i 0 hlt
    obtain ⟨n, hn⟩ := ih (i + 1) (byte47 s ((bytesOf x0).getD i 0)) (by omega)
    refine ⟨n + 1 + 8 + 1, ?_⟩
    have hb := bytesOf_range x0 _ (mem_getD (bytesOf x0) i 0 hlt)
    rw [R47_2, if_pos (by simp; omega)]
    simp only [Int.toNat_natCast, byte_get]
    rw [hcons, List.foldl_cons]
    exact ⟨by omega, by omega, by rw [i64_iff]; omega, inner47 x0 (by rw [hl]; exact hm) i n hlt _ 8 0 _ (by omega) hn⟩

theorem top47 (x0 : ByteArray) (x1 : Int) (hm : x0.size ≤ maxLen) : ∃ n, R47 n x0 x1 [⟨.int .i64, g47_0 x0 x1⟩] := by
  obtain ⟨n, hn⟩ := run47 x0 hm x0.size 0 x1 (by omega)
  refine ⟨n + 1, ?_⟩
  rw [R47]
  exact hn

def S47 : Am.Spec := { sig := sig47, pre := fun ⟨x0, x1, _⟩ => P47 x0 x1, res := fun ⟨x0, x1, _⟩ => [⟨Ty.int .i64, g47_0 x0 x1⟩] }
theorem con47 : Contract Tryz.prog 47 S47 := contract_of Tryz.func47 hb47 (Nat.le_of_ble_eq_true (by kernel_rfl)) (fun ⟨x0, x1, _⟩ h hwf K q =>
  let ⟨n, hn⟩ := top47 x0 x1 hwf.1
  (snd47 n).1 x0 x1 _ hn K q)

end
end Go.Proofs.YtalgkffjceljiaaGreatDoor

/- Function 46 (spec.l29Five): its runs between cut points. Written by a program of this repo (gen). -/
set_option linter.unusedVariables false
set_option linter.unusedSimpArgs false
set_option maxRecDepth 100000
namespace Go.Proofs.YtalgkffjceljiaaGreatDoor
open Go Go.Am Go.Proofs
noncomputable section
def ext46 : Ext := [(27, S27)]
theorem call46_27 : Callable Tryz.prog 27 := ⟨Tryz.f27, Tryz.func27, by kernel_rfl, by kernel_rfl⟩
theorem ext46Ok : ExtOk Tryz.prog ext46 := ⟨⟨call46_27, con27⟩, trivial⟩

noncomputable def b46 : Code := bodyOf Tryz.f46
theorem hb46 : Tryz.f46.body = some b46 := by kernel_rfl
def sig46 : List AT := [AT.v (Ty.int IntKind.i64)]
def tys46 : List Ty := [Ty.str]
def kds46 : List RK := []
def oks46 : List AT := owns sig46
def E46_2 (v3 : ByteArray) : Env := [(3, PV.a (Atom.val (Value.string v3)))]
def L46_2 (v3 : ByteArray) : Heap := []
mutual
def R46 : Nat → Int → List Dyn → Prop
  | 0, _, _ => False
  | n + 1, x0, ds => (R46_2 n (g27_0 x0) ds)
def R46_2 : Nat → ByteArray → List Dyn → Prop
  | 0, _, _ => False
  | n + 1, v3, ds => (if (Decidable.decide ((↑(ByteArray.size v3) : Int) < 5)) = true then ((1 + ByteArray.size v3 ≤ 9223372036854775807) ∧ (R46_2 n (ByteArray.mk #[48] ++ v3) ds)) else (ds = [Dyn.mk Ty.str v3]))
end
theorem snd46 : ∀ n, (∀ (x0 : Int) ds, R46 n x0 ds → ∀ K q, AtV Tryz.prog 46 (PostR kds46 oks46 ds [] [] q K) 12 K q [] [.code b46] (entE 0 0 sig46 (x0, ())) (entL sig46 (x0, ()))) ∧ (∀ (v3 : ByteArray) ds, R46_2 n v3 ds → ∀ K q, AtV Tryz.prog 46 (PostR kds46 oks46 ds [] [] q K) 12 K q [] (cutAt b46 2) (E46_2 v3) (L46_2 v3)) := by
  intro n
  induction n with
  | zero => exact ⟨fun _ _ h => by simp only [R46] at h, fun _ _ h => by simp only [R46_2] at h⟩
  | succ n ih =>
  obtain ⟨ih, ih2⟩ := ih
  refine ⟨?_, ?_⟩
  · intro x0 ds h K q
    rw [R46] at h
    exact AtV.go tabOk ext46Ok mixed false [] [] [3] [] [] (a1 trivial trivial) (ih2 _ _ h K q) (by kernel_rfl)

  · intro v3 ds h K q
    rw [R46_2] at h
    by_cases b0 : (Decidable.decide ((↑(ByteArray.size v3) : Int) < 5)) = true
    · rw [if_pos b0] at h
      obtain ⟨s0, h⟩ := h
      exact AtV.go tabOk ext46Ok mixed false [] [] [3] [] [true] (a1 b0 (a1 s0 trivial)) (ih2 _ _ h K q) (by kernel_rfl)
    · rw [if_neg b0] at h
      replace b0 := Bool.eq_false_iff.2 b0
      subst h
      exact AtV.ret Tryz.func46 tabOk ext46Ok mixed false [] tys46 [false] (a1 b0 trivial) (by kernel_rfl)



def f546 : Nat → ByteArray → ByteArray
  | 0, s => s
  | k + 1, s => if s.size < 5 then f546 k (ByteArray.mk #[48] ++ s) else s
def g46_0 (x0 : Int) : ByteArray := f546 5 (g27_0 x0)
def P46 (x0 : Int) : Prop := True

theorem run46 : ∀ (k : Nat) (s : ByteArray), 5 ≤ s.size + k → R46_2 (k + 1) s [⟨.str, f546 k s⟩] := by
  intro k
  have i48 : (ByteArray.mk #[48]).size = 1 := rfl
  induction k with
  | zero =>
    intro s h
    rw [R46_2, if_neg (by simp; omega)]
    rfl
  | succ k ih =>
    intro s h
    rw [R46_2]
    unfold f546
    by_cases hc : s.size < 5
    · rw [if_pos (by simp; omega), if_pos hc]
      exact ⟨by omega, ih _ (by rw [ByteArray.size_append, i48]; omega)⟩
    · rw [if_neg (by simp; omega), if_neg hc]

theorem top46 (x0 : Int) : R46 7 x0 [⟨.str, g46_0 x0⟩] := by
  rw [R46]
  exact run46 5 _ (by omega)

def S46 : Am.Spec := { sig := sig46, pre := fun ⟨x0, _⟩ => P46 x0, res := fun ⟨x0, _⟩ => [⟨Ty.str, g46_0 x0⟩] }
theorem con46 : Contract Tryz.prog 46 S46 := contract_of Tryz.func46 hb46 (Nat.le_of_ble_eq_true (by kernel_rfl)) (fun ⟨x0, _⟩ h hwf K q =>
  (snd46 _).1 x0 _ (top46 x0) K q)

end
end Go.Proofs.YtalgkffjceljiaaGreatDoor

/- Function 28 (spec.l29Line): its runs between cut points. Written by a program of this repo (gen). -/
set_option linter.unusedVariables false
set_option linter.unusedSimpArgs false
set_option maxRecDepth 100000
namespace Go.Proofs.YtalgkffjceljiaaGreatDoor
open Go Go.Am Go.Proofs
noncomputable section
def ext28 : Ext := [(47, S47), (46, S46)]
theorem call28_47 : Callable Tryz.prog 47 := ⟨Tryz.f47, Tryz.func47, by kernel_rfl, by kernel_rfl⟩
theorem call28_46 : Callable Tryz.prog 46 := ⟨Tryz.f46, Tryz.func46, by kernel_rfl, by kernel_rfl⟩
theorem ext28Ok : ExtOk Tryz.prog ext28 := ⟨⟨call28_47, con47⟩, ⟨call28_46, con46⟩, trivial⟩

noncomputable def b28 : Code := bodyOf Tryz.f28
theorem hb28 : Tryz.f28.body = some b28 := by kernel_rfl
def sig28 : List AT := [AT.p (Ty.cons Ty.str (Ty.cons Ty.str (Ty.cons Ty.str Ty.unit)))]
def tys28 : List Ty := [Ty.str]
def kds28 : List RK := []
def oks28 : List AT := owns sig28
def P28 (x0 : ByteArray × ByteArray × ByteArray × Unit) : Prop := ((ByteArray.size (Prod.fst x0) + 1 ≤ 9223372036854775807) ∧ ((ByteArray.size (Prod.fst x0 ++ ByteArray.mk #[32]) + ByteArray.size (Prod.fst (Prod.snd x0)) ≤ 9223372036854775807) ∧ ((ByteArray.size (Prod.fst x0 ++ ByteArray.mk #[32] ++ Prod.fst (Prod.snd x0)) + 1 ≤ 9223372036854775807) ∧ ((ByteArray.size (Prod.fst x0 ++ ByteArray.mk #[32] ++ Prod.fst (Prod.snd x0) ++ ByteArray.mk #[32]) + ByteArray.size (Prod.fst (Prod.snd (Prod.snd x0))) ≤ 9223372036854775807) ∧ ((ByteArray.size (g46_0 (g47_0 (Prod.fst x0 ++ ByteArray.mk #[32] ++ Prod.fst (Prod.snd x0) ++ ByteArray.mk #[32] ++ Prod.fst (Prod.snd (Prod.snd x0))) 65535)) + 1 ≤ 9223372036854775807) ∧ ((ByteArray.size (g46_0 (g47_0 (Prod.fst x0 ++ ByteArray.mk #[32] ++ Prod.fst (Prod.snd x0) ++ ByteArray.mk #[32] ++ Prod.fst (Prod.snd (Prod.snd x0))) 65535) ++ ByteArray.mk #[32]) + ByteArray.size (Prod.fst x0 ++ ByteArray.mk #[32] ++ Prod.fst (Prod.snd x0) ++ ByteArray.mk #[32] ++ Prod.fst (Prod.snd (Prod.snd x0))) ≤ 9223372036854775807) ∧ ((ByteArray.size (g46_0 (g47_0 (Prod.fst x0 ++ ByteArray.mk #[32] ++ Prod.fst (Prod.snd x0) ++ ByteArray.mk #[32] ++ Prod.fst (Prod.snd (Prod.snd x0))) 65535) ++ ByteArray.mk #[32] ++ (Prod.fst x0 ++ ByteArray.mk #[32] ++ Prod.fst (Prod.snd x0) ++ ByteArray.mk #[32] ++ Prod.fst (Prod.snd (Prod.snd x0)))) + 1 ≤ 9223372036854775807) ∧ True)))))))
def g28_0 (x0 : ByteArray × ByteArray × ByteArray × Unit) : ByteArray := g46_0 (g47_0 (Prod.fst x0 ++ ByteArray.mk #[32] ++ Prod.fst (Prod.snd x0) ++ ByteArray.mk #[32] ++ Prod.fst (Prod.snd (Prod.snd x0))) 65535) ++ ByteArray.mk #[32] ++ (Prod.fst x0 ++ ByteArray.mk #[32] ++ Prod.fst (Prod.snd x0) ++ ByteArray.mk #[32] ++ Prod.fst (Prod.snd (Prod.snd x0))) ++ ByteArray.mk #[10]
theorem at28 (x0 : ByteArray × ByteArray × ByteArray × Unit) (h : P28 x0) (K : Ctx) (q : Nat → Value) : AtV Tryz.prog 28 (PostR kds28 oks28 [⟨Ty.str, g28_0 x0⟩] [] [] q K) 27 K q [] [.code b28] (entE 0 0 sig28 (x0, ())) (entL sig28 (x0, ())) := by
  unfold P28 at h
  unfold g28_0
  obtain ⟨s0, h⟩ := h
  obtain ⟨s1, h⟩ := h
  obtain ⟨s2, h⟩ := h
  obtain ⟨s3, h⟩ := h
  obtain ⟨s4, h⟩ := h
  obtain ⟨s5, h⟩ := h
  obtain ⟨s6, h⟩ := h
  exact AtV.ret Tryz.func28 tabOk ext28Ok mixed false [] tys28 [] (a1 s0 (a1 s1 (a1 s2 (a1 s3 (a1 trivial (a1 trivial (a1 s4 (a1 s5 (a1 s6 trivial))))))))) (by kernel_rfl)

def S28 : Am.Spec := { sig := sig28, pre := fun ⟨x0, _⟩ => P28 x0, res := fun ⟨x0, _⟩ => [⟨Ty.str, g28_0 x0⟩], kds := kds28 }
theorem con28 : Contract Tryz.prog 28 S28 := contract_of Tryz.func28 hb28 (Nat.le_of_ble_eq_true (by kernel_rfl)) (fun ⟨x0, _⟩ h _ K q => at28 x0 h K q)


end
end Go.Proofs.YtalgkffjceljiaaGreatDoor

/- Function 16 (spec.l29Save): its runs between cut points. Written by a program of this repo (gen). -/
set_option linter.unusedVariables false
set_option linter.unusedSimpArgs false
set_option maxRecDepth 100000
namespace Go.Proofs.YtalgkffjceljiaaGreatDoor
open Go Go.Am Go.Proofs
noncomputable section
def ext16 : Ext := [(27, S27), (28, S28)]
theorem call16_27 : Callable Tryz.prog 27 := ⟨Tryz.f27, Tryz.func27, by kernel_rfl, by kernel_rfl⟩
theorem call16_28 : Callable Tryz.prog 28 := ⟨Tryz.f28, Tryz.func28, by kernel_rfl, by kernel_rfl⟩
theorem ext16Ok : ExtOk Tryz.prog ext16 := ⟨⟨call16_27, con27⟩, ⟨call16_28, con28⟩, trivial⟩

noncomputable def b16 : Code := bodyOf Tryz.f16
theorem hb16 : Tryz.f16.body = some b16 := by kernel_rfl
def sig16 : List AT := [AT.v (Ty.sl (Ty.cons Ty.str (Ty.cons Ty.str (Ty.cons Ty.str Ty.unit))))]
def tys16 : List Ty := [Ty.str]
def kds16 : List RK := []
def oks16 : List AT := owns sig16
def E16_3 (v3 : ByteArray) (v4 : Int) (x0 : List (ByteArray × ByteArray × ByteArray × Unit)) : Env := [(0, PV.a (Atom.sl (Ty.cons Ty.str (Ty.cons Ty.str (Ty.cons Ty.str Ty.unit))) x0)), (3, PV.a (Atom.val (Value.string v3))), (4, PV.a (Atom.val (Value.int IntKind.i64 v4)))]
def L16_3 (v3 : ByteArray) (v4 : Int) (x0 : List (ByteArray × ByteArray × ByteArray × Unit)) : Heap := []
mutual
def R16 : Nat → List (ByteArray × ByteArray × ByteArray × Unit) → List Dyn → Prop
  | 0, _, _ => False
  | n + 1, x0, ds => ((8 + ByteArray.size (g27_0 (↑(List.length x0) : Int)) ≤ 9223372036854775807) ∧ ((ByteArray.size (ByteArray.mk #[97, 114, 99, 104, 105, 118, 101, 32] ++ g27_0 (↑(List.length x0) : Int)) + 1 ≤ 9223372036854775807) ∧ (R16_3 n (ByteArray.mk #[97, 114, 99, 104, 105, 118, 101, 32] ++ g27_0 (↑(List.length x0) : Int) ++ ByteArray.mk #[10]) (0) (x0) ds)))
def R16_3 : Nat → ByteArray → Int → List (ByteArray × ByteArray × ByteArray × Unit) → List Dyn → Prop
  | 0, _, _, _, _ => False
  | n + 1, v3, v4, x0, ds => (if (Decidable.decide (v4 < (↑(List.length x0) : Int))) = true then ((0 ≤ v4) ∧ (v4 < (↑(List.length x0) : Int)) ∧ ((P28 (List.getD x0 (Int.toNat v4) (ByteArray.empty, ByteArray.empty, ByteArray.empty, ()))) ∧ ((ByteArray.size v3 + ByteArray.size (g28_0 (List.getD x0 (Int.toNat v4) (ByteArray.empty, ByteArray.empty, ByteArray.empty, ()))) ≤ 9223372036854775807) ∧ ((InR IntKind.i64 (v4 + 1)) ∧ (R16_3 n (v3 ++ g28_0 (List.getD x0 (Int.toNat v4) (ByteArray.empty, ByteArray.empty, ByteArray.empty, ()))) (v4 + 1) (x0) ds))))) else (ds = [Dyn.mk Ty.str v3]))
end
theorem snd16 : ∀ n, (∀ (x0 : List (ByteArray × ByteArray × ByteArray × Unit)) ds, R16 n x0 ds → ∀ K q, AtV Tryz.prog 16 (PostR kds16 oks16 ds [] [] q K) 23 K q [] [.code b16] (entE 0 0 sig16 (x0, ())) (entL sig16 (x0, ()))) ∧ (∀ (v3 : ByteArray) (v4 : Int) (x0 : List (ByteArray × ByteArray × ByteArray × Unit)) ds, R16_3 n v3 v4 x0 ds → ∀ K q, AtV Tryz.prog 16 (PostR kds16 oks16 ds [] [] q K) 23 K q [] (cutAt b16 3) (E16_3 v3 v4 x0) (L16_3 v3 v4 x0)) := by
  intro n
  induction n with
  | zero => exact ⟨fun _ _ h => by simp only [R16] at h, fun _ _ _ _ h => by simp only [R16_3] at h⟩
  | succ n ih =>
  obtain ⟨ih, ih3⟩ := ih
  refine ⟨?_, ?_⟩
  · intro x0 ds h K q
    rw [R16] at h
    obtain ⟨s0, h⟩ := h
    obtain ⟨s1, h⟩ := h
    exact AtV.go tabOk ext16Ok mixed false [] [] [0, 3, 4] [] [] (a1 trivial (a1 s0 (a1 s1 trivial))) (ih3 _ _ _ _ h K q) (by kernel_rfl)

  · intro v3 v4 x0 ds h K q
    rw [R16_3] at h
    by_cases b0 : (Decidable.decide (v4 < (↑(List.length x0) : Int))) = true
    · rw [if_pos b0] at h
      obtain ⟨s0, s1, h⟩ := h
      obtain ⟨s2, h⟩ := h
      obtain ⟨s3, h⟩ := h
      obtain ⟨s4, h⟩ := h
      exact AtV.go tabOk ext16Ok mixed false [] [] [0, 3, 4] [] [true] (a1 b0 (a1 s0 (a1 s1 (a1 s2 (a1 s3 (a1 s4 trivial)))))) (ih3 _ _ _ _ h K q) (by kernel_rfl)
    · rw [if_neg b0] at h
      replace b0 := Bool.eq_false_iff.2 b0
      subst h
      exact AtV.ret Tryz.func16 tabOk ext16Ok mixed false [] tys16 [false] (a1 b0 trivial) (by kernel_rfl)



def hd16 (x0 : List (ByteArray × ByteArray × ByteArray × Unit)) : ByteArray := ByteArray.mk #[97, 114, 99, 104, 105, 118, 101, 32] ++ g27_0 (x0.length : Int) ++ ByteArray.mk #[10]
def g16_0 (x0 : List (ByteArray × ByteArray × ByteArray × Unit)) : ByteArray := x0.foldl (fun o b => o ++ g28_0 b) (hd16 x0)
def P16 (x0 : List (ByteArray × ByteArray × ByteArray × Unit)) : Prop := x0.length ≤ 1048576 ∧ ∀ x ∈ x0, P28 x ∧ (g28_0 x).size ≤ 4194304

theorem hsz16 (x0 : List (ByteArray × ByteArray × ByteArray × Unit)) (h : x0.length ≤ 1048576) : (g27_0 (x0.length : Int)).size ≤ 21 := numB_size _ (by omega) (by omega)

theorem run16 (x0 : List (ByteArray × ByteArray × ByteArray × Unit)) (hp : P16 x0) : ∀ (k i : Nat) (o : ByteArray), i + k = x0.length → o.size ≤ 100 + 4194304 * i →
    R16_3 (k + 1) o (i : Int) x0 [⟨.str, (x0.drop i).foldl (fun o b => o ++ g28_0 b) o⟩] := by
  obtain ⟨hl, hx⟩ := hp
  intro k
  induction k with
  | zero =>
    intro i o hi ho
    rw [R16_3, if_neg (by simp; omega), drop_end x0 i (by omega)]
    rfl
  | succ k ih =>
    intro i o hi ho
    have hlt : i < x0.length := by omega
    obtain ⟨p, q⟩ := hx _ (mem_getD x0 i (ByteArray.empty, ByteArray.empty, ByteArray.empty, ()) hlt)
    rw [R16_3, if_pos (by simp; omega), drop_get x0 i (ByteArray.empty, ByteArray.empty, ByteArray.empty, ()) hlt]
    simp only [Int.toNat_natCast, List.foldl_cons]
    refine ⟨by omega, by omega, p, by omega, inR_up (xs := x0) (by unfold maxLen; omega) hlt, ?_⟩
    exact ih (i + 1) _ (by omega) (by rw [ByteArray.size_append]; omega)

theorem top16 (x0 : List (ByteArray × ByteArray × ByteArray × Unit)) (hp : P16 x0) : R16 (x0.length + 1 + 1) x0 [⟨.str, g16_0 x0⟩] := by
  rw [R16]
  have hs := hsz16 x0 hp.1
  have i8 : (ByteArray.mk #[97, 114, 99, 104, 105, 118, 101, 32]).size = 8 := rfl
  have i1 : (ByteArray.mk #[10]).size = 1 := rfl
  refine ⟨by omega, by rw [ByteArray.size_append, i8]; omega, ?_⟩
  have := run16 x0 hp x0.length 0 (hd16 x0) (by omega) (by unfold hd16; simp only [ByteArray.size_append, i8, i1]; omega)
  simpa [g16_0, hd16] using this

def S16 : Am.Spec := { sig := sig16, pre := fun ⟨x0, _⟩ => P16 x0, res := fun ⟨x0, _⟩ => [⟨Ty.str, g16_0 x0⟩] }
theorem con16 : Contract Tryz.prog 16 S16 := contract_of Tryz.func16 hb16 (Nat.le_of_ble_eq_true (by kernel_rfl)) (fun ⟨x0, _⟩ h hwf K q =>
  (snd16 _).1 x0 _ (top16 x0 h) K q)

end
end Go.Proofs.YtalgkffjceljiaaGreatDoor

/- Function 6 (spec.SaveBlocks): its runs between cut points. Written by a program of this repo (gen). -/
set_option linter.unusedVariables false
set_option linter.unusedSimpArgs false
set_option maxRecDepth 100000
namespace Go.Proofs.YtalgkffjceljiaaGreatDoor
open Go Go.Am Go.Proofs
noncomputable section
def ext6 : Ext := [(15, S15), (16, S16)]
theorem call6_15 : Callable Tryz.prog 15 := ⟨Tryz.f15, Tryz.func15, by kernel_rfl, by kernel_rfl⟩
theorem call6_16 : Callable Tryz.prog 16 := ⟨Tryz.f16, Tryz.func16, by kernel_rfl, by kernel_rfl⟩
theorem ext6Ok : ExtOk Tryz.prog ext6 := ⟨⟨call6_15, con15⟩, ⟨call6_16, con16⟩, trivial⟩

noncomputable def b6 : Code := bodyOf Tryz.f6
theorem hb6 : Tryz.f6.body = some b6 := by kernel_rfl
def sig6 : List AT := [AT.v (Ty.sl (Ty.cons Ty.str (Ty.cons Ty.str (Ty.cons Ty.str Ty.unit))))]
def tys6 : List Ty := [Ty.str, Ty.int IntKind.i64]
def kds6 : List RK := []
def oks6 : List AT := owns sig6
def P6 (x0 : List (ByteArray × ByteArray × ByteArray × Unit)) : Prop := (if (!g15_0 x0) = true then True else ((P16 x0) ∧ True))
def g6_0 (x0 : List (ByteArray × ByteArray × ByteArray × Unit)) : ByteArray := (if (!g15_0 x0) = true then ByteArray.mk #[] else g16_0 x0)
def g6_1 (x0 : List (ByteArray × ByteArray × ByteArray × Unit)) : Int := (if (!g15_0 x0) = true then 1 else 0)
theorem at6 (x0 : List (ByteArray × ByteArray × ByteArray × Unit)) (h : P6 x0) (K : Ctx) (q : Nat → Value) : AtV Tryz.prog 6 (PostR kds6 oks6 [⟨Ty.str, g6_0 x0⟩, ⟨Ty.int IntKind.i64, g6_1 x0⟩] [] [] q K) 9 K q [] [.code b6] (entE 0 0 sig6 (x0, ())) (entL sig6 (x0, ())) := by
  unfold P6 at h
  unfold g6_0 g6_1
  by_cases b0 : (!g15_0 x0) = true
  · try simp only [if_pos b0] at h ⊢
    exact AtV.ret Tryz.func6 tabOk ext6Ok mixed false [] tys6 [true] (a1 trivial (a1 b0 trivial)) (by kernel_rfl)
  · try simp only [if_neg b0] at h ⊢
    replace b0 := Bool.eq_false_iff.2 b0
    obtain ⟨s0, h⟩ := h
    exact AtV.ret Tryz.func6 tabOk ext6Ok mixed false [] tys6 [false] (a1 trivial (a1 b0 (a1 s0 trivial))) (by kernel_rfl)

def S6 : Am.Spec := { sig := sig6, pre := fun ⟨x0, _⟩ => P6 x0, res := fun ⟨x0, _⟩ => [⟨Ty.str, g6_0 x0⟩, ⟨Ty.int IntKind.i64, g6_1 x0⟩], kds := kds6 }
theorem con6 : Contract Tryz.prog 6 S6 := contract_of Tryz.func6 hb6 (Nat.le_of_ble_eq_true (by kernel_rfl)) (fun ⟨x0, _⟩ h _ K q => at6 x0 h K q)


end
end Go.Proofs.YtalgkffjceljiaaGreatDoor

/- Function 8 (laws.r8At): its runs between cut points. Written by a program of this repo (gen). -/
set_option linter.unusedVariables false
set_option linter.unusedSimpArgs false
set_option maxRecDepth 100000
namespace Go.Proofs.YtalgkffjceljiaaGreatDoor
open Go Go.Am Go.Proofs
noncomputable section
def ext8 : Ext := []
theorem ext8Ok : ExtOk Tryz.prog ext8 := trivial

noncomputable def b8 : Code := bodyOf Tryz.f8
theorem hb8 : Tryz.f8.body = some b8 := by kernel_rfl
def sig8 : List AT := [AT.v (Ty.sl (Ty.int IntKind.u8)), AT.v (Ty.int IntKind.i64), AT.v (Ty.int IntKind.i64)]
def tys8 : List Ty := [Ty.int IntKind.i64]
def kds8 : List RK := []
def oks8 : List AT := owns sig8
def P8 (x0 : List Int) (x1 : Int) (x2 : Int) : Prop := (if (Decidable.decide (x2 ≤ 1)) = true then True else (if (Decidable.decide (x1 ≥ (↑(List.length x0) : Int))) = true then True else ((0 ≤ x1) ∧ (x1 < (↑(List.length x0) : Int)) ∧ ((InR IntKind.i64 (List.getD x0 (Int.toNat x1) 0)) ∧ ((x2 ≠ 0) ∧ (InR IntKind.i64 (Int.tmod (List.getD x0 (Int.toNat x1) 0) x2)) ∧ True)))))
def g8_0 (x0 : List Int) (x1 : Int) (x2 : Int) : Int := (if (Decidable.decide (x2 ≤ 1)) = true then 0 else (if (Decidable.decide (x1 ≥ (↑(List.length x0) : Int))) = true then 0 else Int.tmod (List.getD x0 (Int.toNat x1) 0) x2))
theorem at8 (x0 : List Int) (x1 : Int) (x2 : Int) (h : P8 x0 x1 x2) (K : Ctx) (q : Nat → Value) : AtV Tryz.prog 8 (PostR kds8 oks8 [⟨Ty.int IntKind.i64, g8_0 x0 x1 x2⟩] [] [] q K) 22 K q [] [.code b8] (entE 0 0 sig8 (x0, x1, x2, ())) (entL sig8 (x0, x1, x2, ())) := by
  unfold P8 at h
  unfold g8_0
  by_cases b0 : (Decidable.decide (x2 ≤ 1)) = true
  · try simp only [if_pos b0] at h ⊢
    exact AtV.ret Tryz.func8 tabOk ext8Ok mixed false [] tys8 [true, true] (a1 b0 (a1 (rfl : Bool.true = Bool.true) trivial)) (by kernel_rfl)
  · try simp only [if_neg b0] at h ⊢
    replace b0 := Bool.eq_false_iff.2 b0
    by_cases b1 : (Decidable.decide (x1 ≥ (↑(List.length x0) : Int))) = true
    · try simp only [if_pos b1] at h ⊢
      exact AtV.ret Tryz.func8 tabOk ext8Ok mixed false [] tys8 [false, true] (a1 b0 (a1 b1 trivial)) (by kernel_rfl)
    · try simp only [if_neg b1] at h ⊢
      replace b1 := Bool.eq_false_iff.2 b1
      obtain ⟨s0, s1, h⟩ := h
      obtain ⟨s2, h⟩ := h
      obtain ⟨s3, s4, h⟩ := h
      exact AtV.ret Tryz.func8 tabOk ext8Ok mixed false [] tys8 [false, false] (a1 b0 (a1 b1 (a1 s0 (a1 s1 (a1 s2 (a1 s3 (a1 s4 trivial))))))) (by kernel_rfl)

def S8 : Am.Spec := { sig := sig8, pre := fun ⟨x0, x1, x2, _⟩ => P8 x0 x1 x2, res := fun ⟨x0, x1, x2, _⟩ => [⟨Ty.int IntKind.i64, g8_0 x0 x1 x2⟩], kds := kds8 }
theorem con8 : Contract Tryz.prog 8 S8 := contract_of Tryz.func8 hb8 (Nat.le_of_ble_eq_true (by kernel_rfl)) (fun ⟨x0, x1, x2, _⟩ h _ K q => at8 x0 x1 x2 h K q)


end
end Go.Proofs.YtalgkffjceljiaaGreatDoor

/- Function 7 (laws.r8Wide): its runs between cut points. Written by a program of this repo (gen). -/
set_option linter.unusedVariables false
set_option linter.unusedSimpArgs false
set_option maxRecDepth 100000
namespace Go.Proofs.YtalgkffjceljiaaGreatDoor
open Go Go.Am Go.Proofs
noncomputable section
def ext7 : Ext := [(8, S8)]
theorem call7_8 : Callable Tryz.prog 8 := ⟨Tryz.f8, Tryz.func8, by kernel_rfl, by kernel_rfl⟩
theorem ext7Ok : ExtOk Tryz.prog ext7 := ⟨⟨call7_8, con8⟩, trivial⟩

noncomputable def b7 : Code := bodyOf Tryz.f7
theorem hb7 : Tryz.f7.body = some b7 := by kernel_rfl
def sig7 : List AT := [AT.v (Ty.sl (Ty.int IntKind.u8)), AT.v (Ty.int IntKind.i64), AT.v (Ty.int IntKind.i64)]
def tys7 : List Ty := [Ty.int IntKind.i64]
def kds7 : List RK := []
def oks7 : List AT := owns sig7
def P7 (x0 : List Int) (x1 : Int) (x2 : Int) : Prop := ((P8 x0 x1 256) ∧ ((InR IntKind.i64 (256 * g8_0 x0 x1 256)) ∧ ((InR IntKind.i64 (x1 + 1)) ∧ ((P8 x0 (x1 + 1) 256) ∧ ((InR IntKind.i64 (256 * g8_0 x0 x1 256 + g8_0 x0 (x1 + 1) 256)) ∧ ((x2 ≠ 0) ∧ (InR IntKind.i64 (Int.tmod (256 * g8_0 x0 x1 256 + g8_0 x0 (x1 + 1) 256) x2)) ∧ True))))))
def g7_0 (x0 : List Int) (x1 : Int) (x2 : Int) : Int := Int.tmod (256 * g8_0 x0 x1 256 + g8_0 x0 (x1 + 1) 256) x2
theorem at7 (x0 : List Int) (x1 : Int) (x2 : Int) (h : P7 x0 x1 x2) (K : Ctx) (q : Nat → Value) : AtV Tryz.prog 7 (PostR kds7 oks7 [⟨Ty.int IntKind.i64, g7_0 x0 x1 x2⟩] [] [] q K) 18 K q [] [.code b7] (entE 0 0 sig7 (x0, x1, x2, ())) (entL sig7 (x0, x1, x2, ())) := by
  unfold P7 at h
  unfold g7_0
  obtain ⟨s0, h⟩ := h
  obtain ⟨s1, h⟩ := h
  obtain ⟨s2, h⟩ := h
  obtain ⟨s3, h⟩ := h
  obtain ⟨s4, h⟩ := h
  obtain ⟨s5, s6, h⟩ := h
  exact AtV.ret Tryz.func7 tabOk ext7Ok mixed false [] tys7 [] (a1 s0 (a1 s1 (a1 s2 (a1 s3 (a1 s4 (a1 s5 (a1 s6 trivial))))))) (by kernel_rfl)

def S7 : Am.Spec := { sig := sig7, pre := fun ⟨x0, x1, x2, _⟩ => P7 x0 x1 x2, res := fun ⟨x0, x1, x2, _⟩ => [⟨Ty.int IntKind.i64, g7_0 x0 x1 x2⟩], kds := kds7 }
theorem con7 : Contract Tryz.prog 7 S7 := contract_of Tryz.func7 hb7 (Nat.le_of_ble_eq_true (by kernel_rfl)) (fun ⟨x0, x1, x2, _⟩ h _ K q => at7 x0 x1 x2 h K q)


end
end Go.Proofs.YtalgkffjceljiaaGreatDoor

/- The contracts of the library that this program uses, laid at this program. Written by a tool of the kit. -/
set_option linter.unusedVariables false
set_option maxRecDepth 100000
namespace Go.Proofs
open Go.Shelf
def Tryz.lays169_ren : Go.Shelf.Ren := ⟨fun | 169 => 57 | n => n, fun | 70 => 83 | 9 => 9 | 0 => 0 | 72 => 85 | 37 => 22 | 127 => 108 | 3 => 3 | 5 => 5 | n => n, fun | n => n⟩
theorem Tryz.lays169 : Go.Proofs.Lays.n169 Tryz.prog Tryz.lays169_ren := {
  mixed := by kernel_rfl
  f169 := Tryz.func57.trans (congrArg some (by kernel_rfl))
  t0 := Tryz.underlying0
  a0 := Tryz.isAgg0
  z0 := Tryz.sizeOf0
  v0 := Tryz.zeroValue0
  t3 := Tryz.underlying3
  a3 := Tryz.isAgg3
  z3 := Tryz.sizeOf3
  v3 := Tryz.zeroValue3
  t9 := Tryz.underlying9
  a9 := Tryz.isAgg9
  z9 := Tryz.sizeOf9
  v9 := Tryz.zeroValue9
  t37 := Tryz.underlying22
  a37 := Tryz.isAgg22
  z37 := Tryz.sizeOf22
  v37 := Tryz.zeroValue22
  t70 := Tryz.underlying83
  a70 := Tryz.isAgg83
  z70 := Tryz.sizeOf83
  v70 := Tryz.zeroValue83
  t72 := Tryz.underlying85
  a72 := Tryz.isAgg85
  z72 := Tryz.sizeOf85
  v72 := Tryz.zeroValue85
  t127 := Tryz.underlying108
  a127 := Tryz.isAgg108
  z127 := Tryz.sizeOf108
  v127 := Tryz.zeroValue108 }
theorem Tryz.Builder_Extra_169 : Builder.Extra Tryz.prog Tryz.lays169_ren := {
  sizeBuilder := by kernel_rfl
  liesBuilder := by kernel_rfl
  t5 := Tryz.underlying5
  a5 := Tryz.isAgg5
  z5 := Tryz.sizeOf5
  v5 := Tryz.zeroValue5
  infoByte := by kernel_rfl
  cellsByte := by kernel_rfl
  sizeByte := by kernel_rfl
  neB5 := by decide }
open Go.RowKit in theorem Tryz.Builder_String_any_k (B b : Nat) (l : List UInt8) (w : World) (h : Lib.IsBuilderF 85 5 B b (Lib.byteCells l) w) (hBw : B ≤ w.heap.size) :
    Calls Tryz.prog 57 #[.pointer (some ⟨b, 0, none⟩)] w fun e w' => e = .returned (.string ⟨l.toArray⟩) ∧ (Lib.IsBuilderF 85 5 B b (Lib.byteCells l) w' ∧ Below B w w' ∧ Lib.OthersKept 5 (some b) w w') := Any.Builder_String_any_k Tryz.lays169 Tryz.Builder_Extra_169 B b l w h hBw
def Tryz.laysM173_ren : Go.Shelf.Ren := ⟨fun | 173 => 50 | 246 => 72 | 283 => 90 | 284 => 91 | 285 => 92 | 286 => 93 | 129 => 102 | 317 => 101 | 318 => 103 | 319 => 104 | 320 => 105 | 337 => 107 | 338 => 108 | n => n, fun | 2 => 2 | 3 => 3 | 9 => 9 | 4 => 4 | 171 => 118 | 0 => 0 | 53 => 49 | 37 => 22 | 5 => 5 | 173 => 121 | 212 => 129 | 51 => 103 | 20 => 20 | 213 => 130 | 46 => 79 | 232 => 139 | 233 => 140 | n => n, fun | 17 => 1 | 18 => 4 | 19 => 5 | n => n⟩
theorem Tryz.laysM173 : Go.Proofs.LaysM.n173 Tryz.prog Tryz.laysM173_ren := {
  mixed := by kernel_rfl
  f129 := Tryz.func102.trans (congrArg some (by kernel_rfl))
  f173 := Tryz.func50.trans (congrArg some (by kernel_rfl))
  f246 := Tryz.func72.trans (congrArg some (by kernel_rfl))
  f283 := Tryz.func90.trans (congrArg some (by kernel_rfl))
  f284 := Tryz.func91.trans (congrArg some (by kernel_rfl))
  f285 := Tryz.func92.trans (congrArg some (by kernel_rfl))
  f286 := Tryz.func93.trans (congrArg some (by kernel_rfl))
  f317 := Tryz.func101.trans (congrArg some (by kernel_rfl))
  f318 := Tryz.func103.trans (congrArg some (by kernel_rfl))
  f319 := Tryz.func104.trans (congrArg some (by kernel_rfl))
  f320 := Tryz.func105.trans (congrArg some (by kernel_rfl))
  f337 := Tryz.func107.trans (congrArg some (by kernel_rfl))
  f338 := Tryz.func108.trans (congrArg some (by kernel_rfl))
  t0 := Tryz.underlying0
  a0 := Tryz.isAgg0
  z0 := Tryz.sizeOf0
  v0 := Tryz.zeroValue0
  t2 := Tryz.underlying2
  a2 := Tryz.isAgg2
  z2 := Tryz.sizeOf2
  v2 := Tryz.zeroValue2
  t3 := Tryz.underlying3
  a3 := Tryz.isAgg3
  z3 := Tryz.sizeOf3
  v3 := Tryz.zeroValue3
  t4 := Tryz.underlying4
  a4 := Tryz.isAgg4
  z4 := Tryz.sizeOf4
  v4 := Tryz.zeroValue4
  t5 := Tryz.underlying5
  a5 := Tryz.isAgg5
  z5 := Tryz.sizeOf5
  v5 := Tryz.zeroValue5
  t9 := Tryz.underlying9
  a9 := Tryz.isAgg9
  z9 := Tryz.sizeOf9
  v9 := Tryz.zeroValue9
  t20 := Tryz.underlying20
  a20 := Tryz.isAgg20
  z20 := Tryz.sizeOf20
  v20 := Tryz.zeroValue20
  t37 := Tryz.underlying22
  a37 := Tryz.isAgg22
  z37 := Tryz.sizeOf22
  v37 := Tryz.zeroValue22
  t46 := Tryz.underlying79
  a46 := Tryz.isAgg79
  z46 := Tryz.sizeOf79
  v46 := Tryz.zeroValue79
  t51 := Tryz.underlying103
  a51 := Tryz.isAgg103
  z51 := Tryz.sizeOf103
  v51 := Tryz.zeroValue103
  t53 := Tryz.underlying49
  a53 := Tryz.isAgg49
  z53 := Tryz.sizeOf49
  v53 := Tryz.zeroValue49
  t171 := Tryz.underlying118
  a171 := Tryz.isAgg118
  z171 := Tryz.sizeOf118
  v171 := Tryz.zeroValue118
  t173 := Tryz.underlying121
  a173 := Tryz.isAgg121
  z173 := Tryz.sizeOf121
  v173 := Tryz.zeroValue121
  t212 := Tryz.underlying129
  a212 := Tryz.isAgg129
  z212 := Tryz.sizeOf129
  v212 := Tryz.zeroValue129
  t213 := Tryz.underlying130
  a213 := Tryz.isAgg130
  z213 := Tryz.sizeOf130
  t232 := Tryz.underlying139
  a232 := Tryz.isAgg139
  z232 := Tryz.sizeOf139
  v232 := Tryz.zeroValue139
  t233 := Tryz.underlying140
  a233 := Tryz.isAgg140
  z233 := Tryz.sizeOf140
  v233 := Tryz.zeroValue140
  g17 := by kernel_rfl
  g18 := by kernel_rfl
  g19 := by kernel_rfl
  i0 := by kernel_rfl
  i2 := by kernel_rfl
  i3 := by kernel_rfl
  i4 := by kernel_rfl
  i5 := by kernel_rfl
  i9 := by kernel_rfl
  i20 := by kernel_rfl
  i37 := by kernel_rfl
  i46 := by kernel_rfl
  i51 := by kernel_rfl
  i53 := by kernel_rfl
  i171 := by kernel_rfl
  i173 := by kernel_rfl
  i212 := by kernel_rfl
  i232 := by kernel_rfl
  i233 := by kernel_rfl
  m17 := by kernel_rfl
  m18 := by kernel_rfl
  m19 := by kernel_rfl }
open Go.RowKit Go.Sort Go.Lib in theorem Tryz.strconv_FormatInt_10 (n : Int) (h0 : -9223372036854775808 ≤ n) (h1 : n ≤ 9223372036854775807) (w : World) (htab : Lib.TabIs Tryz.prog w "internal/strconv.uint64pow10" .u64 Lib.pow10Tab) :
    Calls Tryz.prog 50 #[.int .i64 n, .int .i64 10] w fun e w' => e = .returned (.string ⟨(Lib.itoa n).toArray⟩) ∧ ∃ k os, w' = grow (w.drewN k) os := Any.strconv_FormatInt_10 Tryz.laysM173 n h0 h1 w htab
def Tryz.lays144_ren : Go.Shelf.Ren := ⟨fun | 144 => 59 | 143 => 70 | 219 => 71 | 217 => 86 | 225 => 87 | 224 => 88 | 267 => 89 | 266 => 99 | 314 => 100 | n => n, fun | 9 => 9 | 4 => 4 | 3 => 3 | 5 => 5 | 46 => 79 | 146 => 104 | 51 => 103 | n => n, fun | 1 => 0 | n => n⟩
theorem Tryz.lays144 : Go.Proofs.Lays.n144 Tryz.prog Tryz.lays144_ren := {
  mixed := by kernel_rfl
  f143 := Tryz.func70.trans (congrArg some (by kernel_rfl))
  f144 := Tryz.func59.trans (congrArg some (by kernel_rfl))
  f217 := Tryz.func86.trans (congrArg some (by kernel_rfl))
  f219 := Tryz.func71.trans (congrArg some (by kernel_rfl))
  f224 := Tryz.func88.trans (congrArg some (by kernel_rfl))
  f225 := Tryz.func87.trans (congrArg some (by kernel_rfl))
  f266 := Tryz.func99.trans (congrArg some (by kernel_rfl))
  f267 := Tryz.func89.trans (congrArg some (by kernel_rfl))
  f314 := Tryz.func100.trans (congrArg some (by kernel_rfl))
  t3 := Tryz.underlying3
  a3 := Tryz.isAgg3
  z3 := Tryz.sizeOf3
  v3 := Tryz.zeroValue3
  t4 := Tryz.underlying4
  a4 := Tryz.isAgg4
  z4 := Tryz.sizeOf4
  v4 := Tryz.zeroValue4
  t5 := Tryz.underlying5
  a5 := Tryz.isAgg5
  z5 := Tryz.sizeOf5
  v5 := Tryz.zeroValue5
  t9 := Tryz.underlying9
  a9 := Tryz.isAgg9
  z9 := Tryz.sizeOf9
  v9 := Tryz.zeroValue9
  t46 := Tryz.underlying79
  a46 := Tryz.isAgg79
  z46 := Tryz.sizeOf79
  v46 := Tryz.zeroValue79
  t51 := Tryz.underlying103
  a51 := Tryz.isAgg103
  z51 := Tryz.sizeOf103
  v51 := Tryz.zeroValue103
  t146 := Tryz.underlying104
  a146 := Tryz.isAgg104
  z146 := Tryz.sizeOf104
  v146 := Tryz.zeroValue104
  g1 := by kernel_rfl }
open Go.RowKit Go.Lib in theorem Tryz.strings_Contains (s sub : ByteArray) (m : Int) (w : World) (hs : s.size < 4294967281) (hm : w.cell? ⟨0, 0, none⟩ = some (.int .i64 m)) :
    Calls Tryz.prog 59 #[.string s, .string sub] w fun e w' => e = .returned (.bool (Lib.contains s.data.toList sub.data.toList)) ∧ w' = w := Any.strings_Contains Tryz.lays144 s sub m w hs hm
def Tryz.lays145_ren : Go.Shelf.Ren := ⟨fun | 145 => 30 | 220 => 49 | 219 => 71 | 217 => 86 | 225 => 87 | 224 => 88 | 267 => 89 | 266 => 99 | 314 => 100 | n => n, fun | 9 => 9 | 4 => 4 | 59 => 60 | 3 => 3 | 5 => 5 | 46 => 79 | 146 => 104 | 51 => 103 | n => n, fun | 1 => 0 | n => n⟩
theorem Tryz.lays145 : Go.Proofs.Lays.n145 Tryz.prog Tryz.lays145_ren := {
  mixed := by kernel_rfl
  f145 := Tryz.func30.trans (congrArg some (by kernel_rfl))
  f217 := Tryz.func86.trans (congrArg some (by kernel_rfl))
  f219 := Tryz.func71.trans (congrArg some (by kernel_rfl))
  f220 := Tryz.func49.trans (congrArg some (by kernel_rfl))
  f224 := Tryz.func88.trans (congrArg some (by kernel_rfl))
  f225 := Tryz.func87.trans (congrArg some (by kernel_rfl))
  f266 := Tryz.func99.trans (congrArg some (by kernel_rfl))
  f267 := Tryz.func89.trans (congrArg some (by kernel_rfl))
  f314 := Tryz.func100.trans (congrArg some (by kernel_rfl))
  t3 := Tryz.underlying3
  a3 := Tryz.isAgg3
  z3 := Tryz.sizeOf3
  v3 := Tryz.zeroValue3
  t4 := Tryz.underlying4
  a4 := Tryz.isAgg4
  z4 := Tryz.sizeOf4
  v4 := Tryz.zeroValue4
  t5 := Tryz.underlying5
  a5 := Tryz.isAgg5
  z5 := Tryz.sizeOf5
  v5 := Tryz.zeroValue5
  t9 := Tryz.underlying9
  a9 := Tryz.isAgg9
  z9 := Tryz.sizeOf9
  v9 := Tryz.zeroValue9
  t46 := Tryz.underlying79
  a46 := Tryz.isAgg79
  z46 := Tryz.sizeOf79
  v46 := Tryz.zeroValue79
  t51 := Tryz.underlying103
  a51 := Tryz.isAgg103
  z51 := Tryz.sizeOf103
  v51 := Tryz.zeroValue103
  t59 := Tryz.underlying60
  a59 := Tryz.isAgg60
  z59 := Tryz.sizeOf60
  v59 := Tryz.zeroValue60
  t146 := Tryz.underlying104
  a146 := Tryz.isAgg104
  z146 := Tryz.sizeOf104
  v146 := Tryz.zeroValue104
  g1 := by kernel_rfl }
open Go.RowKit Go.Lib in theorem Tryz.strings_Cut (s sep : ByteArray) (m : Int) (w : World) (hs : s.size < 4294967281) (hm : w.cell? ⟨0, 0, none⟩ = some (.int .i64 m)) :
    Calls Tryz.prog 30 #[.string s, .string sep] w fun e w' => e = .returned (.tuple #[.string ⟨(Lib.cut s.data.toList sep.data.toList).1.toArray⟩, .string ⟨(Lib.cut s.data.toList sep.data.toList).2.1.toArray⟩, .bool (Lib.cut s.data.toList sep.data.toList).2.2]) ∧ ∃ n, w' = w.drewN n := Any.strings_Cut Tryz.lays145 s sep m w hs hm
def Tryz.lays99_ren : Go.Shelf.Ren := ⟨fun | 99 => 53 | 206 => 75 | n => n, fun | 9 => 9 | 4 => 4 | 3 => 3 | n => n, fun | n => n⟩
theorem Tryz.lays99 : Go.Proofs.Lays.n99 Tryz.prog Tryz.lays99_ren := {
  mixed := by kernel_rfl
  f99 := Tryz.func53.trans (congrArg some (by kernel_rfl))
  f206 := Tryz.func75.trans (congrArg some (by kernel_rfl))
  t3 := Tryz.underlying3
  a3 := Tryz.isAgg3
  z3 := Tryz.sizeOf3
  v3 := Tryz.zeroValue3
  t4 := Tryz.underlying4
  a4 := Tryz.isAgg4
  z4 := Tryz.sizeOf4
  v4 := Tryz.zeroValue4
  t9 := Tryz.underlying9
  a9 := Tryz.isAgg9
  z9 := Tryz.sizeOf9
  v9 := Tryz.zeroValue9 }
open Go.RowKit Go.Lib in theorem Tryz.strings_HasPrefix (s p : ByteArray) (w : World) :
    Calls Tryz.prog 53 #[.string s, .string p] w fun e w' => e = .returned (.bool (Lib.hasPrefix s.data.toList p.data.toList)) ∧ w' = w := Any.strings_HasPrefix Tryz.lays99 s p w
def Tryz.lays146_ren : Go.Shelf.Ren := ⟨fun | 146 => 29 | 221 => 48 | 268 => 68 | 138 => 69 | 143 => 70 | 195 => 83 | 197 => 84 | 218 => 85 | 219 => 71 | 260 => 98 | 217 => 86 | 225 => 87 | 224 => 88 | 267 => 89 | 266 => 99 | 314 => 100 | n => n, fun | 9 => 9 | 31 => 39 | 3 => 3 | 4 => 4 | 0 => 0 | 105 => 113 | 21 => 21 | 5 => 5 | 46 => 79 | 119 => 134 | 139 => 137 | 138 => 136 | 146 => 104 | 51 => 103 | n => n, fun | 1 => 0 | 3 => 2 | 4 => 3 | n => n⟩
theorem Tryz.lays146 : Go.Proofs.Lays.n146 Tryz.prog Tryz.lays146_ren := {
  mixed := by kernel_rfl
  f138 := Tryz.func69.trans (congrArg some (by kernel_rfl))
  f143 := Tryz.func70.trans (congrArg some (by kernel_rfl))
  f146 := Tryz.func29.trans (congrArg some (by kernel_rfl))
  f195 := Tryz.func83.trans (congrArg some (by kernel_rfl))
  f197 := Tryz.func84.trans (congrArg some (by kernel_rfl))
  f217 := Tryz.func86.trans (congrArg some (by kernel_rfl))
  f218 := Tryz.func85.trans (congrArg some (by kernel_rfl))
  f219 := Tryz.func71.trans (congrArg some (by kernel_rfl))
  f221 := Tryz.func48.trans (congrArg some (by kernel_rfl))
  f224 := Tryz.func88.trans (congrArg some (by kernel_rfl))
  f225 := Tryz.func87.trans (congrArg some (by kernel_rfl))
  f260 := Tryz.func98.trans (congrArg some (by kernel_rfl))
  f266 := Tryz.func99.trans (congrArg some (by kernel_rfl))
  f267 := Tryz.func89.trans (congrArg some (by kernel_rfl))
  f268 := Tryz.func68.trans (congrArg some (by kernel_rfl))
  f314 := Tryz.func100.trans (congrArg some (by kernel_rfl))
  t0 := Tryz.underlying0
  a0 := Tryz.isAgg0
  z0 := Tryz.sizeOf0
  v0 := Tryz.zeroValue0
  t3 := Tryz.underlying3
  a3 := Tryz.isAgg3
  z3 := Tryz.sizeOf3
  v3 := Tryz.zeroValue3
  t4 := Tryz.underlying4
  a4 := Tryz.isAgg4
  z4 := Tryz.sizeOf4
  v4 := Tryz.zeroValue4
  t5 := Tryz.underlying5
  a5 := Tryz.isAgg5
  z5 := Tryz.sizeOf5
  v5 := Tryz.zeroValue5
  t9 := Tryz.underlying9
  a9 := Tryz.isAgg9
  z9 := Tryz.sizeOf9
  v9 := Tryz.zeroValue9
  t21 := Tryz.underlying21
  a21 := Tryz.isAgg21
  z21 := Tryz.sizeOf21
  v21 := Tryz.zeroValue21
  t31 := Tryz.underlying39
  a31 := Tryz.isAgg39
  z31 := Tryz.sizeOf39
  v31 := Tryz.zeroValue39
  t46 := Tryz.underlying79
  a46 := Tryz.isAgg79
  z46 := Tryz.sizeOf79
  v46 := Tryz.zeroValue79
  t51 := Tryz.underlying103
  a51 := Tryz.isAgg103
  z51 := Tryz.sizeOf103
  v51 := Tryz.zeroValue103
  t105 := Tryz.underlying113
  a105 := Tryz.isAgg113
  z105 := Tryz.sizeOf113
  v105 := Tryz.zeroValue113
  t119 := Tryz.underlying134
  a119 := Tryz.isAgg134
  z119 := Tryz.sizeOf134
  t138 := Tryz.underlying136
  a138 := Tryz.isAgg136
  z138 := Tryz.sizeOf136
  v138 := Tryz.zeroValue136
  t139 := Tryz.underlying137
  a139 := Tryz.isAgg137
  z139 := Tryz.sizeOf137
  v139 := Tryz.zeroValue137
  t146 := Tryz.underlying104
  a146 := Tryz.isAgg104
  z146 := Tryz.sizeOf104
  v146 := Tryz.zeroValue104
  g1 := by kernel_rfl
  g3 := by kernel_rfl
  g4 := by kernel_rfl }
open Go.RowKit Go.Lib in theorem Tryz.strings_Split (s sep : ByteArray) (m : Int) (w : World) (hs : s.size < 4294967281) (hm : w.cell? ⟨0, 0, none⟩ = some (.int .i64 m)) (h1 : 1 ≤ sep.size) :
    Calls Tryz.prog 29 #[.string s, .string sep] w fun e w' =>
      e = .returned (.slice (some ⟨w.heap.size, 0, none⟩) (Lib.countB s sep + 1) (Lib.countB s sep + 1)) ∧ w' = w.alloc (.cells ((Lib.splitB sep 0 (Lib.countB s sep) s).map Value.string).toArray 9) := Any.strings_Split Tryz.lays146 (by kernel_rfl) s sep m w hs hm h1
def Tryz.lays105_ren : Go.Shelf.Ren := ⟨fun | 105 => 33 | 212 => 52 | 99 => 53 | 165 => 54 | 166 => 55 | 170 => 56 | 169 => 57 | 263 => 73 | 264 => 74 | 206 => 75 | 240 => 76 | 241 => 77 | 276 => 94 | 277 => 95 | n => n, fun | 9 => 9 | 3 => 3 | 4 => 4 | 20 => 20 | 0 => 0 | 46 => 79 | 109 => 80 | 5 => 5 | 72 => 85 | 76 => 89 | 51 => 103 | 146 => 104 | 53 => 49 | 148 => 106 | 70 => 83 | 37 => 22 | 75 => 88 | 127 => 108 | 164 => 123 | 80 => 92 | n => n, fun | n => n⟩
theorem Tryz.lays105 : Go.Proofs.Lays.n105 Tryz.prog Tryz.lays105_ren := {
  mixed := by kernel_rfl
  f99 := Tryz.func53.trans (congrArg some (by kernel_rfl))
  f105 := Tryz.func33.trans (congrArg some (by kernel_rfl))
  f165 := Tryz.func54.trans (congrArg some (by kernel_rfl))
  f166 := Tryz.func55.trans (congrArg some (by kernel_rfl))
  f169 := Tryz.func57.trans (congrArg some (by kernel_rfl))
  f170 := Tryz.func56.trans (congrArg some (by kernel_rfl))
  f206 := Tryz.func75.trans (congrArg some (by kernel_rfl))
  f212 := Tryz.func52.trans (congrArg some (by kernel_rfl))
  f240 := Tryz.func76.trans (congrArg some (by kernel_rfl))
  f241 := Tryz.func77.trans (congrArg some (by kernel_rfl))
  f263 := Tryz.func73.trans (congrArg some (by kernel_rfl))
  f264 := Tryz.func74.trans (congrArg some (by kernel_rfl))
  f276 := Tryz.func94.trans (congrArg some (by kernel_rfl))
  f277 := Tryz.func95.trans (congrArg some (by kernel_rfl))
  t0 := Tryz.underlying0
  a0 := Tryz.isAgg0
  z0 := Tryz.sizeOf0
  v0 := Tryz.zeroValue0
  t3 := Tryz.underlying3
  a3 := Tryz.isAgg3
  z3 := Tryz.sizeOf3
  v3 := Tryz.zeroValue3
  t4 := Tryz.underlying4
  a4 := Tryz.isAgg4
  z4 := Tryz.sizeOf4
  v4 := Tryz.zeroValue4
  t5 := Tryz.underlying5
  a5 := Tryz.isAgg5
  z5 := Tryz.sizeOf5
  v5 := Tryz.zeroValue5
  t9 := Tryz.underlying9
  a9 := Tryz.isAgg9
  z9 := Tryz.sizeOf9
  v9 := Tryz.zeroValue9
  t20 := Tryz.underlying20
  a20 := Tryz.isAgg20
  z20 := Tryz.sizeOf20
  v20 := Tryz.zeroValue20
  t37 := Tryz.underlying22
  a37 := Tryz.isAgg22
  z37 := Tryz.sizeOf22
  v37 := Tryz.zeroValue22
  t46 := Tryz.underlying79
  a46 := Tryz.isAgg79
  z46 := Tryz.sizeOf79
  v46 := Tryz.zeroValue79
  t51 := Tryz.underlying103
  a51 := Tryz.isAgg103
  z51 := Tryz.sizeOf103
  v51 := Tryz.zeroValue103
  t53 := Tryz.underlying49
  a53 := Tryz.isAgg49
  z53 := Tryz.sizeOf49
  v53 := Tryz.zeroValue49
  t70 := Tryz.underlying83
  a70 := Tryz.isAgg83
  z70 := Tryz.sizeOf83
  v70 := Tryz.zeroValue83
  t72 := Tryz.underlying85
  a72 := Tryz.isAgg85
  z72 := Tryz.sizeOf85
  v72 := Tryz.zeroValue85
  t75 := Tryz.underlying88
  a75 := Tryz.isAgg88
  z75 := Tryz.sizeOf88
  v75 := Tryz.zeroValue88
  t76 := Tryz.underlying89
  a76 := Tryz.isAgg89
  z76 := Tryz.sizeOf89
  v76 := Tryz.zeroValue89
  t109 := Tryz.underlying80
  a109 := Tryz.isAgg80
  z109 := Tryz.sizeOf80
  v109 := Tryz.zeroValue80
  t127 := Tryz.underlying108
  a127 := Tryz.isAgg108
  z127 := Tryz.sizeOf108
  v127 := Tryz.zeroValue108
  t146 := Tryz.underlying104
  a146 := Tryz.isAgg104
  z146 := Tryz.sizeOf104
  v146 := Tryz.zeroValue104
  t148 := Tryz.underlying106
  a148 := Tryz.isAgg106
  z148 := Tryz.sizeOf106
  v148 := Tryz.zeroValue106
  t164 := Tryz.underlying123
  a164 := Tryz.isAgg123
  z164 := Tryz.sizeOf123
  v164 := Tryz.zeroValue123 }
theorem Tryz.Builder_Extra_105 : Builder.Extra Tryz.prog Tryz.lays105_ren := {
  sizeBuilder := by kernel_rfl
  liesBuilder := by kernel_rfl
  t5 := Tryz.underlying5
  a5 := Tryz.isAgg5
  z5 := Tryz.sizeOf5
  v5 := Tryz.zeroValue5
  infoByte := by kernel_rfl
  cellsByte := by kernel_rfl
  sizeByte := by kernel_rfl
  neB5 := by decide }
open Go.RowKit Go.Lib in theorem Tryz.strings_Repeat (s : ByteArray) (c : Nat) (w : World) (hc : c ≤ 9223372036854775807) (hlen : s.size * c ≤ 140737488355328) :
    Calls Tryz.prog 33 #[.string s, .int .i64 c] w fun e w' => e = .returned (.string ⟨(Lib.repeatL s.data.toList c).toArray⟩) ∧ Below w.heap.size w w' := Any.strings_Repeat Tryz.lays105 Tryz.Builder_Extra_105 s c w hc hlen
end Go.Proofs

/- Function 29 (strings.Split): its contract, off what is known of the library. -/
set_option linter.unusedVariables false
set_option linter.unusedSimpArgs false
set_option maxRecDepth 100000
namespace Go.Proofs.YtalgkffjceljiaaGreatDoor
open Go Go.Am Go.Proofs

def sig29 : List AT := [AT.v Ty.str, AT.v Ty.str]
def g29_0 (x0 x1 : ByteArray) : List ByteArray := Lib.splitB x1 0 (Lib.countB x0 x1) x0
def P29 (x0 x1 : ByteArray) : Prop := x0.size < 4294967281 ∧ 1 ≤ x1.size
def S29 : Am.Spec := { sig := sig29, pre := fun ⟨x0, x1, _⟩ => P29 x0 x1, res := fun ⟨x0, x1, _⟩ => [⟨Ty.sl Ty.str, g29_0 x0 x1⟩] }

theorem con29 : Contract Tryz.prog 29 S29 := by
  refine Contract0.up rfl rfl ?_
  rintro w ⟨x0, x1, u⟩ vs bss hgo hp ⟨v0, s0, b0, bs0, rfl, rfl, ⟨rfl, rfl, _⟩, v1, s1, b1, bs1, rfl, rfl, ⟨rfl, rfl, _⟩, rfl, rfl⟩ hn
  obtain ⟨hs, h1⟩ : x0.size < 4294967281 ∧ 1 ≤ x1.size := hp
  obtain ⟨m, hm⟩ := maxLenG hgo.inv
  refine (Tryz.strings_Split x0 x1 m w hs hm h1).mono ?_
  rintro e w' ⟨rfl, rfl⟩
  have hlen : (g29_0 x0 x1).length = Lib.countB x0 x1 + 1 := Lib.splitB_all x1 h1 0 _ _ rfl
  have hle := Lib.countB_le x1 h1 x0.size x0 (Nat.le_refl _)
  have hparts : ∀ y ∈ g29_0 x0 x1, y.size ≤ maxLen := fun y hy => by
    have := splitB_part x1 0 _ _ y hy
    unfold maxLen; omega
  have e1 : ∀ xs : List ByteArray, fcs .str xs = xs.map Value.string := by
    intro xs
    induction xs with
    | nil => rfl
    | cons a r ih => unfold fcs at ih ⊢; rw [List.map_cons, List.flatten_cons, ih]; rfl
  have ho : OwnC (w.alloc (.cells ((g29_0 x0 x1).map Value.string).toArray 9)) (.sl .str) (g29_0 x0 x1) [.slice (some ⟨w.heap.size, 0, none⟩) (Lib.countB x0 x1 + 1) (Lib.countB x0 x1 + 1)] [w.heap.size] :=
    own_flat_mk rfl hparts hlen.symm (Nat.le_of_eq hlen) (by unfold maxLen; omega) (by rw [List.size_toArray, List.length_map, hlen]; simp [Ty.size]) (heap_new w _) (freeS_zero _ _) (fun j u hj => by
      rw [e1] at hj
      rw [Nat.zero_add, ← Array.getElem?_toList]
      exact hj)
  refine ⟨[_], [], [[w.heap.size]], rfl, (Kept.refl _ _).alloc _, ⟨_, _, _, _, _, rfl, rfl, ho, rfl, rfl, rfl⟩, ⟨rfl, rfl⟩, by simp, fun b hb hg => ?_⟩
  simp at hb
  have := hg.1
  omega

end Go.Proofs.YtalgkffjceljiaaGreatDoor

/- Function 17 (impl.endedLines): its runs between cut points. Written by a program of this repo (gen). -/
set_option linter.unusedVariables false
set_option linter.unusedSimpArgs false
set_option maxRecDepth 100000
namespace Go.Proofs.YtalgkffjceljiaaGreatDoor
open Go Go.Am Go.Proofs
noncomputable section
def ext17 : Ext := [(29, S29)]
theorem call17_29 : Callable Tryz.prog 29 := ⟨Tryz.f29, Tryz.func29, by kernel_rfl, by kernel_rfl⟩
theorem ext17Ok : ExtOk Tryz.prog ext17 := ⟨⟨call17_29, con29⟩, trivial⟩

noncomputable def b17 : Code := bodyOf Tryz.f17
theorem hb17 : Tryz.f17.body = some b17 := by kernel_rfl
def sig17 : List AT := [AT.v (Ty.str)]
def tys17 : List Ty := [Ty.sl Ty.str, Ty.str]
def kds17 : List RK := []
def oks17 : List AT := owns sig17
def P17 (x0 : ByteArray) : Prop := ((P29 x0 (ByteArray.mk #[10])) ∧ ((InR IntKind.i64 ((↑(List.length (g29_0 x0 (ByteArray.mk #[10]))) : Int) - 1)) ∧ ((0 ≤ (↑(List.length (g29_0 x0 (ByteArray.mk #[10]))) : Int) - 1) ∧ ((↑(List.length (g29_0 x0 (ByteArray.mk #[10]))) : Int) - 1 ≤ (↑(List.length (g29_0 x0 (ByteArray.mk #[10])) - 0) : Int)) ∧ ((0 ≤ (↑(List.length (g29_0 x0 (ByteArray.mk #[10]))) : Int) - 1) ∧ ((↑(List.length (g29_0 x0 (ByteArray.mk #[10]))) : Int) - 1 < (↑(List.length (g29_0 x0 (ByteArray.mk #[10]))) : Int)) ∧ True))))
def g17_0 (x0 : ByteArray) : List ByteArray := List.drop 0 (List.take (0 + Int.toNat ((↑(List.length (g29_0 x0 (ByteArray.mk #[10]))) : Int) - 1)) (g29_0 x0 (ByteArray.mk #[10])))
def g17_1 (x0 : ByteArray) : ByteArray := List.getD (g29_0 x0 (ByteArray.mk #[10])) (Int.toNat ((↑(List.length (g29_0 x0 (ByteArray.mk #[10]))) : Int) - 1)) ByteArray.empty
theorem at17 (x0 : ByteArray) (h : P17 x0) (K : Ctx) (q : Nat → Value) : AtV Tryz.prog 17 (PostR kds17 oks17 [⟨Ty.sl Ty.str, g17_0 x0⟩, ⟨Ty.str, g17_1 x0⟩] [] [] q K) 18 K q [] [.code b17] (entE 0 0 sig17 (x0, ())) (entL sig17 (x0, ())) := by
  unfold P17 at h
  unfold g17_0 g17_1
  obtain ⟨s0, h⟩ := h
  obtain ⟨s1, h⟩ := h
  obtain ⟨s2, s3, h⟩ := h
  obtain ⟨s4, s5, h⟩ := h
  exact AtV.ret Tryz.func17 tabOk ext17Ok mixed false [] tys17 [] (a1 s0 (a1 s1 (a1 s2 (a1 s3 (a1 s4 (a1 s5 trivial)))))) (by kernel_rfl)

def S17 : Am.Spec := { sig := sig17, pre := fun ⟨x0, _⟩ => P17 x0, res := fun ⟨x0, _⟩ => [⟨Ty.sl Ty.str, g17_0 x0⟩, ⟨Ty.str, g17_1 x0⟩], kds := kds17 }
theorem con17 : Contract Tryz.prog 17 S17 := contract_of Tryz.func17 hb17 (Nat.le_of_ble_eq_true (by kernel_rfl)) (fun ⟨x0, _⟩ h _ K q => at17 x0 h K q)


end
end Go.Proofs.YtalgkffjceljiaaGreatDoor

/- Function 30 (strings.Cut): its contract, off what is known of the library. -/
set_option linter.unusedVariables false
set_option linter.unusedSimpArgs false
set_option maxRecDepth 100000
namespace Go.Proofs.YtalgkffjceljiaaGreatDoor
open Go Go.Am Go.Proofs

def sig30 : List AT := [AT.v Ty.str, AT.v Ty.str]
def g30_0 (x0 x1 : ByteArray) : ByteArray := ⟨(Lib.cut x0.data.toList x1.data.toList).1.toArray⟩
def g30_1 (x0 x1 : ByteArray) : ByteArray := ⟨(Lib.cut x0.data.toList x1.data.toList).2.1.toArray⟩
def g30_2 (x0 x1 : ByteArray) : Bool := (Lib.cut x0.data.toList x1.data.toList).2.2
def P30 (x0 x1 : ByteArray) : Prop := x0.size < 4294967281
def S30 : Am.Spec := { sig := sig30, pre := fun ⟨x0, x1, _⟩ => P30 x0 x1, res := fun ⟨x0, x1, _⟩ => [⟨Ty.str, g30_0 x0 x1⟩, ⟨Ty.str, g30_1 x0 x1⟩, ⟨Ty.bool, g30_2 x0 x1⟩] }
theorem cutLen30 (s sep : List UInt8) : (Lib.cut s sep).1.length ≤ s.length ∧ (Lib.cut s sep).2.1.length ≤ s.length := by
  unfold Lib.cut
  split
  · exact ⟨by simp; omega, by simp⟩
  · exact ⟨Nat.le_refl _, Nat.zero_le _⟩
theorem con30 : Contract Tryz.prog 30 S30 := contract_flat rfl fun w ⟨x0, x1, _⟩ vs bss hg hp hw ha => by
  obtain ⟨v0, s0, _, _, rfl, _, ⟨_, rfl, _⟩, v1, s1, _, _, rfl, _, ⟨_, rfl, _⟩, rfl, _⟩ := ha
  have hp : x0.size < 4294967281 := hp
  obtain ⟨l1, l2⟩ := cutLen30 x0.data.toList x1.data.toList
  have e : x0.data.toList.length = x0.size := rfl
  refine ⟨fun d hd => ?_, ?_⟩
  · simp only [S30, List.mem_cons, List.mem_nil_iff, or_false] at hd
    rcases hd with rfl | rfl | rfl
    · refine ⟨rfl, ?_⟩
      show (List.toArray _).size ≤ maxLen
      rw [List.size_toArray]; unfold maxLen; omega
    · refine ⟨rfl, ?_⟩
      show (List.toArray _).size ≤ maxLen
      rw [List.size_toArray]; unfold maxLen; omega
    · exact ⟨rfl, trivial⟩
  · obtain ⟨m, hm⟩ := maxLenG hg
    refine (Tryz.strings_Cut x0 x1 m w hp hm).mono ?_
    rintro e w' ⟨rfl, n, rfl⟩
    exact ⟨rfl, ⟨rfl, rfl, rfl, Nat.le_refl _, fun _ _ _ => rfl⟩⟩

end Go.Proofs.YtalgkffjceljiaaGreatDoor

/- Function 51 (impl.within): its runs between cut points. Written by a program of this repo (gen). -/
set_option linter.unusedVariables false
set_option linter.unusedSimpArgs false
set_option maxRecDepth 100000
namespace Go.Proofs.YtalgkffjceljiaaGreatDoor
open Go Go.Am Go.Proofs
noncomputable section
def ext51 : Ext := []
theorem ext51Ok : ExtOk Tryz.prog ext51 := trivial

noncomputable def b51 : Code := bodyOf Tryz.f51
theorem hb51 : Tryz.f51.body = some b51 := by kernel_rfl
def sig51 : List AT := [AT.v (Ty.int IntKind.i64), AT.v (Ty.int IntKind.i64), AT.v (Ty.int IntKind.i64)]
def tys51 : List Ty := [Ty.bool]
def kds51 : List RK := []
def oks51 : List AT := owns sig51
def P51 (x0 : Int) (x1 : Int) (x2 : Int) : Prop := True
def g51_0 (x0 : Int) (x1 : Int) (x2 : Int) : Bool := (if (Decidable.decide (x0 ≥ x1)) = true then Decidable.decide (x0 ≤ x2) else Bool.false)
theorem at51 (x0 : Int) (x1 : Int) (x2 : Int) (h : P51 x0 x1 x2) (K : Ctx) (q : Nat → Value) : AtV Tryz.prog 51 (PostR kds51 oks51 [⟨Ty.bool, g51_0 x0 x1 x2⟩] [] [] q K) 15 K q [] [.code b51] (entE 0 0 sig51 (x0, x1, x2, ())) (entL sig51 (x0, x1, x2, ())) := by
  unfold P51 at h
  unfold g51_0
  by_cases b0 : (Decidable.decide (x0 ≥ x1)) = true
  · try simp only [if_pos b0] at h ⊢
    exact AtV.ret Tryz.func51 tabOk ext51Ok mixed false [] tys51 [true] (a1 b0 trivial) (by kernel_rfl)
  · try simp only [if_neg b0] at h ⊢
    replace b0 := Bool.eq_false_iff.2 b0
    exact AtV.ret Tryz.func51 tabOk ext51Ok mixed false [] tys51 [false] (a1 b0 trivial) (by kernel_rfl)

def S51 : Am.Spec := { sig := sig51, pre := fun ⟨x0, x1, x2, _⟩ => P51 x0 x1 x2, res := fun ⟨x0, x1, x2, _⟩ => [⟨Ty.bool, g51_0 x0 x1 x2⟩], kds := kds51 }
theorem con51 : Contract Tryz.prog 51 S51 := contract_of Tryz.func51 hb51 (Nat.le_of_ble_eq_true (by kernel_rfl)) (fun ⟨x0, x1, x2, _⟩ h _ K q => at51 x0 x1 x2 h K q)


end
end Go.Proofs.YtalgkffjceljiaaGreatDoor

/- Function 32 (impl.Crc16): its runs between cut points. Written by a program of this repo (gen). -/
set_option linter.unusedVariables false
set_option linter.unusedSimpArgs false
set_option maxRecDepth 100000
namespace Go.Proofs.YtalgkffjceljiaaGreatDoor
open Go Go.Am Go.Proofs
noncomputable section
def ext32 : Ext := [(51, S51)]
theorem call32_51 : Callable Tryz.prog 51 := ⟨Tryz.f51, Tryz.func51, by kernel_rfl, by kernel_rfl⟩
theorem ext32Ok : ExtOk Tryz.prog ext32 := ⟨⟨call32_51, con51⟩, trivial⟩

noncomputable def b32 : Code := bodyOf Tryz.f32
theorem hb32 : Tryz.f32.body = some b32 := by kernel_rfl
def sig32 : List AT := [AT.v (Ty.str), AT.v (Ty.int IntKind.i64)]
def tys32 : List Ty := [Ty.int IntKind.i64]
def kds32 : List RK := []
def oks32 : List AT := owns sig32
def E32_5 (v15 : Int) (x1 : Int) (x0 : ByteArray) : Env := [(5, PV.a (Atom.val (Value.int IntKind.i64 x1))), (13, PV.a (Atom.osl 0 Option.none)), (14, PV.a (Atom.val (Value.int IntKind.i64 (↑(List.length (bytesOf x0)) : Int)))), (15, PV.a (Atom.val (Value.int IntKind.i64 v15)))]
def L32_5 (v15 : Int) (x1 : Int) (x0 : ByteArray) : Heap := [Option.some (Arr.mk (Ty.int IntKind.u8) (bytesOf x0) Bool.false Option.none Option.none)]
def E32_9 (v5 : Int) (v24 : Int) (x0 : ByteArray) (v15 : Int) : Env := [(5, PV.a (Atom.val (Value.int IntKind.i64 v5))), (13, PV.a (Atom.osl 0 Option.none)), (14, PV.a (Atom.val (Value.int IntKind.i64 (↑(List.length (bytesOf x0)) : Int)))), (15, PV.a (Atom.val (Value.int IntKind.i64 v15))), (24, PV.a (Atom.val (Value.int IntKind.i64 v24)))]
def L32_9 (v5 : Int) (v24 : Int) (x0 : ByteArray) (v15 : Int) : Heap := [Option.some (Arr.mk (Ty.int IntKind.u8) (bytesOf x0) Bool.false Option.none Option.none)]
mutual
def R32 : Nat → ByteArray → Int → List Dyn → Prop
  | 0, _, _, _ => False
  | n + 1, x0, x1, ds => (if (!g51_0 x1 0 65535) = true then (ds = [Dyn.mk (Ty.int IntKind.i64) 0]) else (R32_5 n (0) (x1) (x0) ds))
def R32_5 : Nat → Int → Int → ByteArray → List Dyn → Prop
  | 0, _, _, _, _ => False
  | n + 1, v15, x1, x0, ds => (if (Decidable.decide (v15 < (↑(List.length (bytesOf x0)) : Int))) = true then ((0 ≤ v15) ∧ (v15 < (↑(List.length (bytesOf x0)) : Int)) ∧ ((InR IntKind.i64 (List.getD (bytesOf x0) (Int.toNat v15) 0)) ∧ (R32_9 n (IntKind.wrap IntKind.i64 (↑(BitVec.toNat (BitVec.ofInt 64 x1 ^^^ BitVec.ofInt 64 (IntKind.wrap IntKind.i64 (List.getD (bytesOf x0) (Int.toNat v15) 0 * 256)))) : Int)) (0) (x0) (v15) ds))) else (ds = [Dyn.mk (Ty.int IntKind.i64) x1]))
def R32_9 : Nat → Int → Int → ByteArray → Int → List Dyn → Prop
  | 0, _, _, _, _, _ => False
  | n + 1, v5, v24, x0, v15, ds => (if (Decidable.decide (v24 < 8)) = true then (if (Decidable.decide (IntKind.wrap IntKind.i64 (v5 * 2) > 65535)) = true then ((InR IntKind.i64 (v24 + 1)) ∧ (R32_9 n (IntKind.wrap IntKind.i64 (↑(BitVec.toNat (BitVec.ofInt 64 (IntKind.wrap IntKind.i64 (↑(BitVec.toNat (BitVec.ofInt 64 (IntKind.wrap IntKind.i64 (v5 * 2)) &&& BitVec.ofInt 64 65535)) : Int)) ^^^ BitVec.ofInt 64 4129)) : Int)) (v24 + 1) (x0) (v15) ds)) else ((InR IntKind.i64 (v24 + 1)) ∧ (R32_9 n (IntKind.wrap IntKind.i64 (v5 * 2)) (v24 + 1) (x0) (v15) ds))) else ((InR IntKind.i64 (v15 + 1)) ∧ (R32_5 n (v15 + 1) (v5) (x0) ds)))
end
theorem snd32 : ∀ n, (∀ (x0 : ByteArray) (x1 : Int) ds, R32 n x0 x1 ds → ∀ K q, AtV Tryz.prog 32 (PostR kds32 oks32 ds [] [] q K) 36 K q [] [.code b32] (entE 0 0 sig32 (x0, x1, ())) (entL sig32 (x0, x1, ()))) ∧ (∀ (v15 : Int) (x1 : Int) (x0 : ByteArray) ds, R32_5 n v15 x1 x0 ds → ∀ K q, AtV Tryz.prog 32 (PostR kds32 oks32 ds [] [] q K) 36 K q [] (cutAt b32 5) (E32_5 v15 x1 x0) (L32_5 v15 x1 x0)) ∧ (∀ (v5 : Int) (v24 : Int) (x0 : ByteArray) (v15 : Int) ds, R32_9 n v5 v24 x0 v15 ds → ∀ K q, AtV Tryz.prog 32 (PostR kds32 oks32 ds [] [] q K) 36 K q [] (cutAt b32 9) (E32_9 v5 v24 x0 v15) (L32_9 v5 v24 x0 v15)) := by
  intro n
  induction n with
  | zero => exact ⟨fun _ _ _ h => by simp only [R32] at h, fun _ _ _ _ h => by simp only [R32_5] at h, fun _ _ _ _ _ h => by simp only [R32_9] at h⟩
  | succ n ih =>
  obtain ⟨ih, ih5, ih9⟩ := ih
  refine ⟨?_, ?_, ?_⟩
  · intro x0 x1 ds h K q
    rw [R32] at h
    by_cases b0 : (!g51_0 x1 0 65535) = true
    · rw [if_pos b0] at h
      subst h
      exact AtV.ret Tryz.func32 tabOk ext32Ok mixed false [] tys32 [true] (a1 trivial (a1 b0 trivial)) (by kernel_rfl)
    · rw [if_neg b0] at h
      replace b0 := Bool.eq_false_iff.2 b0
      exact AtV.go tabOk ext32Ok mixed false [] [] [5, 13, 14, 15] [0] [false] (a1 trivial (a1 b0 trivial)) (ih5 _ _ _ _ h K q) (by kernel_rfl)

  · intro v15 x1 x0 ds h K q
    rw [R32_5] at h
    by_cases b0 : (Decidable.decide (v15 < (↑(List.length (bytesOf x0)) : Int))) = true
    · rw [if_pos b0] at h
      obtain ⟨s0, s1, h⟩ := h
      obtain ⟨s2, h⟩ := h
      exact AtV.go tabOk ext32Ok mixed false [] [] [5, 13, 14, 15, 24] [0] [true] (a1 b0 (a1 s0 (a1 s1 (a1 s2 (a1 ((by decide) : (0 : Int) ≤ (8 : Int)) trivial))))) (ih9 _ _ _ _ _ h K q) (by kernel_rfl)
    · rw [if_neg b0] at h
      replace b0 := Bool.eq_false_iff.2 b0
      subst h
      exact AtV.ret Tryz.func32 tabOk ext32Ok mixed false [] tys32 [false] (a1 b0 trivial) (by kernel_rfl)

  · intro v5 v24 x0 v15 ds h K q
    rw [R32_9] at h
    by_cases b0 : (Decidable.decide (v24 < 8)) = true
    · rw [if_pos b0] at h
      by_cases b1 : (Decidable.decide (IntKind.wrap IntKind.i64 (v5 * 2) > 65535)) = true
      · rw [if_pos b1] at h
        obtain ⟨s0, h⟩ := h
        exact AtV.go tabOk ext32Ok mixed false [] [] [5, 13, 14, 15, 24] [0] [true, true] (a1 b0 (a1 ((by decide) : (0 : Int) ≤ (1 : Int)) (a1 b1 (a1 s0 trivial)))) (ih9 _ _ _ _ _ h K q) (by kernel_rfl)
      · rw [if_neg b1] at h
        replace b1 := Bool.eq_false_iff.2 b1
        obtain ⟨s0, h⟩ := h
        exact AtV.go tabOk ext32Ok mixed false [] [] [5, 13, 14, 15, 24] [0] [true, false] (a1 b0 (a1 ((by decide) : (0 : Int) ≤ (1 : Int)) (a1 b1 (a1 s0 trivial)))) (ih9 _ _ _ _ _ h K q) (by kernel_rfl)
    · rw [if_neg b0] at h
      replace b0 := Bool.eq_false_iff.2 b0
      obtain ⟨s0, h⟩ := h
      exact AtV.go tabOk ext32Ok mixed false [] [] [5, 13, 14, 15] [0] [false] (a1 b0 (a1 s0 trivial)) (ih5 _ _ _ _ h K q) (by kernel_rfl)



def bit32 (s : Int) : Int := if (Decidable.decide (IntKind.wrap IntKind.i64 (s * 2) > 65535)) = true then (IntKind.wrap IntKind.i64 (↑(BitVec.toNat (BitVec.ofInt 64 (IntKind.wrap IntKind.i64 (↑(BitVec.toNat (BitVec.ofInt 64 (IntKind.wrap IntKind.i64 (s * 2)) &&& BitVec.ofInt 64 65535)) : Int)) ^^^ BitVec.ofInt 64 4129)) : Int)) else (IntKind.wrap IntKind.i64 (s * 2))
def bits32 : Nat → Int → Int
  | 0, s => s
  | k + 1, s => bits32 k (bit32 s)
def byte32 (s c : Int) : Int := bits32 8 (IntKind.wrap IntKind.i64 (↑(BitVec.toNat (BitVec.ofInt 64 s ^^^ BitVec.ofInt 64 (IntKind.wrap IntKind.i64 (c * 256)))) : Int))
def g32_0 (x0 : ByteArray) (x1 : Int) : Int := if (!g51_0 x1 0 65535) = true then 0 else (bytesOf x0).foldl byte32 x1
def P32 (x0 : ByteArray) (x1 : Int) : Prop := True

theorem inner32 (x0 : ByteArray) (hm : (bytesOf x0).length ≤ maxLen) (i n : Nat) (hi : i < (bytesOf x0).length) (ds : List Dyn) : ∀ (k j : Nat) (s : Int), j + k = 8 → R32_5 n ((i : Int) + 1) (bits32 k s) x0 ds → R32_9 (n + 1 + k) s (j : Int) x0 (i : Int) ds := by
  intro k
  induction k with
  | zero =>
    intro j s hj hr
    rw [R32_9, if_neg (by simp; omega)]
    exact ⟨inR_up hm hi, hr⟩
  | succ k ih =>
    intro j s hj hr
    have e2 : (j : Int) + 1 = ((j + 1 : Nat) : Int) := by omega
    rw [show n + 1 + (k + 1) = (n + 1 + k) + 1 by omega, R32_9, if_pos (by simp; omega)]
    unfold bits32 bit32 at hr
    by_cases hc : (Decidable.decide (IntKind.wrap IntKind.i64 (s * 2) > 65535)) = true
    · rw [if_pos hc] at hr ⊢
      rw [e2]
      exact ⟨by rw [i64_iff]; omega, ih (j + 1) _ (by omega) hr⟩
    · rw [if_neg hc] at hr ⊢
      rw [e2]
      exact ⟨by rw [i64_iff]; omega, ih (j + 1) _ (by omega) hr⟩

theorem run32 (x0 : ByteArray) (hm : x0.size ≤ maxLen) : ∀ (k i : Nat) (s : Int), i + k = x0.size → ∃ n, R32_5 n (i : Int) s x0 [⟨.int .i64, ((bytesOf x0).drop i).foldl byte32 s⟩] := by
  intro k
  have hl := bytesOf_length x0
  induction k with
  | zero =>
    intro i s hi
    refine ⟨1, ?_⟩
    rw [R32_5, if_neg (by rw [hl]; simp; omega), List.drop_of_length_le (by omega)]
    rfl
  | succ k ih =>
    intro i s hi
    have hlt : i < (bytesOf x0).length := by omega
    have hcons := drop_get (bytesOf x0) i 0 hlt
    obtain ⟨n, hn⟩ := ih (i + 1) (byte32 s ((bytesOf x0).getD i 0)) (by omega)
    refine ⟨n + 1 + 8 + 1, ?_⟩
    have hb := bytesOf_range x0 _ (mem_getD (bytesOf x0) i 0 hlt)
    rw [R32_5, if_pos (by rw [hl]; simp; omega)]
    simp only [Int.toNat_natCast]
    rw [hcons, List.foldl_cons]
    exact ⟨by omega, by omega, by rw [i64_iff]; omega, inner32 x0 (by rw [hl]; exact hm) i n hlt _ 8 0 _ (by omega) hn⟩

theorem top32 (x0 : ByteArray) (x1 : Int) (hm : x0.size ≤ maxLen) : ∃ n, R32 n x0 x1 [⟨.int .i64, g32_0 x0 x1⟩] := by
  obtain ⟨n, hn⟩ := run32 x0 hm x0.size 0 x1 (by omega)
  refine ⟨n + 1, ?_⟩
  rw [R32]
  unfold g32_0
  by_cases hc : (!g51_0 x1 0 65535) = true
  · rw [if_pos hc, if_pos hc]
  · rw [if_neg hc, if_neg hc]
    exact hn

def S32 : Am.Spec := { sig := sig32, pre := fun ⟨x0, x1, _⟩ => P32 x0 x1, res := fun ⟨x0, x1, _⟩ => [⟨Ty.int .i64, g32_0 x0 x1⟩] }
theorem con32 : Contract Tryz.prog 32 S32 := contract_of Tryz.func32 hb32 (Nat.le_of_ble_eq_true (by kernel_rfl)) (fun ⟨x0, x1, _⟩ h hwf K q =>
  let ⟨n, hn⟩ := top32 x0 x1 hwf.1
  (snd32 n).1 x0 x1 _ hn K q)

end
end Go.Proofs.YtalgkffjceljiaaGreatDoor

/- Function 50 (strconv.FormatInt): its contract, off what is known of the library. -/
set_option linter.unusedVariables false
set_option linter.unusedSimpArgs false
set_option maxRecDepth 100000
namespace Go.Proofs.YtalgkffjceljiaaGreatDoor
open Go Go.Am Go.Proofs

def sig50 : List AT := [AT.v (Ty.int .i64), AT.v (Ty.int .i64)]
def g50_0 (x0 x1 : Int) : ByteArray := numB x0
def P50 (x0 x1 : Int) : Prop := x1 = 10
def S50 : Am.Spec := { sig := sig50, pre := fun ⟨x0, x1, _⟩ => P50 x0 x1, res := fun ⟨x0, x1, _⟩ => [⟨Ty.str, g50_0 x0 x1⟩] }
theorem con50 : Contract Tryz.prog 50 S50 := contract_flat rfl fun w ⟨x0, x1, _⟩ vs bss hg hp hw ha => by
  obtain ⟨v0, s0, _, _, rfl, _, ⟨_, rfl, hi⟩, v1, s1, _, _, rfl, _, ⟨_, rfl, _⟩, rfl, _⟩ := ha
  obtain rfl : x1 = 10 := hp
  have hi : InR .i64 x0 := hi
  rw [i64_iff] at hi
  refine ⟨fun d hd => ?_, ?_⟩
  · rw [List.mem_singleton.1 hd]
    refine ⟨rfl, ?_⟩
    show (numB x0).size ≤ maxLen
    have := numB_size x0 hi.1 hi.2
    unfold maxLen; omega
  · refine (Tryz.strconv_FormatInt_10 x0 hi.1 hi.2 w (pow10G hg)).mono ?_
    rintro e w' ⟨rfl, n, os, rfl⟩
    exact ⟨rfl, kept_grow _ _ _⟩

end Go.Proofs.YtalgkffjceljiaaGreatDoor

/- Function 31 (impl.Decimal): its runs between cut points. Written by a program of this repo (gen). -/
set_option linter.unusedVariables false
set_option linter.unusedSimpArgs false
set_option maxRecDepth 100000
namespace Go.Proofs.YtalgkffjceljiaaGreatDoor
open Go Go.Am Go.Proofs
noncomputable section
def ext31 : Ext := [(50, S50)]
theorem call31_50 : Callable Tryz.prog 50 := ⟨Tryz.f50, Tryz.func50, by kernel_rfl, by kernel_rfl⟩
theorem ext31Ok : ExtOk Tryz.prog ext31 := ⟨⟨call31_50, con50⟩, trivial⟩

noncomputable def b31 : Code := bodyOf Tryz.f31
theorem hb31 : Tryz.f31.body = some b31 := by kernel_rfl
def sig31 : List AT := [AT.v (Ty.int IntKind.i64)]
def tys31 : List Ty := [Ty.str]
def kds31 : List RK := []
def oks31 : List AT := owns sig31
def P31 (x0 : Int) : Prop := ((P50 x0 10) ∧ True)
def g31_0 (x0 : Int) : ByteArray := g50_0 x0 10
theorem at31 (x0 : Int) (h : P31 x0) (K : Ctx) (q : Nat → Value) : AtV Tryz.prog 31 (PostR kds31 oks31 [⟨Ty.str, g31_0 x0⟩] [] [] q K) 5 K q [] [.code b31] (entE 0 0 sig31 (x0, ())) (entL sig31 (x0, ())) := by
  unfold P31 at h
  unfold g31_0
  obtain ⟨s0, h⟩ := h
  exact AtV.ret Tryz.func31 tabOk ext31Ok mixed false [] tys31 [] (a1 s0 trivial) (by kernel_rfl)

def S31 : Am.Spec := { sig := sig31, pre := fun ⟨x0, _⟩ => P31 x0, res := fun ⟨x0, _⟩ => [⟨Ty.str, g31_0 x0⟩], kds := kds31 }
theorem con31 : Contract Tryz.prog 31 S31 := contract_of Tryz.func31 hb31 (Nat.le_of_ble_eq_true (by kernel_rfl)) (fun ⟨x0, _⟩ h _ K q => at31 x0 h K q)


end
end Go.Proofs.YtalgkffjceljiaaGreatDoor

/- Function 33 (strings.Repeat): its contract, off what is known of the library. -/
set_option linter.unusedVariables false
set_option linter.unusedSimpArgs false
set_option maxRecDepth 100000
namespace Go.Proofs.YtalgkffjceljiaaGreatDoor
open Go Go.Am Go.Proofs

def sig33 : List AT := [AT.v Ty.str, AT.v (Ty.int .i64)]
def g33_0 (x0 : ByteArray) (x1 : Int) : ByteArray := ⟨(Lib.repeatL x0.data.toList x1.toNat).toArray⟩
def P33 (x0 : ByteArray) (x1 : Int) : Prop := 0 ≤ x1 ∧ (x0.size : Int) * x1 ≤ 140737488355328
def S33 : Am.Spec := { sig := sig33, pre := fun ⟨x0, x1, _⟩ => P33 x0 x1, res := fun ⟨x0, x1, _⟩ => [⟨Ty.str, g33_0 x0 x1⟩] }
theorem con33 : Contract Tryz.prog 33 S33 := contract_flat rfl fun w ⟨x0, x1, _⟩ vs bss hg hp hw ha => by
  obtain ⟨v0, s0, _, _, rfl, _, ⟨_, rfl, _⟩, v1, s1, _, _, rfl, _, ⟨_, rfl, _⟩, rfl, _⟩ := ha
  obtain ⟨h0, h1⟩ := hp
  obtain ⟨c, rfl⟩ : ∃ c : Nat, x1 = (c : Int) := Int.eq_ofNat_of_zero_le h0
  have hi : InR .i64 (c : Int) := hw.2.1
  rw [i64_iff] at hi
  have hm : x0.size * c ≤ 140737488355328 := by
    have : ((x0.size * c : Nat) : Int) = (x0.size : Int) * (c : Int) := Int.natCast_mul _ _
    omega
  refine ⟨fun d hd => ?_, ?_⟩
  · rw [List.mem_singleton.1 hd]
    refine ⟨rfl, ?_⟩
    show (ByteArray.mk (Lib.repeatL x0.data.toList c).toArray).size ≤ maxLen
    have : (ByteArray.mk (Lib.repeatL x0.data.toList c).toArray).size = c * x0.data.toList.length := by
      show (Lib.repeatL x0.data.toList c).toArray.size = _
      rw [List.size_toArray, Lib.repeatL_length]
    rw [this, Nat.mul_comm]
    have e : x0.data.toList.length = x0.size := rfl
    rw [e]
    unfold maxLen
    omega
  · refine (Tryz.strings_Repeat x0 c w (by omega) hm).mono ?_
    rintro e w' ⟨rfl, hb⟩
    exact ⟨rfl, Kept.of_below hb⟩

end Go.Proofs.YtalgkffjceljiaaGreatDoor

/- Function 58 (impl.IsName): its runs between cut points. Written by a program of this repo (gen). -/
set_option linter.unusedVariables false
set_option linter.unusedSimpArgs false
set_option maxRecDepth 100000
namespace Go.Proofs.YtalgkffjceljiaaGreatDoor
open Go Go.Am Go.Proofs
noncomputable section
def ext58 : Ext := []
theorem ext58Ok : ExtOk Tryz.prog ext58 := trivial

noncomputable def b58 : Code := bodyOf Tryz.f58
theorem hb58 : Tryz.f58.body = some b58 := by kernel_rfl
def sig58 : List AT := [AT.v (Ty.str)]
def tys58 : List Ty := [Ty.bool]
def kds58 : List RK := []
def oks58 : List AT := owns sig58
def E58_4 (v18 : Int) (x0 : ByteArray) : Env := [(16, PV.a (Atom.osl 0 Option.none)), (17, PV.a (Atom.val (Value.int IntKind.i64 (↑(List.length (bytesOf x0)) : Int)))), (18, PV.a (Atom.val (Value.int IntKind.i64 v18)))]
def L58_4 (v18 : Int) (x0 : ByteArray) : Heap := [Option.some (Arr.mk (Ty.int IntKind.u8) (bytesOf x0) Bool.false Option.none Option.none)]
mutual
def R58 : Nat → ByteArray → List Dyn → Prop
  | 0, _, _ => False
  | n + 1, x0, ds => (if (Decidable.decide ((↑(ByteArray.size x0) : Int) < 1)) = true then (ds = [Dyn.mk Ty.bool Bool.false]) else (if (Decidable.decide ((↑(ByteArray.size x0) : Int) > 10)) = true then (ds = [Dyn.mk Ty.bool Bool.false]) else (R58_4 n (0) (x0) ds)))
def R58_4 : Nat → Int → ByteArray → List Dyn → Prop
  | 0, _, _, _ => False
  | n + 1, v18, x0, ds => (if (Decidable.decide (v18 < (↑(List.length (bytesOf x0)) : Int))) = true then ((0 ≤ v18) ∧ (v18 < (↑(List.length (bytesOf x0)) : Int)) ∧ (if (Decidable.decide (List.getD (bytesOf x0) (Int.toNat v18) 0 ≥ 97)) = true then (if (Decidable.decide (List.getD (bytesOf x0) (Int.toNat v18) 0 ≥ 48)) = true then (if (!Decidable.decide (List.getD (bytesOf x0) (Int.toNat v18) 0 ≤ 122)) = true then (if (v18 == 0) = true then (ds = [Dyn.mk Ty.bool Bool.false]) else (if (!Decidable.decide (List.getD (bytesOf x0) (Int.toNat v18) 0 ≤ 57)) = true then (ds = [Dyn.mk Ty.bool Bool.false]) else ((InR IntKind.i64 (v18 + 1)) ∧ (R58_4 n (v18 + 1) (x0) ds)))) else ((InR IntKind.i64 (v18 + 1)) ∧ (R58_4 n (v18 + 1) (x0) ds))) else (if (!Decidable.decide (List.getD (bytesOf x0) (Int.toNat v18) 0 ≤ 122)) = true then (if (v18 == 0) = true then (ds = [Dyn.mk Ty.bool Bool.false]) else (ds = [Dyn.mk Ty.bool Bool.false])) else ((InR IntKind.i64 (v18 + 1)) ∧ (R58_4 n (v18 + 1) (x0) ds)))) else (if (Decidable.decide (List.getD (bytesOf x0) (Int.toNat v18) 0 ≥ 48)) = true then (if (v18 == 0) = true then (ds = [Dyn.mk Ty.bool Bool.false]) else (if (!Decidable.decide (List.getD (bytesOf x0) (Int.toNat v18) 0 ≤ 57)) = true then (ds = [Dyn.mk Ty.bool Bool.false]) else ((InR IntKind.i64 (v18 + 1)) ∧ (R58_4 n (v18 + 1) (x0) ds)))) else (if (v18 == 0) = true then (ds = [Dyn.mk Ty.bool Bool.false]) else (ds = [Dyn.mk Ty.bool Bool.false]))))) else (ds = [Dyn.mk Ty.bool Bool.true]))
end
theorem snd58 : ∀ n, (∀ (x0 : ByteArray) ds, R58 n x0 ds → ∀ K q, AtV Tryz.prog 58 (PostR kds58 oks58 ds [] [] q K) 46 K q [] [.code b58] (entE 0 0 sig58 (x0, ())) (entL sig58 (x0, ()))) ∧ (∀ (v18 : Int) (x0 : ByteArray) ds, R58_4 n v18 x0 ds → ∀ K q, AtV Tryz.prog 58 (PostR kds58 oks58 ds [] [] q K) 46 K q [] (cutAt b58 4) (E58_4 v18 x0) (L58_4 v18 x0)) := by
  intro n
  induction n with
  | zero => exact ⟨fun _ _ h => by simp only [R58] at h, fun _ _ _ h => by simp only [R58_4] at h⟩
  | succ n ih =>
  obtain ⟨ih, ih4⟩ := ih
  refine ⟨?_, ?_⟩
  · intro x0 ds h K q
    rw [R58] at h
    by_cases b0 : (Decidable.decide ((↑(ByteArray.size x0) : Int) < 1)) = true
    · rw [if_pos b0] at h
      subst h
      exact AtV.ret Tryz.func58 tabOk ext58Ok mixed false [] tys58 [true, true] (a1 b0 (a1 (rfl : Bool.true = Bool.true) trivial)) (by kernel_rfl)
    · rw [if_neg b0] at h
      replace b0 := Bool.eq_false_iff.2 b0
      by_cases b1 : (Decidable.decide ((↑(ByteArray.size x0) : Int) > 10)) = true
      · rw [if_pos b1] at h
        subst h
        exact AtV.ret Tryz.func58 tabOk ext58Ok mixed false [] tys58 [false, true] (a1 b0 (a1 b1 trivial)) (by kernel_rfl)
      · rw [if_neg b1] at h
        replace b1 := Bool.eq_false_iff.2 b1
        exact AtV.go tabOk ext58Ok mixed false [] [] [16, 17, 18] [0] [false, false] (a1 b0 (a1 b1 trivial)) (ih4 _ _ _ h K q) (by kernel_rfl)

  · intro v18 x0 ds h K q
    rw [R58_4] at h
    by_cases b0 : (Decidable.decide (v18 < (↑(List.length (bytesOf x0)) : Int))) = true
    · rw [if_pos b0] at h
      obtain ⟨s0, s1, h⟩ := h
      by_cases b1 : (Decidable.decide (List.getD (bytesOf x0) (Int.toNat v18) 0 ≥ 97)) = true
      · rw [if_pos b1] at h
        by_cases b2 : (Decidable.decide (List.getD (bytesOf x0) (Int.toNat v18) 0 ≥ 48)) = true
        · rw [if_pos b2] at h
          by_cases b3 : (!Decidable.decide (List.getD (bytesOf x0) (Int.toNat v18) 0 ≤ 122)) = true
          · rw [if_pos b3] at h
            by_cases b4 : (v18 == 0) = true
            · rw [if_pos b4] at h
              subst h
              exact AtV.ret Tryz.func58 tabOk ext58Ok mixed false [] tys58 [true, true, true, true, true, true] (a1 b0 (a1 s0 (a1 s1 (a1 b1 (a1 b2 (a1 b3 (a1 b4 (a1 (rfl : Bool.true = Bool.true) trivial)))))))) (by kernel_rfl)
            · rw [if_neg b4] at h
              replace b4 := Bool.eq_false_iff.2 b4
              by_cases b5 : (!Decidable.decide (List.getD (bytesOf x0) (Int.toNat v18) 0 ≤ 57)) = true
              · rw [if_pos b5] at h
                subst h
                exact AtV.ret Tryz.func58 tabOk ext58Ok mixed false [] tys58 [true, true, true, true, false, true] (a1 b0 (a1 s0 (a1 s1 (a1 b1 (a1 b2 (a1 b3 (a1 b4 (a1 b5 trivial)))))))) (by kernel_rfl)
              · rw [if_neg b5] at h
                replace b5 := Bool.eq_false_iff.2 b5
                obtain ⟨s2, h⟩ := h
                exact AtV.go tabOk ext58Ok mixed false [] [] [16, 17, 18] [0] [true, true, true, true, false, false] (a1 b0 (a1 s0 (a1 s1 (a1 b1 (a1 b2 (a1 b3 (a1 b4 (a1 b5 (a1 s2 trivial))))))))) (ih4 _ _ _ h K q) (by kernel_rfl)
          · rw [if_neg b3] at h
            replace b3 := Bool.eq_false_iff.2 b3
            obtain ⟨s2, h⟩ := h
            exact AtV.go tabOk ext58Ok mixed false [] [] [16, 17, 18] [0] [true, true, true, false, false] (a1 b0 (a1 s0 (a1 s1 (a1 b1 (a1 b2 (a1 b3 (a1 (rfl : Bool.false = Bool.false) (a1 s2 trivial)))))))) (ih4 _ _ _ h K q) (by kernel_rfl)
        · rw [if_neg b2] at h
          replace b2 := Bool.eq_false_iff.2 b2
          by_cases b3 : (!Decidable.decide (List.getD (bytesOf x0) (Int.toNat v18) 0 ≤ 122)) = true
          · rw [if_pos b3] at h
            by_cases b4 : (v18 == 0) = true
            · rw [if_pos b4] at h
              subst h
              exact AtV.ret Tryz.func58 tabOk ext58Ok mixed false [] tys58 [true, true, false, true, true, true] (a1 b0 (a1 s0 (a1 s1 (a1 b1 (a1 b2 (a1 b3 (a1 b4 (a1 (rfl : Bool.true = Bool.true) trivial)))))))) (by kernel_rfl)
            · rw [if_neg b4] at h
              replace b4 := Bool.eq_false_iff.2 b4
              subst h
              exact AtV.ret Tryz.func58 tabOk ext58Ok mixed false [] tys58 [true, true, false, true, false, true] (a1 b0 (a1 s0 (a1 s1 (a1 b1 (a1 b2 (a1 b3 (a1 b4 (a1 (rfl : Bool.true = Bool.true) trivial)))))))) (by kernel_rfl)
          · rw [if_neg b3] at h
            replace b3 := Bool.eq_false_iff.2 b3
            obtain ⟨s2, h⟩ := h
            exact AtV.go tabOk ext58Ok mixed false [] [] [16, 17, 18] [0] [true, true, false, false, false] (a1 b0 (a1 s0 (a1 s1 (a1 b1 (a1 b2 (a1 b3 (a1 (rfl : Bool.false = Bool.false) (a1 s2 trivial)))))))) (ih4 _ _ _ h K q) (by kernel_rfl)
      · rw [if_neg b1] at h
        replace b1 := Bool.eq_false_iff.2 b1
        by_cases b2 : (Decidable.decide (List.getD (bytesOf x0) (Int.toNat v18) 0 ≥ 48)) = true
        · rw [if_pos b2] at h
          by_cases b3 : (v18 == 0) = true
          · rw [if_pos b3] at h
            subst h
            exact AtV.ret Tryz.func58 tabOk ext58Ok mixed false [] tys58 [true, false, true, true, true, true] (a1 b0 (a1 s0 (a1 s1 (a1 b1 (a1 b2 (a1 (rfl : Bool.true = Bool.true) (a1 b3 (a1 (rfl : Bool.true = Bool.true) trivial)))))))) (by kernel_rfl)
          · rw [if_neg b3] at h
            replace b3 := Bool.eq_false_iff.2 b3
            by_cases b4 : (!Decidable.decide (List.getD (bytesOf x0) (Int.toNat v18) 0 ≤ 57)) = true
            · rw [if_pos b4] at h
              subst h
              exact AtV.ret Tryz.func58 tabOk ext58Ok mixed false [] tys58 [true, false, true, true, false, true] (a1 b0 (a1 s0 (a1 s1 (a1 b1 (a1 b2 (a1 (rfl : Bool.true = Bool.true) (a1 b3 (a1 b4 trivial)))))))) (by kernel_rfl)
            · rw [if_neg b4] at h
              replace b4 := Bool.eq_false_iff.2 b4
              obtain ⟨s2, h⟩ := h
              exact AtV.go tabOk ext58Ok mixed false [] [] [16, 17, 18] [0] [true, false, true, true, false, false] (a1 b0 (a1 s0 (a1 s1 (a1 b1 (a1 b2 (a1 (rfl : Bool.true = Bool.true) (a1 b3 (a1 b4 (a1 s2 trivial))))))))) (ih4 _ _ _ h K q) (by kernel_rfl)
        · rw [if_neg b2] at h
          replace b2 := Bool.eq_false_iff.2 b2
          by_cases b3 : (v18 == 0) = true
          · rw [if_pos b3] at h
            subst h
            exact AtV.ret Tryz.func58 tabOk ext58Ok mixed false [] tys58 [true, false, false, true, true, true] (a1 b0 (a1 s0 (a1 s1 (a1 b1 (a1 b2 (a1 (rfl : Bool.true = Bool.true) (a1 b3 (a1 (rfl : Bool.true = Bool.true) trivial)))))))) (by kernel_rfl)
          · rw [if_neg b3] at h
            replace b3 := Bool.eq_false_iff.2 b3
            subst h
            exact AtV.ret Tryz.func58 tabOk ext58Ok mixed false [] tys58 [true, false, false, true, false, true] (a1 b0 (a1 s0 (a1 s1 (a1 b1 (a1 b2 (a1 (rfl : Bool.true = Bool.true) (a1 b3 (a1 (rfl : Bool.true = Bool.true) trivial)))))))) (by kernel_rfl)
    · rw [if_neg b0] at h
      replace b0 := Bool.eq_false_iff.2 b0
      subst h
      exact AtV.ret Tryz.func58 tabOk ext58Ok mixed false [] tys58 [false] (a1 b0 trivial) (by kernel_rfl)



def ok58 (i : Nat) (b : Int) : Bool := (decide (97 ≤ b) && decide (b ≤ 122)) || (!(i == 0) && (decide (48 ≤ b) && decide (b ≤ 57)))
def g58_0 (x0 : ByteArray) : Bool := decide (1 ≤ x0.size) && decide (x0.size ≤ 10) && allI ok58 0 (bytesOf x0)
def P58 (x0 : ByteArray) : Prop := True

theorem step58 (n i : Nat) (x0 : ByteArray) (hw : Wf .str x0) (hi : i < (bytesOf x0).length) (ds : List Dyn) :
    R58_4 (n + 1) (i : Int) x0 ds ↔ (if ok58 i ((bytesOf x0).getD i 0) = true then R58_4 n ((i : Int) + 1) x0 ds else ds = [⟨.bool, false⟩]) := by
  have hu := inR_up (xs := bytesOf x0) (by rw [bytesOf_length]; exact hw) hi
  rw [R58_4, if_pos (by simp; omega)]
  simp only [Int.toNat_natCast]
  have hb : (0 : Int) ≤ (i : Int) ∧ (i : Int) < ((bytesOf x0).length : Int) := by omega
  have hz : ((i : Int) == 0) = (i == 0) := by
    cases i with
    | zero => rfl
    | succ k => simp; omega
  simp only [hz, ok58, hu, true_and, hb.1, hb.2, ge_iff_le]
  by_cases h1 : (97 : Int) ≤ (bytesOf x0).getD i 0 <;> by_cases h2 : (bytesOf x0).getD i 0 ≤ 122 <;> by_cases h3 : (48 : Int) ≤ (bytesOf x0).getD i 0 <;> by_cases h4 : (bytesOf x0).getD i 0 ≤ 57 <;> rcases Bool.eq_false_or_eq_true (i == 0) with e0 | e0 <;> first | (exfalso; omega) | simp only [h1, h2, h3, h4, e0, decide_true, decide_false, Bool.not_true, Bool.not_false, Bool.true_and, Bool.false_and, Bool.and_true, Bool.and_false, Bool.true_or, Bool.or_true, Bool.or_false, Bool.false_or, if_true, if_false, Bool.false_eq_true]

theorem top58 (x0 : ByteArray) (hw : Wf .str x0) : R58 (x0.size + 1 + 1) x0 [⟨.bool, g58_0 x0⟩] := by
  have hl := bytesOf_length x0
  rw [R58]
  by_cases h0 : (x0.size : Int) < 1
  · rw [if_pos (by simpa using h0)]
    have : ¬ 1 ≤ x0.size := by omega
    simp [g58_0, this]
  · rw [if_neg (by simpa using h0)]
    by_cases h1 : (x0.size : Int) > 10
    · rw [if_pos (by simpa using h1)]
      have : ¬ x0.size ≤ 10 := by omega
      simp [g58_0, this]
    · rw [if_neg (by simpa using h1)]
      have key := loop_testI (bytesOf x0) 0 ok58 [(⟨.bool, false⟩ : Dyn)] [⟨.bool, true⟩] (fun n i ds => R58_4 n i x0 ds) (fun n => ?_) (fun n i hi hok ds hr => ?_) (fun n i hi hok => ?_)
      · rw [hl] at key
        have e : g58_0 x0 = allI ok58 0 (bytesOf x0) := by
          have a : 1 ≤ x0.size := by omega
          have b : x0.size ≤ 10 := by omega
          simp [g58_0, a, b]
        rw [e]
        cases h : allI ok58 0 (bytesOf x0) with
        | true => rw [if_pos h] at key; exact key
        | false => rw [if_neg (by rw [h]; simp)] at key; exact key
      · show R58_4 (n + 1) ((bytesOf x0).length : Int) x0 _
        rw [R58_4, if_neg (by simp)]
      · exact (step58 n i x0 hw hi ds).2 (by rw [if_pos hok]; exact hr)
      · exact (step58 n i x0 hw hi _).2 (by rw [if_neg (by rw [hok]; simp)])

def S58 : Am.Spec := { sig := sig58, pre := fun ⟨x0, _⟩ => P58 x0, res := fun ⟨x0, _⟩ => [⟨Ty.bool, g58_0 x0⟩] }
theorem con58 : Contract Tryz.prog 58 S58 := contract_of Tryz.func58 hb58 (Nat.le_of_ble_eq_true (by kernel_rfl)) (fun ⟨x0, _⟩ h hwf K q =>
  (snd58 _).1 x0 _ (top58 x0 hwf.1) K q)

end
end Go.Proofs.YtalgkffjceljiaaGreatDoor

/- Function 59 (strings.Contains): its contract, off what is known of the library. -/
set_option linter.unusedVariables false
set_option linter.unusedSimpArgs false
set_option maxRecDepth 100000
namespace Go.Proofs.YtalgkffjceljiaaGreatDoor
open Go Go.Am Go.Proofs

def sig59 : List AT := [AT.v Ty.str, AT.v Ty.str]
def g59_0 (x0 x1 : ByteArray) : Bool := Lib.contains x0.data.toList x1.data.toList
def P59 (x0 x1 : ByteArray) : Prop := x0.size < 4294967281
def S59 : Am.Spec := { sig := sig59, pre := fun ⟨x0, x1, _⟩ => P59 x0 x1, res := fun ⟨x0, x1, _⟩ => [⟨Ty.bool, g59_0 x0 x1⟩] }
theorem con59 : Contract Tryz.prog 59 S59 := contract_flat rfl fun w ⟨x0, x1, _⟩ vs bss hg hp hw ha => by
  obtain ⟨v0, s0, _, _, rfl, _, ⟨_, rfl, _⟩, v1, s1, _, _, rfl, _, ⟨_, rfl, _⟩, rfl, _⟩ := ha
  refine ⟨fun d hd => by rw [List.mem_singleton.1 hd]; exact ⟨rfl, trivial⟩, ?_⟩
  obtain ⟨m, hm⟩ := maxLenG hg
  refine (Tryz.strings_Contains x0 x1 m w hp hm).mono ?_
  rintro e w' ⟨rfl, rfl⟩
  exact ⟨rfl, Kept.refl _ _⟩

end Go.Proofs.YtalgkffjceljiaaGreatDoor

/- Function 34 (impl.ValidBlock): its runs between cut points. Written by a program of this repo (gen). -/
set_option linter.unusedVariables false
set_option linter.unusedSimpArgs false
set_option maxRecDepth 100000
namespace Go.Proofs.YtalgkffjceljiaaGreatDoor
open Go Go.Am Go.Proofs
noncomputable section
def ext34 : Ext := [(58, S58), (59, S59)]
theorem call34_58 : Callable Tryz.prog 58 := ⟨Tryz.f58, Tryz.func58, by kernel_rfl, by kernel_rfl⟩
theorem call34_59 : Callable Tryz.prog 59 := ⟨Tryz.f59, Tryz.func59, by kernel_rfl, by kernel_rfl⟩
theorem ext34Ok : ExtOk Tryz.prog ext34 := ⟨⟨call34_58, con58⟩, ⟨call34_59, con59⟩, trivial⟩

noncomputable def b34 : Code := bodyOf Tryz.f34
theorem hb34 : Tryz.f34.body = some b34 := by kernel_rfl
def sig34 : List AT := [AT.v (Ty.cons Ty.str (Ty.cons Ty.str (Ty.cons Ty.str Ty.unit)))]
def tys34 : List Ty := [Ty.bool]
def kds34 : List RK := []
def oks34 : List AT := owns sig34
def P34 (x0 : ByteArray × ByteArray × ByteArray × Unit) : Prop := (if (g58_0 (Prod.fst x0)) = true then (if (g58_0 (Prod.fst (Prod.snd x0))) = true then (if (Decidable.decide ((↑(ByteArray.size (Prod.fst (Prod.snd (Prod.snd x0)))) : Int) ≤ 400)) = true then ((P59 (Prod.fst (Prod.snd (Prod.snd x0))) (ByteArray.mk #[10])) ∧ True) else True) else True) else True)
def g34_0 (x0 : ByteArray × ByteArray × ByteArray × Unit) : Bool := (if (g58_0 (Prod.fst x0)) = true then (if (g58_0 (Prod.fst (Prod.snd x0))) = true then (if (Decidable.decide ((↑(ByteArray.size (Prod.fst (Prod.snd (Prod.snd x0)))) : Int) ≤ 400)) = true then !g59_0 (Prod.fst (Prod.snd (Prod.snd x0))) (ByteArray.mk #[10]) else Bool.false) else Bool.false) else Bool.false)
theorem at34 (x0 : ByteArray × ByteArray × ByteArray × Unit) (h : P34 x0) (K : Ctx) (q : Nat → Value) : AtV Tryz.prog 34 (PostR kds34 oks34 [⟨Ty.bool, g34_0 x0⟩] [] [] q K) 23 K q [] [.code b34] (entE 0 0 sig34 (x0, ())) (entL sig34 (x0, ())) := by
  unfold P34 at h
  unfold g34_0
  by_cases b0 : (g58_0 (Prod.fst x0)) = true
  · try simp only [if_pos b0] at h ⊢
    by_cases b1 : (g58_0 (Prod.fst (Prod.snd x0))) = true
    · try simp only [if_pos b1] at h ⊢
      by_cases b2 : (Decidable.decide ((↑(ByteArray.size (Prod.fst (Prod.snd (Prod.snd x0)))) : Int) ≤ 400)) = true
      · try simp only [if_pos b2] at h ⊢
        obtain ⟨s0, h⟩ := h
        exact AtV.ret Tryz.func34 tabOk ext34Ok mixed false [] tys34 [true, true, true] (a1 trivial (a1 b0 (a1 trivial (a1 b1 (a1 b2 (a1 s0 trivial)))))) (by kernel_rfl)
      · try simp only [if_neg b2] at h ⊢
        replace b2 := Bool.eq_false_iff.2 b2
        exact AtV.ret Tryz.func34 tabOk ext34Ok mixed false [] tys34 [true, true, false] (a1 trivial (a1 b0 (a1 trivial (a1 b1 (a1 b2 trivial))))) (by kernel_rfl)
    · try simp only [if_neg b1] at h ⊢
      replace b1 := Bool.eq_false_iff.2 b1
      exact AtV.ret Tryz.func34 tabOk ext34Ok mixed false [] tys34 [true, false, false] (a1 trivial (a1 b0 (a1 trivial (a1 b1 (a1 (rfl : Bool.false = Bool.false) trivial))))) (by kernel_rfl)
  · try simp only [if_neg b0] at h ⊢
    replace b0 := Bool.eq_false_iff.2 b0
    exact AtV.ret Tryz.func34 tabOk ext34Ok mixed false [] tys34 [false, false, false] (a1 trivial (a1 b0 (a1 (rfl : Bool.false = Bool.false) (a1 (rfl : Bool.false = Bool.false) trivial)))) (by kernel_rfl)

def S34 : Am.Spec := { sig := sig34, pre := fun ⟨x0, _⟩ => P34 x0, res := fun ⟨x0, _⟩ => [⟨Ty.bool, g34_0 x0⟩], kds := kds34 }
theorem con34 : Contract Tryz.prog 34 S34 := contract_of Tryz.func34 hb34 (Nat.le_of_ble_eq_true (by kernel_rfl)) (fun ⟨x0, _⟩ h _ K q => at34 x0 h K q)


theorem pre34 (x : ByteArray × ByteArray × ByteArray × Unit) : P34 x := by
  unfold P34
  split
  · split
    · split
      · rename_i h
        simp only [decide_eq_true_eq] at h
        refine ⟨?_, trivial⟩
        show x.2.2.1.size < 4294967281
        omega
      · trivial
    · trivial
  · trivial

end
end Go.Proofs.YtalgkffjceljiaaGreatDoor

/- Function 35 (impl.lineOfBlock): its runs between cut points. Written by a program of this repo (gen). -/
set_option linter.unusedVariables false
set_option linter.unusedSimpArgs false
set_option maxRecDepth 100000
namespace Go.Proofs.YtalgkffjceljiaaGreatDoor
open Go Go.Am Go.Proofs
noncomputable section
def ext35 : Ext := [(32, S32), (31, S31), (33, S33)]
theorem call35_32 : Callable Tryz.prog 32 := ⟨Tryz.f32, Tryz.func32, by kernel_rfl, by kernel_rfl⟩
theorem call35_31 : Callable Tryz.prog 31 := ⟨Tryz.f31, Tryz.func31, by kernel_rfl, by kernel_rfl⟩
theorem call35_33 : Callable Tryz.prog 33 := ⟨Tryz.f33, Tryz.func33, by kernel_rfl, by kernel_rfl⟩
theorem ext35Ok : ExtOk Tryz.prog ext35 := ⟨⟨call35_32, con32⟩, ⟨call35_31, con31⟩, ⟨call35_33, con33⟩, trivial⟩

noncomputable def b35 : Code := bodyOf Tryz.f35
theorem hb35 : Tryz.f35.body = some b35 := by kernel_rfl
def sig35 : List AT := [AT.v (Ty.cons Ty.str (Ty.cons Ty.str (Ty.cons Ty.str Ty.unit)))]
def tys35 : List Ty := [Ty.str]
def kds35 : List RK := []
def oks35 : List AT := owns sig35
def P35 (x0 : ByteArray × ByteArray × ByteArray × Unit) : Prop := ((ByteArray.size (Prod.fst x0) + 1 ≤ 9223372036854775807) ∧ ((ByteArray.size (Prod.fst x0 ++ ByteArray.mk #[32]) + ByteArray.size (Prod.fst (Prod.snd x0)) ≤ 9223372036854775807) ∧ ((ByteArray.size (Prod.fst x0 ++ ByteArray.mk #[32] ++ Prod.fst (Prod.snd x0)) + 1 ≤ 9223372036854775807) ∧ ((ByteArray.size (Prod.fst x0 ++ ByteArray.mk #[32] ++ Prod.fst (Prod.snd x0) ++ ByteArray.mk #[32]) + ByteArray.size (Prod.fst (Prod.snd (Prod.snd x0))) ≤ 9223372036854775807) ∧ ((P31 (g32_0 (Prod.fst x0 ++ ByteArray.mk #[32] ++ Prod.fst (Prod.snd x0) ++ ByteArray.mk #[32] ++ Prod.fst (Prod.snd (Prod.snd x0))) 65535)) ∧ ((InR IntKind.i64 (5 - (↑(ByteArray.size (g31_0 (g32_0 (Prod.fst x0 ++ ByteArray.mk #[32] ++ Prod.fst (Prod.snd x0) ++ ByteArray.mk #[32] ++ Prod.fst (Prod.snd (Prod.snd x0))) 65535))) : Int))) ∧ ((P33 (ByteArray.mk #[48]) (5 - (↑(ByteArray.size (g31_0 (g32_0 (Prod.fst x0 ++ ByteArray.mk #[32] ++ Prod.fst (Prod.snd x0) ++ ByteArray.mk #[32] ++ Prod.fst (Prod.snd (Prod.snd x0))) 65535))) : Int))) ∧ ((ByteArray.size (g33_0 (ByteArray.mk #[48]) (5 - (↑(ByteArray.size (g31_0 (g32_0 (Prod.fst x0 ++ ByteArray.mk #[32] ++ Prod.fst (Prod.snd x0) ++ ByteArray.mk #[32] ++ Prod.fst (Prod.snd (Prod.snd x0))) 65535))) : Int))) + ByteArray.size (g31_0 (g32_0 (Prod.fst x0 ++ ByteArray.mk #[32] ++ Prod.fst (Prod.snd x0) ++ ByteArray.mk #[32] ++ Prod.fst (Prod.snd (Prod.snd x0))) 65535)) ≤ 9223372036854775807) ∧ ((ByteArray.size (g33_0 (ByteArray.mk #[48]) (5 - (↑(ByteArray.size (g31_0 (g32_0 (Prod.fst x0 ++ ByteArray.mk #[32] ++ Prod.fst (Prod.snd x0) ++ ByteArray.mk #[32] ++ Prod.fst (Prod.snd (Prod.snd x0))) 65535))) : Int)) ++ g31_0 (g32_0 (Prod.fst x0 ++ ByteArray.mk #[32] ++ Prod.fst (Prod.snd x0) ++ ByteArray.mk #[32] ++ Prod.fst (Prod.snd (Prod.snd x0))) 65535)) + 1 ≤ 9223372036854775807) ∧ ((ByteArray.size (g33_0 (ByteArray.mk #[48]) (5 - (↑(ByteArray.size (g31_0 (g32_0 (Prod.fst x0 ++ ByteArray.mk #[32] ++ Prod.fst (Prod.snd x0) ++ ByteArray.mk #[32] ++ Prod.fst (Prod.snd (Prod.snd x0))) 65535))) : Int)) ++ g31_0 (g32_0 (Prod.fst x0 ++ ByteArray.mk #[32] ++ Prod.fst (Prod.snd x0) ++ ByteArray.mk #[32] ++ Prod.fst (Prod.snd (Prod.snd x0))) 65535) ++ ByteArray.mk #[32]) + ByteArray.size (Prod.fst x0 ++ ByteArray.mk #[32] ++ Prod.fst (Prod.snd x0) ++ ByteArray.mk #[32] ++ Prod.fst (Prod.snd (Prod.snd x0))) ≤ 9223372036854775807) ∧ True))))))))))
def g35_0 (x0 : ByteArray × ByteArray × ByteArray × Unit) : ByteArray := g33_0 (ByteArray.mk #[48]) (5 - (↑(ByteArray.size (g31_0 (g32_0 (Prod.fst x0 ++ ByteArray.mk #[32] ++ Prod.fst (Prod.snd x0) ++ ByteArray.mk #[32] ++ Prod.fst (Prod.snd (Prod.snd x0))) 65535))) : Int)) ++ g31_0 (g32_0 (Prod.fst x0 ++ ByteArray.mk #[32] ++ Prod.fst (Prod.snd x0) ++ ByteArray.mk #[32] ++ Prod.fst (Prod.snd (Prod.snd x0))) 65535) ++ ByteArray.mk #[32] ++ (Prod.fst x0 ++ ByteArray.mk #[32] ++ Prod.fst (Prod.snd x0) ++ ByteArray.mk #[32] ++ Prod.fst (Prod.snd (Prod.snd x0)))
theorem at35 (x0 : ByteArray × ByteArray × ByteArray × Unit) (h : P35 x0) (K : Ctx) (q : Nat → Value) : AtV Tryz.prog 35 (PostR kds35 oks35 [⟨Ty.str, g35_0 x0⟩] [] [] q K) 27 K q [] [.code b35] (entE 0 0 sig35 (x0, ())) (entL sig35 (x0, ())) := by
  unfold P35 at h
  unfold g35_0
  obtain ⟨s0, h⟩ := h
  obtain ⟨s1, h⟩ := h
  obtain ⟨s2, h⟩ := h
  obtain ⟨s3, h⟩ := h
  obtain ⟨s4, h⟩ := h
  obtain ⟨s5, h⟩ := h
  obtain ⟨s6, h⟩ := h
  obtain ⟨s7, h⟩ := h
  obtain ⟨s8, h⟩ := h
  obtain ⟨s9, h⟩ := h
  exact AtV.ret Tryz.func35 tabOk ext35Ok mixed false [] tys35 [] (a1 s0 (a1 s1 (a1 s2 (a1 s3 (a1 trivial (a1 s4 (a1 s5 (a1 s6 (a1 s7 (a1 s8 (a1 s9 trivial))))))))))) (by kernel_rfl)

def S35 : Am.Spec := { sig := sig35, pre := fun ⟨x0, _⟩ => P35 x0, res := fun ⟨x0, _⟩ => [⟨Ty.str, g35_0 x0⟩], kds := kds35 }
theorem con35 : Contract Tryz.prog 35 S35 := contract_of Tryz.func35 hb35 (Nat.le_of_ble_eq_true (by kernel_rfl)) (fun ⟨x0, _⟩ h _ K q => at35 x0 h K q)


end
end Go.Proofs.YtalgkffjceljiaaGreatDoor

/- Function 18 (impl.blockOfLine): its runs between cut points. Written by a program of this repo (gen). -/
set_option linter.unusedVariables false
set_option linter.unusedSimpArgs false
set_option maxRecDepth 100000
namespace Go.Proofs.YtalgkffjceljiaaGreatDoor
open Go Go.Am Go.Proofs
noncomputable section
def ext18 : Ext := [(30, S30), (32, S32), (31, S31), (33, S33), (34, S34), (35, S35)]
theorem call18_30 : Callable Tryz.prog 30 := ⟨Tryz.f30, Tryz.func30, by kernel_rfl, by kernel_rfl⟩
theorem call18_32 : Callable Tryz.prog 32 := ⟨Tryz.f32, Tryz.func32, by kernel_rfl, by kernel_rfl⟩
theorem call18_31 : Callable Tryz.prog 31 := ⟨Tryz.f31, Tryz.func31, by kernel_rfl, by kernel_rfl⟩
theorem call18_33 : Callable Tryz.prog 33 := ⟨Tryz.f33, Tryz.func33, by kernel_rfl, by kernel_rfl⟩
theorem call18_34 : Callable Tryz.prog 34 := ⟨Tryz.f34, Tryz.func34, by kernel_rfl, by kernel_rfl⟩
theorem call18_35 : Callable Tryz.prog 35 := ⟨Tryz.f35, Tryz.func35, by kernel_rfl, by kernel_rfl⟩
theorem ext18Ok : ExtOk Tryz.prog ext18 := ⟨⟨call18_30, con30⟩, ⟨call18_32, con32⟩, ⟨call18_31, con31⟩, ⟨call18_33, con33⟩, ⟨call18_34, con34⟩, ⟨call18_35, con35⟩, trivial⟩

noncomputable def b18 : Code := bodyOf Tryz.f18
theorem hb18 : Tryz.f18.body = some b18 := by kernel_rfl
def sig18 : List AT := [AT.v (Ty.str)]
def tys18 : List Ty := [Ty.cons Ty.str (Ty.cons Ty.str (Ty.cons Ty.str Ty.unit)), Ty.int IntKind.i64]
def kds18 : List RK := []
def oks18 : List AT := owns sig18
def P18 (x0 : ByteArray) : Prop := (if (Decidable.decide ((↑(ByteArray.size x0) : Int) < 6)) = true then True else ((5 < (↑(ByteArray.size x0) : Int)) ∧ (if ((↑(UInt8.toNat (List.getD (Array.toList (ByteArray.data x0)) 5 0)) : Int) != 32) = true then True else ((6 ≤ (↑(ByteArray.size x0) : Int)) ∧ ((P30 (ByteArray.extract x0 6 (Int.toNat (↑(ByteArray.size x0) : Int))) (ByteArray.mk #[32])) ∧ ((P30 (g30_1 (ByteArray.extract x0 6 (Int.toNat (↑(ByteArray.size x0) : Int))) (ByteArray.mk #[32])) (ByteArray.mk #[32])) ∧ ((6 ≤ (↑(ByteArray.size x0) : Int)) ∧ ((P31 (g32_0 (ByteArray.extract x0 6 (Int.toNat (↑(ByteArray.size x0) : Int))) 65535)) ∧ ((5 ≤ (↑(ByteArray.size x0) : Int)) ∧ ((InR IntKind.i64 (5 - (↑(ByteArray.size (g31_0 (g32_0 (ByteArray.extract x0 6 (Int.toNat (↑(ByteArray.size x0) : Int))) 65535))) : Int))) ∧ ((P33 (ByteArray.mk #[48]) (5 - (↑(ByteArray.size (g31_0 (g32_0 (ByteArray.extract x0 6 (Int.toNat (↑(ByteArray.size x0) : Int))) 65535))) : Int))) ∧ ((ByteArray.size (g33_0 (ByteArray.mk #[48]) (5 - (↑(ByteArray.size (g31_0 (g32_0 (ByteArray.extract x0 6 (Int.toNat (↑(ByteArray.size x0) : Int))) 65535))) : Int))) + ByteArray.size (g31_0 (g32_0 (ByteArray.extract x0 6 (Int.toNat (↑(ByteArray.size x0) : Int))) 65535)) ≤ 9223372036854775807) ∧ (if (!ByteArray.toList (ByteArray.extract x0 0 5) == ByteArray.toList (g33_0 (ByteArray.mk #[48]) (5 - (↑(ByteArray.size (g31_0 (g32_0 (ByteArray.extract x0 6 (Int.toNat (↑(ByteArray.size x0) : Int))) 65535))) : Int)) ++ g31_0 (g32_0 (ByteArray.extract x0 6 (Int.toNat (↑(ByteArray.size x0) : Int))) 65535))) = true then True else ((P34 (g30_0 (ByteArray.extract x0 6 (Int.toNat (↑(ByteArray.size x0) : Int))) (ByteArray.mk #[32]), g30_0 (g30_1 (ByteArray.extract x0 6 (Int.toNat (↑(ByteArray.size x0) : Int))) (ByteArray.mk #[32])) (ByteArray.mk #[32]), g30_1 (g30_1 (ByteArray.extract x0 6 (Int.toNat (↑(ByteArray.size x0) : Int))) (ByteArray.mk #[32])) (ByteArray.mk #[32]), ())) ∧ (if (!g34_0 (g30_0 (ByteArray.extract x0 6 (Int.toNat (↑(ByteArray.size x0) : Int))) (ByteArray.mk #[32]), g30_0 (g30_1 (ByteArray.extract x0 6 (Int.toNat (↑(ByteArray.size x0) : Int))) (ByteArray.mk #[32])) (ByteArray.mk #[32]), g30_1 (g30_1 (ByteArray.extract x0 6 (Int.toNat (↑(ByteArray.size x0) : Int))) (ByteArray.mk #[32])) (ByteArray.mk #[32]), ())) = true then True else ((P35 (g30_0 (ByteArray.extract x0 6 (Int.toNat (↑(ByteArray.size x0) : Int))) (ByteArray.mk #[32]), g30_0 (g30_1 (ByteArray.extract x0 6 (Int.toNat (↑(ByteArray.size x0) : Int))) (ByteArray.mk #[32])) (ByteArray.mk #[32]), g30_1 (g30_1 (ByteArray.extract x0 6 (Int.toNat (↑(ByteArray.size x0) : Int))) (ByteArray.mk #[32])) (ByteArray.mk #[32]), ())) ∧ True))))))))))))))))
def g18_0 (x0 : ByteArray) : ByteArray × ByteArray × ByteArray × Unit := (if (Decidable.decide ((↑(ByteArray.size x0) : Int) < 6)) = true then (ByteArray.empty, ByteArray.empty, ByteArray.empty, ()) else (if ((↑(UInt8.toNat (List.getD (Array.toList (ByteArray.data x0)) 5 0)) : Int) != 32) = true then (ByteArray.empty, ByteArray.empty, ByteArray.empty, ()) else (if (!ByteArray.toList (ByteArray.extract x0 0 5) == ByteArray.toList (g33_0 (ByteArray.mk #[48]) (5 - (↑(ByteArray.size (g31_0 (g32_0 (ByteArray.extract x0 6 (Int.toNat (↑(ByteArray.size x0) : Int))) 65535))) : Int)) ++ g31_0 (g32_0 (ByteArray.extract x0 6 (Int.toNat (↑(ByteArray.size x0) : Int))) 65535))) = true then (ByteArray.empty, ByteArray.empty, ByteArray.empty, ()) else (if (!g34_0 (g30_0 (ByteArray.extract x0 6 (Int.toNat (↑(ByteArray.size x0) : Int))) (ByteArray.mk #[32]), g30_0 (g30_1 (ByteArray.extract x0 6 (Int.toNat (↑(ByteArray.size x0) : Int))) (ByteArray.mk #[32])) (ByteArray.mk #[32]), g30_1 (g30_1 (ByteArray.extract x0 6 (Int.toNat (↑(ByteArray.size x0) : Int))) (ByteArray.mk #[32])) (ByteArray.mk #[32]), ())) = true then (ByteArray.empty, ByteArray.empty, ByteArray.empty, ()) else (if (!ByteArray.toList (g35_0 (g30_0 (ByteArray.extract x0 6 (Int.toNat (↑(ByteArray.size x0) : Int))) (ByteArray.mk #[32]), g30_0 (g30_1 (ByteArray.extract x0 6 (Int.toNat (↑(ByteArray.size x0) : Int))) (ByteArray.mk #[32])) (ByteArray.mk #[32]), g30_1 (g30_1 (ByteArray.extract x0 6 (Int.toNat (↑(ByteArray.size x0) : Int))) (ByteArray.mk #[32])) (ByteArray.mk #[32]), ())) == ByteArray.toList x0) = true then (ByteArray.empty, ByteArray.empty, ByteArray.empty, ()) else (g30_0 (ByteArray.extract x0 6 (Int.toNat (↑(ByteArray.size x0) : Int))) (ByteArray.mk #[32]), g30_0 (g30_1 (ByteArray.extract x0 6 (Int.toNat (↑(ByteArray.size x0) : Int))) (ByteArray.mk #[32])) (ByteArray.mk #[32]), g30_1 (g30_1 (ByteArray.extract x0 6 (Int.toNat (↑(ByteArray.size x0) : Int))) (ByteArray.mk #[32])) (ByteArray.mk #[32]), ()))))))
def g18_1 (x0 : ByteArray) : Int := (if (Decidable.decide ((↑(ByteArray.size x0) : Int) < 6)) = true then 9 else (if ((↑(UInt8.toNat (List.getD (Array.toList (ByteArray.data x0)) 5 0)) : Int) != 32) = true then 9 else (if (!ByteArray.toList (ByteArray.extract x0 0 5) == ByteArray.toList (g33_0 (ByteArray.mk #[48]) (5 - (↑(ByteArray.size (g31_0 (g32_0 (ByteArray.extract x0 6 (Int.toNat (↑(ByteArray.size x0) : Int))) 65535))) : Int)) ++ g31_0 (g32_0 (ByteArray.extract x0 6 (Int.toNat (↑(ByteArray.size x0) : Int))) 65535))) = true then 10 else (if (!g34_0 (g30_0 (ByteArray.extract x0 6 (Int.toNat (↑(ByteArray.size x0) : Int))) (ByteArray.mk #[32]), g30_0 (g30_1 (ByteArray.extract x0 6 (Int.toNat (↑(ByteArray.size x0) : Int))) (ByteArray.mk #[32])) (ByteArray.mk #[32]), g30_1 (g30_1 (ByteArray.extract x0 6 (Int.toNat (↑(ByteArray.size x0) : Int))) (ByteArray.mk #[32])) (ByteArray.mk #[32]), ())) = true then 9 else (if (!ByteArray.toList (g35_0 (g30_0 (ByteArray.extract x0 6 (Int.toNat (↑(ByteArray.size x0) : Int))) (ByteArray.mk #[32]), g30_0 (g30_1 (ByteArray.extract x0 6 (Int.toNat (↑(ByteArray.size x0) : Int))) (ByteArray.mk #[32])) (ByteArray.mk #[32]), g30_1 (g30_1 (ByteArray.extract x0 6 (Int.toNat (↑(ByteArray.size x0) : Int))) (ByteArray.mk #[32])) (ByteArray.mk #[32]), ())) == ByteArray.toList x0) = true then 9 else 0)))))
theorem at18 (x0 : ByteArray) (h : P18 x0) (K : Ctx) (q : Nat → Value) : AtV Tryz.prog 18 (PostR kds18 oks18 [⟨Ty.cons Ty.str (Ty.cons Ty.str (Ty.cons Ty.str Ty.unit)), g18_0 x0⟩, ⟨Ty.int IntKind.i64, g18_1 x0⟩] [] [] q K) 63 K q [] [.code b18] (entE 0 0 sig18 (x0, ())) (entL sig18 (x0, ())) := by
  unfold P18 at h
  unfold g18_0 g18_1
  by_cases b0 : (Decidable.decide ((↑(ByteArray.size x0) : Int) < 6)) = true
  · try simp only [if_pos b0] at h ⊢
    exact AtV.ret Tryz.func18 tabOk ext18Ok mixed false [] tys18 [true, true] (a1 b0 (a1 (rfl : Bool.true = Bool.true) trivial)) (by kernel_rfl)
  · try simp only [if_neg b0] at h ⊢
    replace b0 := Bool.eq_false_iff.2 b0
    obtain ⟨s0, h⟩ := h
    by_cases b1 : ((↑(UInt8.toNat (List.getD (Array.toList (ByteArray.data x0)) 5 0)) : Int) != 32) = true
    · try simp only [if_pos b1] at h ⊢
      exact AtV.ret Tryz.func18 tabOk ext18Ok mixed false [] tys18 [false, true] (a1 b0 (a1 ((by decide) : (0 : Int) ≤ (5 : Int)) (a1 s0 (a1 b1 trivial)))) (by kernel_rfl)
    · try simp only [if_neg b1] at h ⊢
      replace b1 := Bool.eq_false_iff.2 b1
      obtain ⟨s1, h⟩ := h
      obtain ⟨s2, h⟩ := h
      obtain ⟨s3, h⟩ := h
      obtain ⟨s4, h⟩ := h
      obtain ⟨s5, h⟩ := h
      obtain ⟨s6, h⟩ := h
      obtain ⟨s7, h⟩ := h
      obtain ⟨s8, h⟩ := h
      obtain ⟨s9, h⟩ := h
      by_cases b2 : (!ByteArray.toList (ByteArray.extract x0 0 5) == ByteArray.toList (g33_0 (ByteArray.mk #[48]) (5 - (↑(ByteArray.size (g31_0 (g32_0 (ByteArray.extract x0 6 (Int.toNat (↑(ByteArray.size x0) : Int))) 65535))) : Int)) ++ g31_0 (g32_0 (ByteArray.extract x0 6 (Int.toNat (↑(ByteArray.size x0) : Int))) 65535))) = true
      · try simp only [if_pos b2] at h ⊢
        exact AtV.ret Tryz.func18 tabOk ext18Ok mixed false [] tys18 [false, false, true] (a1 b0 (a1 ((by decide) : (0 : Int) ≤ (5 : Int)) (a1 s0 (a1 b1 (a1 ((by decide) : (0 : Int) ≤ (6 : Int)) (a1 s1 (a1 s2 (a1 s3 (a1 ((by decide) : (0 : Int) ≤ (6 : Int)) (a1 s4 (a1 trivial (a1 s5 (a1 ((by decide) : (0 : Int) ≤ (5 : Int)) (a1 s6 (a1 s7 (a1 s8 (a1 s9 (a1 b2 trivial)))))))))))))))))) (by kernel_rfl)
      · try simp only [if_neg b2] at h ⊢
        replace b2 := Bool.eq_false_iff.2 b2
        obtain ⟨s10, h⟩ := h
        by_cases b3 : (!g34_0 (g30_0 (ByteArray.extract x0 6 (Int.toNat (↑(ByteArray.size x0) : Int))) (ByteArray.mk #[32]), g30_0 (g30_1 (ByteArray.extract x0 6 (Int.toNat (↑(ByteArray.size x0) : Int))) (ByteArray.mk #[32])) (ByteArray.mk #[32]), g30_1 (g30_1 (ByteArray.extract x0 6 (Int.toNat (↑(ByteArray.size x0) : Int))) (ByteArray.mk #[32])) (ByteArray.mk #[32]), ())) = true
        · try simp only [if_pos b3] at h ⊢
          exact AtV.ret Tryz.func18 tabOk ext18Ok mixed false [] tys18 [false, false, false, true, true] (a1 b0 (a1 ((by decide) : (0 : Int) ≤ (5 : Int)) (a1 s0 (a1 b1 (a1 ((by decide) : (0 : Int) ≤ (6 : Int)) (a1 s1 (a1 s2 (a1 s3 (a1 ((by decide) : (0 : Int) ≤ (6 : Int)) (a1 s4 (a1 trivial (a1 s5 (a1 ((by decide) : (0 : Int) ≤ (5 : Int)) (a1 s6 (a1 s7 (a1 s8 (a1 s9 (a1 b2 (a1 s10 (a1 b3 (a1 (rfl : Bool.true = Bool.true) trivial))))))))))))))))))))) (by kernel_rfl)
        · try simp only [if_neg b3] at h ⊢
          replace b3 := Bool.eq_false_iff.2 b3
          obtain ⟨s11, h⟩ := h
          by_cases b4 : (!ByteArray.toList (g35_0 (g30_0 (ByteArray.extract x0 6 (Int.toNat (↑(ByteArray.size x0) : Int))) (ByteArray.mk #[32]), g30_0 (g30_1 (ByteArray.extract x0 6 (Int.toNat (↑(ByteArray.size x0) : Int))) (ByteArray.mk #[32])) (ByteArray.mk #[32]), g30_1 (g30_1 (ByteArray.extract x0 6 (Int.toNat (↑(ByteArray.size x0) : Int))) (ByteArray.mk #[32])) (ByteArray.mk #[32]), ())) == ByteArray.toList x0) = true
          · try simp only [if_pos b4] at h ⊢
            exact AtV.ret Tryz.func18 tabOk ext18Ok mixed false [] tys18 [false, false, false, false, true] (a1 b0 (a1 ((by decide) : (0 : Int) ≤ (5 : Int)) (a1 s0 (a1 b1 (a1 ((by decide) : (0 : Int) ≤ (6 : Int)) (a1 s1 (a1 s2 (a1 s3 (a1 ((by decide) : (0 : Int) ≤ (6 : Int)) (a1 s4 (a1 trivial (a1 s5 (a1 ((by decide) : (0 : Int) ≤ (5 : Int)) (a1 s6 (a1 s7 (a1 s8 (a1 s9 (a1 b2 (a1 s10 (a1 b3 (a1 s11 (a1 b4 trivial)))))))))))))))))))))) (by kernel_rfl)
          · try simp only [if_neg b4] at h ⊢
            replace b4 := Bool.eq_false_iff.2 b4
            exact AtV.ret Tryz.func18 tabOk ext18Ok mixed false [] tys18 [false, false, false, false, false] (a1 b0 (a1 ((by decide) : (0 : Int) ≤ (5 : Int)) (a1 s0 (a1 b1 (a1 ((by decide) : (0 : Int) ≤ (6 : Int)) (a1 s1 (a1 s2 (a1 s3 (a1 ((by decide) : (0 : Int) ≤ (6 : Int)) (a1 s4 (a1 trivial (a1 s5 (a1 ((by decide) : (0 : Int) ≤ (5 : Int)) (a1 s6 (a1 s7 (a1 s8 (a1 s9 (a1 b2 (a1 s10 (a1 b3 (a1 s11 (a1 b4 trivial)))))))))))))))))))))) (by kernel_rfl)

def S18 : Am.Spec := { sig := sig18, pre := fun ⟨x0, _⟩ => P18 x0, res := fun ⟨x0, _⟩ => [⟨Ty.cons Ty.str (Ty.cons Ty.str (Ty.cons Ty.str Ty.unit)), g18_0 x0⟩, ⟨Ty.int IntKind.i64, g18_1 x0⟩], kds := kds18 }
theorem con18 : Contract Tryz.prog 18 S18 := contract_of Tryz.func18 hb18 (Nat.le_of_ble_eq_true (by kernel_rfl)) (fun ⟨x0, _⟩ h _ K q => at18 x0 h K q)


end
end Go.Proofs.YtalgkffjceljiaaGreatDoor

/- Function 19 (impl.size[string]): its runs between cut points. Written by a program of this repo (gen). -/
set_option linter.unusedVariables false
set_option linter.unusedSimpArgs false
set_option maxRecDepth 100000
namespace Go.Proofs.YtalgkffjceljiaaGreatDoor
open Go Go.Am Go.Proofs
noncomputable section
def ext19 : Ext := []
theorem ext19Ok : ExtOk Tryz.prog ext19 := trivial

noncomputable def b19 : Code := bodyOf Tryz.f19
theorem hb19 : Tryz.f19.body = some b19 := by kernel_rfl
def sig19 : List AT := [AT.v (Ty.sl Ty.str)]
def tys19 : List Ty := [Ty.int IntKind.i64]
def kds19 : List RK := []
def oks19 : List AT := owns sig19
def P19 (x0 : List ByteArray) : Prop := True
def g19_0 (x0 : List ByteArray) : Int := (↑(List.length x0) : Int)
theorem at19 (x0 : List ByteArray) (h : P19 x0) (K : Ctx) (q : Nat → Value) : AtV Tryz.prog 19 (PostR kds19 oks19 [⟨Ty.int IntKind.i64, g19_0 x0⟩] [] [] q K) 5 K q [] [.code b19] (entE 0 0 sig19 (x0, ())) (entL sig19 (x0, ())) := by
  unfold P19 at h
  unfold g19_0
  exact AtV.ret Tryz.func19 tabOk ext19Ok mixed false [] tys19 [] trivial (by kernel_rfl)

def S19 : Am.Spec := { sig := sig19, pre := fun ⟨x0, _⟩ => P19 x0, res := fun ⟨x0, _⟩ => [⟨Ty.int IntKind.i64, g19_0 x0⟩], kds := kds19 }
theorem con19 : Contract Tryz.prog 19 S19 := contract_of Tryz.func19 hb19 (Nat.le_of_ble_eq_true (by kernel_rfl)) (fun ⟨x0, _⟩ h _ K q => at19 x0 h K q)


end
end Go.Proofs.YtalgkffjceljiaaGreatDoor
