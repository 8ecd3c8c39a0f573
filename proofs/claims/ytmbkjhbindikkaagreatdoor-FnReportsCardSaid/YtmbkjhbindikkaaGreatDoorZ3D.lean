/- Several texts in one: the functions that this law reaches, and their laws. -/
import Derived.Test.YtmbkjhbindikkaaGreatDoorZ3A
import Derived.Test.YtmbkjhbindikkaaGreatDoorZ3B
import Derived.Test.YtmbkjhbindikkaaGreatDoorZ3C
import Derived.Lib.ItoaNum
import Derived.Shelf.Strings.Builder1
import Derived.Shelf.Strings.Builder2
import Derived.Shelf.Strings.OnBuilder
import Derived.Shelf.Strings.Trim
import Derived.Shelf.Small.Utf8
import Derived.Shelf.Small.Bits
import Derived.Shelf.Small.Strs
import Derived.Shelf.Strings.BuilderF
import Derived.Shelf.Strings.BuilderK
import Derived.Shelf.Utf8.RuneCount
import Derived.Shelf.Strconv.Itoa0
import Derived.Shelf.Strconv.Itoa1
import Derived.Shelf.LaysM
import Derived.Shelf.Strconv.Itoa2
import Derived.Shelf.Strconv.Itoa3
import Derived.Shelf.Strconv.Itoa4
import Derived.Shelf.Strings.Search1
import Derived.Shelf.Strings.Search2
import Derived.Shelf.Strings.Search3
import Derived.Shelf.Strings.Count
import Derived.Shelf.Strings.Shaped
import Derived.Shelf.Sort.Plain
import Derived.Shelf.Strings.Prefix
import Derived.Shelf.Strings.Split
import Derived.Shelf.Strings.SplitShaped
import Derived.Shelf.Unicode.Decode
import Derived.Shelf.Strings.Runes
import Derived.Shelf.Strings.RuneCount
import Derived.Shelf.Strings.AsciiSet
import Derived.Shelf.Strings.Explode
import Derived.Shelf.Bits.Mul64
import Derived.Shelf.Strings.Repeat
import Derived.Shelf.Unicode.DecodeSlow
import Derived.Shelf.Unicode.DecodeAny
import Derived.Shelf.Unicode.DecodeLast
import Derived.Ground.Names2Prog
import Derived.Shelf.Slices.Clone
import Derived.Shelf.Slices.In.SortNone
import Derived.Ground.SlgnProg
import Derived.Shelf.SlicesE.Clone
import Derived.Lib.TrimByte

/- Function 36 (spec.l18Bent): its runs between cut points. Written by a program of this repo (gen). -/
set_option linter.unusedVariables false
set_option linter.unusedSimpArgs false
set_option maxRecDepth 100000
namespace Go.Proofs.YtmbkjhbindikkaaGreatDoor
open Go Go.Am Go.Proofs
noncomputable section
def ext36 : Ext := [(35, S35), (37, S37)]
theorem call36_35 : Callable Tryz.prog 35 := ⟨Tryz.f35, Tryz.func35, by kernel_rfl, by kernel_rfl⟩
theorem call36_37 : Callable Tryz.prog 37 := ⟨Tryz.f37, Tryz.func37, by kernel_rfl, by kernel_rfl⟩
theorem ext36Ok : ExtOk Tryz.prog ext36 := ⟨⟨call36_35, con35⟩, ⟨call36_37, con37⟩, trivial⟩

noncomputable def b36 : Code := bodyOf Tryz.f36
theorem hb36 : Tryz.f36.body = some b36 := by kernel_rfl
def sig36 : List AT := [AT.pb (Ty.cons (Ty.sl (Ty.int IntKind.u8)) (Ty.cons (Ty.int IntKind.i64) (Ty.cons (Ty.int IntKind.u64) Ty.unit))), AT.v (Ty.cons Ty.str (Ty.cons (Ty.int IntKind.i64) (Ty.cons (Ty.int IntKind.i64) (Ty.cons (Ty.int IntKind.i64) Ty.unit))))]
def tys36 : List Ty := [Ty.cons Ty.str (Ty.cons (Ty.int IntKind.i64) (Ty.cons (Ty.int IntKind.i64) (Ty.cons (Ty.int IntKind.i64) Ty.unit)))]
def kds36 : List RK := []
def oks36 : List AT := owns sig36
def P36 (x0 : List Int × Int × Int × Unit) (x1 : ByteArray × Int × Int × Int × Unit) : Prop := ((P35 x0 18) ∧ (if (g35_0 x0 18 == 0) = true then ((P37 (u35_0 x0 18) [-1, 0, 100000, 100001]) ∧ True) else (if (g35_0 x0 18 == 1) = true then ((P37 (u35_0 x0 18) [0, 1, 1000, 1001]) ∧ True) else (if (g35_0 x0 18 == 2) = true then ((P37 (u35_0 x0 18) [0, 1, 400, 401]) ∧ True) else True))))
def g36_0 (x0 : List Int × Int × Int × Unit) (x1 : ByteArray × Int × Int × Int × Unit) : ByteArray × Int × Int × Int × Unit := (if (g35_0 x0 18 == 0) = true then (Prod.fst x1, g37_0 (u35_0 x0 18) [-1, 0, 100000, 100001], Prod.snd (Prod.snd x1)) else (if (g35_0 x0 18 == 1) = true then (Prod.fst x1, Prod.fst (Prod.snd x1), g37_0 (u35_0 x0 18) [0, 1, 1000, 1001], Prod.snd (Prod.snd (Prod.snd x1))) else (if (g35_0 x0 18 == 2) = true then (Prod.fst x1, Prod.fst (Prod.snd x1), Prod.fst (Prod.snd (Prod.snd x1)), g37_0 (u35_0 x0 18) [0, 1, 400, 401], ()) else x1)))
def u36_0 (x0 : List Int × Int × Int × Unit) (x1 : ByteArray × Int × Int × Int × Unit) : List Int × Int × Int × Unit := (if (g35_0 x0 18 == 0) = true then u37_0 (u35_0 x0 18) [-1, 0, 100000, 100001] else (if (g35_0 x0 18 == 1) = true then u37_0 (u35_0 x0 18) [0, 1, 1000, 1001] else (if (g35_0 x0 18 == 2) = true then u37_0 (u35_0 x0 18) [0, 1, 400, 401] else u35_0 x0 18)))
theorem at36 (x0 : List Int × Int × Int × Unit) (x1 : ByteArray × Int × Int × Int × Unit) (h : P36 x0 x1) (K : Ctx) (q : Nat → Value) : AtV Tryz.prog 36 (PostR kds36 oks36 [⟨Ty.cons Ty.str (Ty.cons (Ty.int IntKind.i64) (Ty.cons (Ty.int IntKind.i64) (Ty.cons (Ty.int IntKind.i64) Ty.unit))), g36_0 x0 x1⟩] [some ⟨Ty.cons (Ty.sl (Ty.int IntKind.u8)) (Ty.cons (Ty.int IntKind.i64) (Ty.cons (Ty.int IntKind.u64) Ty.unit)), [u36_0 x0 x1]⟩] [0] q K) 26 K q [0] [.code b36] (entE 0 0 sig36 (x0, x1, ())) (entL sig36 (x0, x1, ())) := by
  unfold P36 at h
  unfold g36_0 u36_0
  obtain ⟨s0, h⟩ := h
  by_cases b0 : (g35_0 x0 18 == 0) = true
  · try simp only [if_pos b0] at h ⊢
    obtain ⟨s1, h⟩ := h
    exact AtV.weak (AtV.ret (us := [Option.some (Lst.mk (Ty.cons (Ty.sl (Ty.int IntKind.u8)) (Ty.cons (Ty.int IntKind.i64) (Ty.cons (Ty.int IntKind.u64) Ty.unit))) [u37_0 (u35_0 x0 18) [-1, 0, 100000, 100001]])]) Tryz.func36 tabOk ext36Ok mixed false [] tys36 [true] (a1 s0 (a1 b0 (a1 s1 trivial))) (by kernel_rfl)) ⟨.inl rfl, trivial⟩
  · try simp only [if_neg b0] at h ⊢
    replace b0 := Bool.eq_false_iff.2 b0
    by_cases b1 : (g35_0 x0 18 == 1) = true
    · try simp only [if_pos b1] at h ⊢
      obtain ⟨s1, h⟩ := h
      exact AtV.weak (AtV.ret (us := [Option.some (Lst.mk (Ty.cons (Ty.sl (Ty.int IntKind.u8)) (Ty.cons (Ty.int IntKind.i64) (Ty.cons (Ty.int IntKind.u64) Ty.unit))) [u37_0 (u35_0 x0 18) [0, 1, 1000, 1001]])]) Tryz.func36 tabOk ext36Ok mixed false [] tys36 [false, true] (a1 s0 (a1 b0 (a1 b1 (a1 s1 trivial)))) (by kernel_rfl)) ⟨.inl rfl, trivial⟩
    · try simp only [if_neg b1] at h ⊢
      replace b1 := Bool.eq_false_iff.2 b1
      by_cases b2 : (g35_0 x0 18 == 2) = true
      · try simp only [if_pos b2] at h ⊢
        obtain ⟨s1, h⟩ := h
        exact AtV.weak (AtV.ret (us := [Option.some (Lst.mk (Ty.cons (Ty.sl (Ty.int IntKind.u8)) (Ty.cons (Ty.int IntKind.i64) (Ty.cons (Ty.int IntKind.u64) Ty.unit))) [u37_0 (u35_0 x0 18) [0, 1, 400, 401]])]) Tryz.func36 tabOk ext36Ok mixed false [] tys36 [false, false, true] (a1 s0 (a1 b0 (a1 b1 (a1 b2 (a1 s1 trivial))))) (by kernel_rfl)) ⟨.inl rfl, trivial⟩
      · try simp only [if_neg b2] at h ⊢
        replace b2 := Bool.eq_false_iff.2 b2
        exact AtV.weak (AtV.ret (us := [Option.some (Lst.mk (Ty.cons (Ty.sl (Ty.int IntKind.u8)) (Ty.cons (Ty.int IntKind.i64) (Ty.cons (Ty.int IntKind.u64) Ty.unit))) [u35_0 x0 18])]) Tryz.func36 tabOk ext36Ok mixed false [] tys36 [false, false, false] (a1 s0 (a1 b0 (a1 b1 (a1 b2 trivial)))) (by kernel_rfl)) ⟨.inl rfl, trivial⟩

def S36 : Am.Spec := { sig := sig36, pre := fun ⟨x0, x1, _⟩ => P36 x0 x1, upd := fun ⟨x0, x1, _⟩ => [some ⟨Ty.cons (Ty.sl (Ty.int IntKind.u8)) (Ty.cons (Ty.int IntKind.i64) (Ty.cons (Ty.int IntKind.u64) Ty.unit)), [u36_0 x0 x1]⟩], res := fun ⟨x0, x1, _⟩ => [⟨Ty.cons Ty.str (Ty.cons (Ty.int IntKind.i64) (Ty.cons (Ty.int IntKind.i64) (Ty.cons (Ty.int IntKind.i64) Ty.unit))), g36_0 x0 x1⟩], kds := kds36 }
theorem con36 : Contract Tryz.prog 36 S36 := contract_of Tryz.func36 hb36 (Nat.le_of_ble_eq_true (by kernel_rfl)) (fun ⟨x0, x1, _⟩ h _ K q => at36 x0 x1 h K q)


end
end Go.Proofs.YtmbkjhbindikkaaGreatDoor

/- Function 38 (spec.l01Dec): its runs between cut points. Written by a program of this repo (gen). -/
set_option linter.unusedVariables false
set_option linter.unusedSimpArgs false
set_option maxRecDepth 100000
namespace Go.Proofs.YtmbkjhbindikkaaGreatDoor
open Go Go.Am Go.Proofs
noncomputable section
def ext38 : Ext := []
theorem ext38Ok : ExtOk Tryz.prog ext38 := trivial

noncomputable def b38 : Code := bodyOf Tryz.f38
theorem hb38 : Tryz.f38.body = some b38 := by kernel_rfl
def sig38 : List AT := [AT.v (Ty.int IntKind.i64)]
def tys38 : List Ty := [Ty.str]
def kds38 : List RK := []
def oks38 : List AT := owns sig38
def E38_5 (v4 : Int) (h0 : List Int) (x0 : Int) : Env := [(0, PV.a (Atom.val (Value.int IntKind.i64 x0))), (3, PV.a (Atom.osl 0 Option.none)), (4, PV.a (Atom.val (Value.int IntKind.i64 v4)))]
def L38_5 (v4 : Int) (h0 : List Int) (x0 : Int) : Heap := [Option.some (Arr.mk (Ty.int IntKind.u8) h0 Bool.false Option.none Option.none)]
def E38_15 (v7 : Int) (h0 : List Int) (h1 : List Int) : Env := [(3, PV.a (Atom.osl 0 Option.none)), (6, PV.a (Atom.osl 1 Option.none)), (7, PV.a (Atom.val (Value.int IntKind.i64 v7)))]
def L38_15 (v7 : Int) (h0 : List Int) (h1 : List Int) : Heap := [Option.some (Arr.mk (Ty.int IntKind.u8) h0 Bool.false Option.none Option.none), Option.some (Arr.mk (Ty.int IntKind.u8) h1 Bool.false Option.none Option.none)]
mutual
def R38 : Nat → Int → List Dyn → Prop
  | 0, _, _ => False
  | n + 1, x0, ds => (if (x0 == 0) = true then (ds = [Dyn.mk Ty.str (ByteArray.mk #[48])]) else (R38_5 n (x0) ([]) (x0) ds))
def R38_5 : Nat → Int → List Int → Int → List Dyn → Prop
  | 0, _, _, _, _ => False
  | n + 1, v4, h0, x0, ds => (if (v4 != 0) = true then ((InR IntKind.i64 (Int.tmod v4 10)) ∧ (if (Decidable.decide (Int.tmod v4 10 < 0)) = true then ((InR IntKind.i64 (0 - Int.tmod v4 10)) ∧ ((InR IntKind.i64 (48 + (0 - Int.tmod v4 10))) ∧ ((InR IntKind.u8 (48 + (0 - Int.tmod v4 10))) ∧ (((List.length h0 + 1) * 1 ≤ 140737488355328) ∧ ((InR IntKind.i64 (Int.tdiv v4 10)) ∧ (R38_5 n (Int.tdiv v4 10) (h0 ++ [48 + (0 - Int.tmod v4 10)]) (x0) ds)))))) else ((InR IntKind.i64 (48 + Int.tmod v4 10)) ∧ ((InR IntKind.u8 (48 + Int.tmod v4 10)) ∧ (((List.length h0 + 1) * 1 ≤ 140737488355328) ∧ ((InR IntKind.i64 (Int.tdiv v4 10)) ∧ (R38_5 n (Int.tdiv v4 10) (h0 ++ [48 + Int.tmod v4 10]) (x0) ds))))))) else (if (Decidable.decide (x0 < 0)) = true then (((List.length h0 + 1) * 1 ≤ 140737488355328) ∧ ((InR IntKind.i64 ((↑(List.length (h0 ++ [45])) : Int) - 1)) ∧ (R38_15 n ((↑(List.length (h0 ++ [45])) : Int) - 1) (h0 ++ [45]) ([]) ds))) else ((InR IntKind.i64 ((↑(List.length h0) : Int) - 1)) ∧ (R38_15 n ((↑(List.length h0) : Int) - 1) (h0) ([]) ds))))
def R38_15 : Nat → Int → List Int → List Int → List Dyn → Prop
  | 0, _, _, _, _ => False
  | n + 1, v7, h0, h1, ds => (if (Decidable.decide (v7 ≥ 0)) = true then ((0 ≤ v7) ∧ (v7 < (↑(List.length h0) : Int)) ∧ (((List.length h1 + 1) * 1 ≤ 140737488355328) ∧ ((InR IntKind.i64 (v7 - 1)) ∧ (R38_15 n (v7 - 1) (h0) (h1 ++ [List.getD h0 (Int.toNat v7) 0]) ds)))) else (ds = [Dyn.mk Ty.str (bytesStr h1)]))
end
theorem snd38 : ∀ n, (∀ (x0 : Int) ds, R38 n x0 ds → ∀ K q, AtV Tryz.prog 38 (PostR kds38 oks38 ds [] [] q K) 50 K q [] [.code b38] (entE 0 0 sig38 (x0, ())) (entL sig38 (x0, ()))) ∧ (∀ (v4 : Int) (h0 : List Int) (x0 : Int) ds, R38_5 n v4 h0 x0 ds → ∀ K q, AtV Tryz.prog 38 (PostR kds38 oks38 ds [] [] q K) 50 K q [] (cutAt b38 5) (E38_5 v4 h0 x0) (L38_5 v4 h0 x0)) ∧ (∀ (v7 : Int) (h0 : List Int) (h1 : List Int) ds, R38_15 n v7 h0 h1 ds → ∀ K q, AtV Tryz.prog 38 (PostR kds38 oks38 ds [] [] q K) 50 K q [] (cutAt b38 15) (E38_15 v7 h0 h1) (L38_15 v7 h0 h1)) := by
  intro n
  induction n with
  | zero => exact ⟨fun _ _ h => by simp only [R38] at h, fun _ _ _ _ h => by simp only [R38_5] at h, fun _ _ _ _ h => by simp only [R38_15] at h⟩
  | succ n ih =>
  obtain ⟨ih, ih5, ih15⟩ := ih
  refine ⟨?_, ?_, ?_⟩
  · intro x0 ds h K q
    rw [R38] at h
    by_cases b0 : (x0 == 0) = true
    · rw [if_pos b0] at h
      subst h
      exact AtV.ret Tryz.func38 tabOk ext38Ok mixed false [] tys38 [true] (a1 b0 trivial) (by kernel_rfl)
    · rw [if_neg b0] at h
      replace b0 := Bool.eq_false_iff.2 b0
      exact AtV.go tabOk ext38Ok mixed false [] [] [0, 3, 4] [0] [false] (a1 b0 trivial) (ih5 _ _ _ _ h K q) (by kernel_rfl)

  · intro v4 h0 x0 ds h K q
    rw [R38_5] at h
    by_cases b0 : (v4 != 0) = true
    · rw [if_pos b0] at h
      obtain ⟨s0, h⟩ := h
      by_cases b1 : (Decidable.decide (Int.tmod v4 10 < 0)) = true
      · rw [if_pos b1] at h
        obtain ⟨s1, h⟩ := h
        obtain ⟨s2, h⟩ := h
        obtain ⟨s3, h⟩ := h
        obtain ⟨s4, h⟩ := h
        obtain ⟨s5, h⟩ := h
        exact AtV.go tabOk ext38Ok mixed false [] [] [0, 3, 4] [0] [true, true] (a1 b0 (a1 ((by decide) : (10 : Int) ≠ (0 : Int)) (a1 s0 (a1 b1 (a1 s1 (a1 s2 (a1 s3 (a1 s4 (a1 ((by decide) : (10 : Int) ≠ (0 : Int)) (a1 s5 trivial)))))))))) (ih5 _ _ _ _ h K q) (by kernel_rfl)
      · rw [if_neg b1] at h
        replace b1 := Bool.eq_false_iff.2 b1
        obtain ⟨s1, h⟩ := h
        obtain ⟨s2, h⟩ := h
        obtain ⟨s3, h⟩ := h
        obtain ⟨s4, h⟩ := h
        exact AtV.go tabOk ext38Ok mixed false [] [] [0, 3, 4] [0] [true, false] (a1 b0 (a1 ((by decide) : (10 : Int) ≠ (0 : Int)) (a1 s0 (a1 b1 (a1 s1 (a1 s2 (a1 s3 (a1 ((by decide) : (10 : Int) ≠ (0 : Int)) (a1 s4 trivial))))))))) (ih5 _ _ _ _ h K q) (by kernel_rfl)
    · rw [if_neg b0] at h
      replace b0 := Bool.eq_false_iff.2 b0
      by_cases b1 : (Decidable.decide (x0 < 0)) = true
      · rw [if_pos b1] at h
        obtain ⟨s0, h⟩ := h
        obtain ⟨s1, h⟩ := h
        exact AtV.go tabOk ext38Ok mixed false [] [] [3, 6, 7] [0, 2] [false, true] (a1 b0 (a1 b1 (a1 s0 (a1 s1 trivial)))) (ih15 _ _ _ _ h K q) (by kernel_rfl)
      · rw [if_neg b1] at h
        replace b1 := Bool.eq_false_iff.2 b1
        obtain ⟨s0, h⟩ := h
        exact AtV.go tabOk ext38Ok mixed false [] [] [3, 6, 7] [0, 1] [false, false] (a1 b0 (a1 b1 (a1 s0 trivial))) (ih15 _ _ _ _ h K q) (by kernel_rfl)

  · intro v7 h0 h1 ds h K q
    rw [R38_15] at h
    by_cases b0 : (Decidable.decide (v7 ≥ 0)) = true
    · rw [if_pos b0] at h
      obtain ⟨s0, s1, h⟩ := h
      obtain ⟨s2, h⟩ := h
      obtain ⟨s3, h⟩ := h
      exact AtV.go tabOk ext38Ok mixed false [] [] [3, 6, 7] [0, 1] [true] (a1 b0 (a1 s0 (a1 s1 (a1 s2 (a1 s3 trivial))))) (ih15 _ _ _ _ h K q) (by kernel_rfl)
    · rw [if_neg b0] at h
      replace b0 := Bool.eq_false_iff.2 b0
      subst h
      exact AtV.ret Tryz.func38 tabOk ext38Ok mixed false [] tys38 [false] (a1 b0 trivial) (by kernel_rfl)



def g38_0 (x0 : Int) : ByteArray := numB x0
def P38 (x0 : Int) : Prop := True

theorem bstr38 (xs : List Int) : bytesStr xs = ⟨⟨xs.map fun n => UInt8.ofNat n.toNat⟩⟩ := by
  have key : ∀ (xs : List Int) (s : ByteArray), (xs.foldl (fun r n => r.push (UInt8.ofNat n.toNat)) s).data.toList = s.data.toList ++ xs.map fun n => UInt8.ofNat n.toNat := by
    intro xs
    induction xs with
    | nil => intro s; simp
    | cons a r ih =>
      intro s
      rw [List.foldl_cons, ih]
      show (s.data.push _).toList ++ _ = _
      rw [Array.toList_push]
      simp
  apply ByteArray.ext
  apply Array.ext'
  have := key xs ByteArray.empty
  unfold bytesStr
  rw [this]
  rfl
theorem bstrB38 (l : List UInt8) : bytesStr (l.map fun b => (b.toNat : Int)) = ⟨⟨l⟩⟩ := by
  rw [bstr38, List.map_map]
  congr 2
  conv => rhs; rw [← List.map_id l]
  refine List.map_congr_left fun b _ => ?_
  show UInt8.ofNat ((b.toNat : Int)).toNat = b
  rw [Int.toNat_natCast, UInt8.ofNat_toNat]

def rd38 (m : Nat) : List Int := if h : m = 0 then [] else ((48 + m % 10 : Nat) : Int) :: rd38 (m / 10)
termination_by m
decreasing_by omega
theorem rd038 : rd38 0 = [] := by rw [rd38, dif_pos rfl]
theorem rds38 {m : Nat} (h : m ≠ 0) : rd38 m = ((48 + m % 10 : Nat) : Int) :: rd38 (m / 10) := by rw [rd38, dif_neg h]
theorem rdl38 : ∀ (k m : Nat), m < 10 ^ k → (rd38 m).length ≤ k
  | 0, m, h => by obtain rfl : m = 0 := by simpa using h
                  rw [rd038]; exact Nat.le_refl _
  | k + 1, m, h => by
    by_cases h0 : m = 0
    · rw [h0, rd038]; exact Nat.zero_le _
    · rw [rds38 h0, List.length_cons]
      have := rdl38 k (m / 10) (by rw [Nat.pow_succ] at h; omega)
      omega
theorem rdd38 (m : Nat) (h : m ≠ 0) : bytesStr (rd38 m).reverse = ⟨⟨Lib.decDigits m⟩⟩ := by
  have key : ∀ m : Nat, m ≠ 0 → (rd38 m).reverse = (Lib.decDigits m).map fun b => (b.toNat : Int) := by
    intro m
    induction m using Nat.strongRecOn with
    | _ m ih =>
      intro h
      rw [rds38 h, List.reverse_cons, Lib.decDigits]
      have e : (UInt8.ofNat (48 + m % 10)).toNat = 48 + m % 10 := by rw [UInt8.toNat_ofNat']; omega
      split
      · rename_i hs
        rw [show m / 10 = 0 by omega, rd038]
        have e' : (UInt8.ofNat (48 + m)).toNat = 48 + m % 10 := by rw [UInt8.toNat_ofNat']; omega
        rw [List.map_singleton, e']
        rfl
      · rw [ih (m / 10) (by omega) (by omega), List.map_append, List.map_singleton, e]
  rw [key m h]
  exact bstrB38 _

theorem back38 (h0 : List Int) : ∀ (j : Nat) (h1 : List Int), j ≤ h0.length → h1.length + j ≤ 64 → R38_15 (j + 1) ((j : Int) - 1) h0 h1 [⟨.str, bytesStr (h1 ++ (h0.take j).reverse)⟩]
  | 0, h1, _, _ => by
    rw [R38_15, if_neg (by decide)]
    simp
  | j + 1, h1, hj, hl => by
    have ih := back38 h0 j (h1 ++ [h0.getD j 0]) (by omega) (by rw [List.length_append, List.length_singleton]; omega)
    have e : ((j + 1 : Nat) : Int) - 1 = (j : Int) := by omega
    rw [R38_15, e, if_pos (by simp only [decide_eq_true_eq]; omega), Int.toNat_natCast]
    refine ⟨by omega, by omega, by omega, by rw [i64_iff]; omega, ?_⟩
    have et : (h0.take (j + 1)).reverse = h0.getD j 0 :: (h0.take j).reverse := by
      have hlt : j < h0.length := by omega
      rw [List.take_add_one, List.getElem?_eq_getElem hlt, List.reverse_append, List.getD_eq_getElem?_getD, List.getElem?_eq_getElem hlt]
      rfl
    rw [et]
    rw [List.append_assoc] at ih
    exact ih

theorem last38 (x0 : Int) (h0 : List Int) (hl : h0.length ≤ 20) : R38_5 ((if x0 < 0 then h0.length + 1 else h0.length) + 1 + 1) 0 h0 x0 [⟨.str, bytesStr ((if x0 < 0 then h0 ++ [45] else h0)).reverse⟩] := by
  rw [R38_5, if_neg (by decide)]
  by_cases hx : x0 < 0
  · have b := back38 (h0 ++ [45]) (h0.length + 1) [] (by rw [List.length_append, List.length_singleton]; omega) (by simp; omega)
    have e : (h0 ++ [(45 : Int)]).length = h0.length + 1 := by rw [List.length_append, List.length_singleton]
    rw [List.take_of_length_le (by omega)] at b
    simp only [hx, decide_true, if_true]
    rw [e]
    exact ⟨by omega, by rw [i64_iff]; omega, b⟩
  · have b := back38 h0 h0.length [] (Nat.le_refl _) (by simp; omega)
    rw [List.take_of_length_le (Nat.le_refl _)] at b
    simp only [hx, decide_false, Bool.false_eq_true, if_false]
    exact ⟨by rw [i64_iff]; omega, b⟩

theorem run38 (x0 : Int) (ds : List Dyn) (F : List Int) (K : Nat) (hF : R38_5 K 0 F x0 ds) : ∀ (m : Nat) (v : Int) (h0 : List Int), (v = (m : Int) ∨ v = -(m : Int)) → m ≤ 9223372036854775808 → InR .i64 v → h0.length + (rd38 m).length ≤ 20 → h0 ++ rd38 m = F → R38_5 ((rd38 m).length + K) v h0 x0 ds := by
  intro m
  induction m using Nat.strongRecOn with
  | _ m ih =>
    intro v h0 hv hm hi hl he
    by_cases h : m = 0
    · subst h
      obtain rfl : v = 0 := by omega
      rw [rd038] at he ⊢
      rw [List.append_nil] at he
      rw [he, List.length_nil, Nat.zero_add]
      exact hF
    · have hr := rds38 h
      rw [hr] at he hl ⊢
      rw [List.length_cons] at hl ⊢
      have hne : (v != 0) = true := by
        have : v ≠ 0 := by omega
        simpa using this
      rw [i64_iff] at hi
      have e1 : (rd38 (m / 10)).length + 1 + K = ((rd38 (m / 10)).length + K) + 1 := by omega
      have next : ∀ v', (v' = ((m / 10 : Nat) : Int) ∨ v' = -((m / 10 : Nat) : Int)) → R38_5 ((rd38 (m / 10)).length + K) v' (h0 ++ [((48 + m % 10 : Nat) : Int)]) x0 ds := fun v' hv' =>
        ih (m / 10) (by omega) v' _ hv' (by omega) (by rw [i64_iff]; omega) (by rw [List.length_append, List.length_singleton]; omega) (by rw [List.append_assoc]; exact he)
      rw [e1, R38_5, if_pos hne]
      rcases hv with rfl | rfl
      · have t1 : Int.tmod (m : Int) 10 = ((m % 10 : Nat) : Int) := rfl
        have t2 : Int.tdiv (m : Int) 10 = ((m / 10 : Nat) : Int) := rfl
        rw [t1, t2]
        refine ⟨by rw [i64_iff]; omega, ?_⟩
        rw [if_neg (by simp only [decide_eq_true_eq]; omega)]
        have e2 : 48 + ((m % 10 : Nat) : Int) = ((48 + m % 10 : Nat) : Int) := by omega
        rw [e2]
        exact ⟨by rw [i64_iff]; omega, by rw [u8_iff]; omega, by omega, by rw [i64_iff]; omega, next _ (.inl rfl)⟩
      · have t1 : Int.tmod (-(m : Int)) 10 = -((m % 10 : Nat) : Int) := by rw [Int.neg_tmod]; rfl
        have t2 : Int.tdiv (-(m : Int)) 10 = -((m / 10 : Nat) : Int) := by rw [Int.neg_tdiv]; rfl
        rw [t1, t2]
        refine ⟨by rw [i64_iff]; omega, ?_⟩
        by_cases hz : m % 10 = 0
        · rw [if_neg (by simp only [decide_eq_true_eq]; omega)]
          have e2 : 48 + -((m % 10 : Nat) : Int) = ((48 + m % 10 : Nat) : Int) := by omega
          rw [e2]
          exact ⟨by rw [i64_iff]; omega, by rw [u8_iff]; omega, by omega, by rw [i64_iff]; omega, next _ (.inr rfl)⟩
        · rw [if_pos (by simp only [decide_eq_true_eq]; omega)]
          have e2 : 48 + (0 - -((m % 10 : Nat) : Int)) = ((48 + m % 10 : Nat) : Int) := by omega
          rw [e2]
          exact ⟨by rw [i64_iff]; omega, by rw [i64_iff]; omega, by rw [u8_iff]; omega, by omega, by rw [i64_iff]; omega, next _ (.inr rfl)⟩

theorem top38 (x0 : Int) (hi : InR .i64 x0) : ∃ n, R38 n x0 [⟨.str, g38_0 x0⟩] := by
  unfold g38_0 numB Lib.itoa
  by_cases h : x0 = 0
  · subst h
    refine ⟨1, ?_⟩
    rw [R38, if_pos (by rfl), if_neg (by decide)]
    have e : Lib.decDigits (Int.toNat 0) = [48] := by rw [Lib.decDigits, dif_pos (by decide)]; rfl
    rw [e]
  · have hi' := hi
    rw [i64_iff] at hi'
    have hn : x0.natAbs ≠ 0 := by omega
    have hl := rdl38 19 x0.natAbs (by omega)
    refine ⟨(rd38 x0.natAbs).length + ((if x0 < 0 then (rd38 x0.natAbs).length + 1 else (rd38 x0.natAbs).length) + 1 + 1) + 1, ?_⟩
    rw [R38, if_neg (by simpa using h)]
    have hlast := last38 x0 (rd38 x0.natAbs) (by omega)
    have hrun := run38 x0 _ (rd38 x0.natAbs) _ hlast x0.natAbs x0 [] (by omega) (by omega) hi (by simp; omega) rfl
    have e : bytesStr (if x0 < 0 then rd38 x0.natAbs ++ [45] else rd38 x0.natAbs).reverse = ⟨(if x0 < 0 then 45 :: Lib.decDigits x0.natAbs else Lib.decDigits x0.toNat).toArray⟩ := by
      by_cases hx : x0 < 0
      · rw [if_pos hx, if_pos hx, List.reverse_append]
        show bytesStr ((45 : Int) :: (rd38 x0.natAbs).reverse) = _
        have := rdd38 x0.natAbs hn
        have e0 : bytesStr ((45 : Int) :: (rd38 x0.natAbs).reverse) = ⟨⟨45 :: (bytesStr (rd38 x0.natAbs).reverse).data.toList⟩⟩ := by rw [bstr38, bstr38]; rfl
        rw [e0, this]
      · rw [if_neg hx, if_neg hx, rdd38 x0.natAbs hn, show x0.natAbs = x0.toNat by omega]
    rw [e] at hrun
    exact hrun

def S38 : Am.Spec := { sig := sig38, pre := fun ⟨x0, _⟩ => P38 x0, res := fun ⟨x0, _⟩ => [⟨.str, g38_0 x0⟩] }
theorem con38 : Contract Tryz.prog 38 S38 := contract_of Tryz.func38 hb38 (Nat.le_of_ble_eq_true (by kernel_rfl)) (fun ⟨x0, _⟩ h hwf K q => by
  obtain ⟨n, hn⟩ := top38 x0 hwf.1
  exact (snd38 n).1 x0 _ hn K q)

end
end Go.Proofs.YtmbkjhbindikkaaGreatDoor

/- Function 57 ((*spec.l00Src).text): its runs between cut points. Written by a program of this repo (gen). -/
set_option linter.unusedVariables false
set_option linter.unusedSimpArgs false
set_option maxRecDepth 100000
namespace Go.Proofs.YtmbkjhbindikkaaGreatDoor
open Go Go.Am Go.Proofs
noncomputable section
def ext57 : Ext := [(35, S35)]
theorem call57_35 : Callable Tryz.prog 35 := ⟨Tryz.f35, Tryz.func35, by kernel_rfl, by kernel_rfl⟩
theorem ext57Ok : ExtOk Tryz.prog ext57 := ⟨⟨call57_35, con35⟩, trivial⟩

noncomputable def b57 : Code := bodyOf Tryz.f57
theorem hb57 : Tryz.f57.body = some b57 := by kernel_rfl
def sig57 : List AT := [AT.pb (Ty.cons (Ty.sl (Ty.int IntKind.u8)) (Ty.cons (Ty.int IntKind.i64) (Ty.cons (Ty.int IntKind.u64) Ty.unit))), AT.v (Ty.sl Ty.str)]
def tys57 : List Ty := [Ty.str]
def kds57 : List RK := []
def oks57 : List AT := owns sig57
def P57 (x0 : List Int × Int × Int × Unit) (x1 : List ByteArray) : Prop := ((P35 x0 (↑(List.length x1) : Int)) ∧ ((0 ≤ g35_0 x0 (↑(List.length x1) : Int)) ∧ (g35_0 x0 (↑(List.length x1) : Int) < (↑(List.length x1) : Int)) ∧ True))
def g57_0 (x0 : List Int × Int × Int × Unit) (x1 : List ByteArray) : ByteArray := List.getD x1 (Int.toNat (g35_0 x0 (↑(List.length x1) : Int))) ByteArray.empty
def u57_0 (x0 : List Int × Int × Int × Unit) (x1 : List ByteArray) : List Int × Int × Int × Unit := u35_0 x0 (↑(List.length x1) : Int)
theorem at57 (x0 : List Int × Int × Int × Unit) (x1 : List ByteArray) (h : P57 x0 x1) (K : Ctx) (q : Nat → Value) : AtV Tryz.prog 57 (PostR kds57 oks57 [⟨Ty.str, g57_0 x0 x1⟩] [some ⟨Ty.cons (Ty.sl (Ty.int IntKind.u8)) (Ty.cons (Ty.int IntKind.i64) (Ty.cons (Ty.int IntKind.u64) Ty.unit)), [u57_0 x0 x1]⟩] [0] q K) 12 K q [0] [.code b57] (entE 0 0 sig57 (x0, x1, ())) (entL sig57 (x0, x1, ())) := by
  unfold P57 at h
  unfold g57_0 u57_0
  obtain ⟨s0, h⟩ := h
  obtain ⟨s1, s2, h⟩ := h
  exact AtV.weak (AtV.ret (us := [Option.some (Lst.mk (Ty.cons (Ty.sl (Ty.int IntKind.u8)) (Ty.cons (Ty.int IntKind.i64) (Ty.cons (Ty.int IntKind.u64) Ty.unit))) [u35_0 x0 (↑(List.length x1) : Int)])]) Tryz.func57 tabOk ext57Ok mixed false [] tys57 [] (a1 s0 (a1 s1 (a1 s2 trivial))) (by kernel_rfl)) ⟨.inl rfl, trivial⟩

def S57 : Am.Spec := { sig := sig57, pre := fun ⟨x0, x1, _⟩ => P57 x0 x1, upd := fun ⟨x0, x1, _⟩ => [some ⟨Ty.cons (Ty.sl (Ty.int IntKind.u8)) (Ty.cons (Ty.int IntKind.i64) (Ty.cons (Ty.int IntKind.u64) Ty.unit)), [u57_0 x0 x1]⟩], res := fun ⟨x0, x1, _⟩ => [⟨Ty.str, g57_0 x0 x1⟩], kds := kds57 }
theorem con57 : Contract Tryz.prog 57 S57 := contract_of Tryz.func57 hb57 (Nat.le_of_ble_eq_true (by kernel_rfl)) (fun ⟨x0, x1, _⟩ h _ K q => at57 x0 x1 h K q)


end
end Go.Proofs.YtmbkjhbindikkaaGreatDoor

/- A law that says how functions of the program and of the specification hang together. -/
set_option linter.unusedVariables false
set_option linter.unusedSimpArgs false
set_option maxRecDepth 100000
namespace Go.Proofs.YtmbkjhbindikkaaGreatDoor
open Go Go.Am Go.Proofs

def SrcOk (n : Int) (s : List Int × Int × Int × Unit) : Prop := (∀ b ∈ s.1, 0 ≤ b ∧ b ≤ 255) ∧ 0 ≤ s.2.1 ∧ s.2.1 ≤ n

theorem SrcOk.up {n m : Int} {s : List Int × Int × Int × Unit} (h : SrcOk n s) (hm : n ≤ m) : SrcOk m s := ⟨h.1, h.2.1, Int.le_trans h.2.2 hm⟩

theorem src_start {x : List Int} (hw : Wf (.sl (.int .u8)) x) : SrcOk 0 (x, 0, 0, ()) := by
  refine ⟨fun b hb => ?_, Int.le_refl _, Int.le_refl _⟩
  have := hw.2 b hb
  exact (u8_iff b).1 this

theorem wrap_small {n : Int} (h1 : -9223372036854775808 ≤ n) (h2 : n ≤ 9223372036854775807) : IntKind.wrap .i64 n = n := wrap_of_inR ((i64_iff n).2 ⟨h1, h2⟩)

theorem src_u64 (n : Int) : InR .u64 n ↔ 0 ≤ n ∧ n ≤ 18446744073709551615 := by
  have e1 : (IntKind.u64).min = 0 := by decide
  have e2 : (IntKind.u64).max = 18446744073709551615 := by decide
  simp only [InR, e1, e2]

theorem seed_in (z : Int) : InR .u64 (Int.fdiv (IntKind.wrap .u64 z) 1099511627776) := by
  have h := (src_u64 _).1 (wrap_inR .u64 z)
  rw [src_u64, Int.fdiv_eq_ediv_of_nonneg _ (by decide)]
  omega

theorem low_byte (z : Int) : 0 ≤ IntKind.wrap .i64 (IntKind.wrap .u64 ((BitVec.toNat (BitVec.ofInt 64 z &&& BitVec.ofInt 64 255) : Nat) : Int)) ∧ IntKind.wrap .i64 (IntKind.wrap .u64 ((BitVec.toNat (BitVec.ofInt 64 z &&& BitVec.ofInt 64 255) : Nat) : Int)) ≤ 255 := by
  have h : BitVec.toNat (BitVec.ofInt 64 z &&& BitVec.ofInt 64 255) ≤ 255 := by
    rw [BitVec.toNat_and]
    exact Nat.le_trans Nat.and_le_right (by decide)
  have e : IntKind.wrap .u64 ((BitVec.toNat (BitVec.ofInt 64 z &&& BitVec.ofInt 64 255) : Nat) : Int) = ((BitVec.toNat (BitVec.ofInt 64 z &&& BitVec.ofInt 64 255) : Nat) : Int) := wrap_of_inR ((src_u64 _).2 (by omega))
  rw [e, wrap_small (by omega) (by omega)]
  omega

theorem next_ok {n : Int} {s : List Int × Int × Int × Unit} (h : SrcOk n s) (hn : n ≤ 4611686018427387904) :
    P65 s ∧ SrcOk (n + 1) (u65_0 s) ∧ 0 ≤ g65_0 s ∧ g65_0 s ≤ 255 := by
  obtain ⟨h1, h2, h3⟩ := h
  have e : IntKind.wrap .i64 (s.2.1 + 1) = s.2.1 + 1 := wrap_small (by omega) (by omega)
  unfold P65 u65_0 g65_0 SrcOk
  by_cases hc : s.2.1 < (s.1.length : Int)
  · have hb := h1 _ (mem_getD s.1 s.2.1.toNat 0 (by omega))
    have eb : IntKind.wrap .i64 (s.1.getD s.2.1.toNat 0) = s.1.getD s.2.1.toNat 0 := wrap_small (by omega) (by omega)
    by_cases hd : s.2.1 + 1 ≤ (s.1.length : Int)
    · simp only [hc, e, hd, decide_true, if_true, eb]
      exact ⟨⟨h2, trivial, trivial⟩, ⟨h1, by omega, by omega⟩, hb⟩
    · omega
  · by_cases hd : s.2.1 + 1 ≤ (s.1.length : Int)
    · omega
    · simp only [hc, e, hd, decide_false, Bool.false_eq_true, if_false]
      exact ⟨⟨seed_in _, trivial⟩, ⟨h1, by omega, by omega⟩, low_byte _⟩

theorem tmod_in {x m : Int} (hx : 0 ≤ x) (hx2 : x ≤ 65535) (hm : 1 ≤ m) : InR .i64 (Int.tmod x m) ∧ 0 ≤ Int.tmod x m ∧ Int.tmod x m < m := by
  rw [Int.tmod_eq_emod_of_nonneg hx, i64_iff]
  have h1 := Int.emod_nonneg x (show m ≠ 0 by omega)
  have h2 := Int.emod_lt_of_pos x (show 0 < m by omega)
  have h3 : x % m ≤ x := by
    rcases Int.lt_or_le x m with h | h
    · rw [Int.emod_eq_of_lt hx h]; exact Int.le_refl _
    · omega
  exact ⟨⟨by omega, by omega⟩, h1, h2⟩

theorem pick_ok {n : Int} {s : List Int × Int × Int × Unit} (h : SrcOk n s) (m : Int) (hn : n ≤ 4611686018427387902) :
    P35 s m ∧ SrcOk (n + 2) (u35_0 s m) ∧ 0 ≤ g35_0 s m ∧ (1 ≤ m → g35_0 s m < m) ∧ (m ≤ 1 → g35_0 s m = 0) := by
  obtain ⟨p1, s1, a1, b1⟩ := next_ok h (by omega)
  obtain ⟨p2, s2, a2, b2⟩ := next_ok s1 (by omega)
  unfold P35 u35_0 g35_0
  by_cases hm : m ≤ 1
  · simp only [hm, decide_true, if_true]
    exact ⟨trivial, h.up (by omega), by omega, fun _ => by omega, by first | trivial | exact fun _ => rfl⟩
  · by_cases hb : m > 200
    · simp only [hm, hb, decide_true, decide_false, Bool.false_eq_true, if_true, if_false]
      obtain ⟨t1, t2, t3⟩ := tmod_in (x := g65_0 s * 256 + g65_0 (u65_0 s)) (m := m) (by omega) (by omega) (by omega)
      exact ⟨⟨p1, by rw [i64_iff]; omega, p2, by rw [i64_iff]; omega, by omega, t1, trivial⟩, s2.up (by omega), t2, fun _ => t3, by first | trivial | exact fun h => absurd h (by simp)⟩
    · simp only [hm, hb, decide_true, decide_false, Bool.false_eq_true, if_true, if_false]
      obtain ⟨t1, t2, t3⟩ := tmod_in (x := g65_0 s) (m := m) a1 (by omega) (by omega)
      exact ⟨⟨p1, by omega, t1, trivial⟩, s1.up (by omega), t2, fun _ => t3, by first | trivial | exact fun h => absurd h (by simp)⟩

end Go.Proofs.YtmbkjhbindikkaaGreatDoor

/- A law that says how functions of the program and of the specification hang together. -/
set_option linter.unusedVariables false
set_option linter.unusedSimpArgs false
set_option maxRecDepth 100000
namespace Go.Proofs.YtmbkjhbindikkaaGreatDoor
open Go Go.Am Go.Proofs

theorem SrcOk.self {n : Int} {s : (List Int × Int × Int × Unit)} (h : SrcOk n s) : SrcOk s.2.1 s := ⟨h.1, h.2.1, Int.le_refl _⟩
theorem text_ok {n : Int} {s : (List Int × Int × Int × Unit)} (h : SrcOk n s) (l : List ByteArray) (hl : 1 ≤ l.length) (hn : n ≤ 4611686018427387902) :
    P57 s l ∧ SrcOk (n + 2) (u57_0 s l) ∧ g57_0 s l ∈ l := by
  obtain ⟨p, s1, a, b, _⟩ := pick_ok h (l.length : Int) hn
  have b := b (by omega)
  exact ⟨⟨p, a, b, trivial⟩, s1, mem_getD l _ ByteArray.empty (by omega)⟩

end Go.Proofs.YtmbkjhbindikkaaGreatDoor

/- A law that says how functions of the program and of the specification hang together. -/
set_option linter.unusedVariables false
set_option linter.unusedSimpArgs false
set_option maxRecDepth 100000
namespace Go.Proofs.YtmbkjhbindikkaaGreatDoor
open Go Go.Am Go.Proofs

theorem among_ok {n : Int} {s : List Int × Int × Int × Unit} (h : SrcOk n s) (l : List Int) (hl : 1 ≤ l.length) (hn : n ≤ 4611686018427387902) :
    P37 s l ∧ SrcOk (n + 2) (u37_0 s l) ∧ g37_0 s l ∈ l := by
  obtain ⟨p, s1, a, b, _⟩ := pick_ok h (l.length : Int) hn
  have b := b (by omega)
  exact ⟨⟨p, a, b, trivial⟩, s1, mem_getD l _ 0 (by omega)⟩

end Go.Proofs.YtmbkjhbindikkaaGreatDoor

/- A law that says how functions of the program and of the specification hang together. -/
set_option linter.unusedVariables false
set_option linter.unusedSimpArgs false
set_option maxRecDepth 100000
namespace Go.Proofs.YtmbkjhbindikkaaGreatDoor
open Go Go.Am Go.Proofs

theorem one_ok {n : Int} {s : List Int × Int × Int × Unit} (h : SrcOk n s) (m : Int) (hn : n ≤ 4611686018427387902) :
    P33 s m ∧ SrcOk (n + 2) (u33_0 s m) := by
  obtain ⟨p, s1, _⟩ := pick_ok h m hn
  exact ⟨⟨p, trivial⟩, s1⟩

end Go.Proofs.YtmbkjhbindikkaaGreatDoor

/- A law that says how functions of the program and of the specification hang together. -/
set_option linter.unusedVariables false
set_option linter.unusedSimpArgs false
set_option maxRecDepth 100000
namespace Go.Proofs.YtmbkjhbindikkaaGreatDoor
open Go Go.Am Go.Proofs

theorem draw_fare {n : Int} {s : (List Int × Int × Int × Unit)} (h : SrcOk n s) (hn : n ≤ 4000000000000000000) (id : ByteArray) : P34 s id ∧ SrcOk (n + 6) (u34_0 s id) := by
  obtain ⟨p1, s1, a, b, _⟩ := pick_ok h 60 (by omega)
  have b := b (by decide)
  obtain ⟨p2, s2, _⟩ := among_ok s1 [1, 1, 2, 5, 10, 40] (by decide) (by omega)
  obtain ⟨p3, s3, _⟩ := among_ok s2 [1, 3, 7, 30, 400] (by decide) (by omega)
  exact ⟨⟨p1, by rw [i64_iff]; omega, by rw [i64_iff]; omega, p2, p3, trivial⟩, s3.up (by omega)⟩

theorem bent_fare {n : Int} {s : (List Int × Int × Int × Unit)} (h : SrcOk n s) (hn : n ≤ 4000000000000000000) (f : ByteArray × Int × Int × Int × Unit) : P36 s f ∧ SrcOk (n + 4) (u36_0 s f) := by
  obtain ⟨p1, s1, _⟩ := pick_ok h 18 (by omega)
  unfold P36 u36_0
  by_cases c0 : (g35_0 s 18 == 0) = true
  · obtain ⟨p2, s2, _⟩ := among_ok s1 [-1, 0, 100000, 100001] (by decide) (by omega)
    simp only [if_pos c0]
    exact ⟨⟨p1, p2, trivial⟩, s2.up (by omega)⟩
  · by_cases c1 : (g35_0 s 18 == 1) = true
    · obtain ⟨p2, s2, _⟩ := among_ok s1 [0, 1, 1000, 1001] (by decide) (by omega)
      simp only [if_neg c0, if_pos c1]
      exact ⟨⟨p1, p2, trivial⟩, s2.up (by omega)⟩
    · by_cases c2 : (g35_0 s 18 == 2) = true
      · obtain ⟨p2, s2, _⟩ := among_ok s1 [0, 1, 400, 401] (by decide) (by omega)
        simp only [if_neg c0, if_neg c1, if_pos c2]
        exact ⟨⟨p1, p2, trivial⟩, s2.up (by omega)⟩
      · simp only [if_neg c0, if_neg c1, if_neg c2]
        exact ⟨⟨p1, trivial⟩, s1.up (by omega)⟩

end Go.Proofs.YtmbkjhbindikkaaGreatDoor

/- Function 17 (spec.l18Draw): its runs between cut points. Written by a program of this repo (gen). -/
set_option linter.unusedVariables false
set_option linter.unusedSimpArgs false
set_option maxRecDepth 100000
namespace Go.Proofs.YtmbkjhbindikkaaGreatDoor
open Go Go.Am Go.Proofs
noncomputable section
def ext17 : Ext := [(33, S33), (34, S34), (35, S35), (36, S36), (37, S37), (38, S38)]
theorem call17_33 : Callable Tryz.prog 33 := ⟨Tryz.f33, Tryz.func33, by kernel_rfl, by kernel_rfl⟩
theorem call17_34 : Callable Tryz.prog 34 := ⟨Tryz.f34, Tryz.func34, by kernel_rfl, by kernel_rfl⟩
theorem call17_35 : Callable Tryz.prog 35 := ⟨Tryz.f35, Tryz.func35, by kernel_rfl, by kernel_rfl⟩
theorem call17_36 : Callable Tryz.prog 36 := ⟨Tryz.f36, Tryz.func36, by kernel_rfl, by kernel_rfl⟩
theorem call17_37 : Callable Tryz.prog 37 := ⟨Tryz.f37, Tryz.func37, by kernel_rfl, by kernel_rfl⟩
theorem call17_38 : Callable Tryz.prog 38 := ⟨Tryz.f38, Tryz.func38, by kernel_rfl, by kernel_rfl⟩
theorem ext17Ok : ExtOk Tryz.prog ext17 := ⟨⟨call17_33, con33⟩, ⟨call17_34, con34⟩, ⟨call17_35, con35⟩, ⟨call17_36, con36⟩, ⟨call17_37, con37⟩, ⟨call17_38, con38⟩, trivial⟩

noncomputable def b17 : Code := bodyOf Tryz.f17
theorem hb17 : Tryz.f17.body = some b17 := by kernel_rfl
def sig17 : List AT := [AT.pb (Ty.cons (Ty.sl (Ty.int IntKind.u8)) (Ty.cons (Ty.int IntKind.i64) (Ty.cons (Ty.int IntKind.u64) Ty.unit)))]
def tys17 : List Ty := [Ty.sl (Ty.cons Ty.str (Ty.cons (Ty.int IntKind.i64) (Ty.cons (Ty.int IntKind.i64) (Ty.cons (Ty.int IntKind.i64) Ty.unit))))]
def kds17 : List RK := []
def oks17 : List AT := owns sig17
def E17_4 (v5 : Int) (h2 : List (ByteArray × Int × Int × Int × Unit)) (x0 : List Int × Int × Int × Unit) : Env := [(0, PV.a (Atom.optr 0 0 [])), (3, PV.a (Atom.osl 1 Option.none)), (4, PV.a (Atom.osl 2 Option.none)), (5, PV.a (Atom.val (Value.int IntKind.i64 v5)))]
def L17_4 (v5 : Int) (h2 : List (ByteArray × Int × Int × Int × Unit)) (x0 : List Int × Int × Int × Unit) : Heap := [Option.some (Arr.mk (Ty.cons (Ty.sl (Ty.int IntKind.u8)) (Ty.cons (Ty.int IntKind.i64) (Ty.cons (Ty.int IntKind.u64) Ty.unit))) [x0] Bool.true Option.none (Option.some Bool.true)), Option.some (Arr.mk Ty.str [ByteArray.mk #[100, 97, 121], ByteArray.mk #[109, 111, 110, 116, 104], ByteArray.mk #[115, 105, 110, 103, 108, 101], ByteArray.mk #[116, 101, 110], ByteArray.mk #[119, 101, 101, 107]] Bool.false Option.none Option.none), Option.some (Arr.mk (Ty.cons Ty.str (Ty.cons (Ty.int IntKind.i64) (Ty.cons (Ty.int IntKind.i64) (Ty.cons (Ty.int IntKind.i64) Ty.unit)))) h2 Bool.false Option.none Option.none)]
def E17_15 (v7 : Int) (h0 : List Int × Int × Int × Unit) (h1 : List (ByteArray × Int × Int × Int × Unit)) (x0 : List Int × Int × Int × Unit) : Env := [(0, PV.a (Atom.optr 0 0 [])), (4, PV.a (Atom.osl 1 Option.none)), (6, PV.a (Atom.val (Value.int IntKind.i64 (g37_0 (u35_0 x0 20) [8, 9])))), (7, PV.a (Atom.val (Value.int IntKind.i64 v7)))]
def L17_15 (v7 : Int) (h0 : List Int × Int × Int × Unit) (h1 : List (ByteArray × Int × Int × Int × Unit)) (x0 : List Int × Int × Int × Unit) : Heap := [Option.some (Arr.mk (Ty.cons (Ty.sl (Ty.int IntKind.u8)) (Ty.cons (Ty.int IntKind.i64) (Ty.cons (Ty.int IntKind.u64) Ty.unit))) [h0] Bool.true Option.none (Option.some Bool.true)), Option.some (Arr.mk (Ty.cons Ty.str (Ty.cons (Ty.int IntKind.i64) (Ty.cons (Ty.int IntKind.i64) (Ty.cons (Ty.int IntKind.i64) Ty.unit)))) h1 Bool.false Option.none Option.none)]
mutual
def R17 : Nat → List Int × Int × Int × Unit → List Dyn → List (Option Lst) → Prop
  | 0, _, _, _ => False
  | n + 1, x0, ds, us => (R17_4 n (0) ([]) (x0) ds us)
def R17_4 : Nat → Int → List (ByteArray × Int × Int × Int × Unit) → List Int × Int × Int × Unit → List Dyn → List (Option Lst) → Prop
  | 0, _, _, _, _, _ => False
  | n + 1, v5, h2, x0, ds, us => (if (Decidable.decide (v5 < 5)) = true then ((P33 x0 4) ∧ (if (!g33_0 x0 4) = true then ((0 ≤ v5) ∧ (v5 < 5) ∧ ((P34 (u33_0 x0 4) (List.getD [ByteArray.mk #[100, 97, 121], ByteArray.mk #[109, 111, 110, 116, 104], ByteArray.mk #[115, 105, 110, 103, 108, 101], ByteArray.mk #[116, 101, 110], ByteArray.mk #[119, 101, 101, 107]] (Int.toNat v5) ByteArray.empty)) ∧ (((List.length h2 + 1) * 40 ≤ 140737488355328) ∧ ((InR IntKind.i64 (v5 + 1)) ∧ (R17_4 n (v5 + 1) (h2 ++ [(List.getD [ByteArray.mk #[100, 97, 121], ByteArray.mk #[109, 111, 110, 116, 104], ByteArray.mk #[115, 105, 110, 103, 108, 101], ByteArray.mk #[116, 101, 110], ByteArray.mk #[119, 101, 101, 107]] (Int.toNat v5) ByteArray.empty, 100 + 50 * g35_0 (u33_0 x0 4) 60, g37_0 (u35_0 (u33_0 x0 4) 60) [1, 1, 2, 5, 10, 40], g37_0 (u37_0 (u35_0 (u33_0 x0 4) 60) [1, 1, 2, 5, 10, 40]) [1, 3, 7, 30, 400], ())]) (u34_0 (u33_0 x0 4) (List.getD [ByteArray.mk #[100, 97, 121], ByteArray.mk #[109, 111, 110, 116, 104], ByteArray.mk #[115, 105, 110, 103, 108, 101], ByteArray.mk #[116, 101, 110], ByteArray.mk #[119, 101, 101, 107]] (Int.toNat v5) ByteArray.empty)) ds us))))) else ((InR IntKind.i64 (v5 + 1)) ∧ (R17_4 n (v5 + 1) (h2) (u33_0 x0 4) ds us)))) else ((P35 x0 20) ∧ (if (g35_0 x0 20 == 0) = true then ((P34 (u35_0 x0 20) (ByteArray.mk #[122, 122])) ∧ ((P36 (u34_0 (u35_0 x0 20) (ByteArray.mk #[122, 122])) (ByteArray.mk #[122, 122], 100 + 50 * g35_0 (u35_0 x0 20) 60, g37_0 (u35_0 (u35_0 x0 20) 60) [1, 1, 2, 5, 10, 40], g37_0 (u37_0 (u35_0 (u35_0 x0 20) 60) [1, 1, 2, 5, 10, 40]) [1, 3, 7, 30, 400], ())) ∧ (((List.length h2 + 1) * 40 ≤ 140737488355328) ∧ (ds = [Dyn.mk (Ty.sl (Ty.cons Ty.str (Ty.cons (Ty.int IntKind.i64) (Ty.cons (Ty.int IntKind.i64) (Ty.cons (Ty.int IntKind.i64) Ty.unit))))) (h2 ++ [g36_0 (u34_0 (u35_0 x0 20) (ByteArray.mk #[122, 122])) (ByteArray.mk #[122, 122], 100 + 50 * g35_0 (u35_0 x0 20) 60, g37_0 (u35_0 (u35_0 x0 20) 60) [1, 1, 2, 5, 10, 40], g37_0 (u37_0 (u35_0 (u35_0 x0 20) 60) [1, 1, 2, 5, 10, 40]) [1, 3, 7, 30, 400], ())])] ∧ us = [Option.some (Lst.mk (Ty.cons (Ty.sl (Ty.int IntKind.u8)) (Ty.cons (Ty.int IntKind.i64) (Ty.cons (Ty.int IntKind.u64) Ty.unit))) [u36_0 (u34_0 (u35_0 x0 20) (ByteArray.mk #[122, 122])) (ByteArray.mk #[122, 122], 100 + 50 * g35_0 (u35_0 x0 20) 60, g37_0 (u35_0 (u35_0 x0 20) 60) [1, 1, 2, 5, 10, 40], g37_0 (u37_0 (u35_0 (u35_0 x0 20) 60) [1, 1, 2, 5, 10, 40]) [1, 3, 7, 30, 400], ())])])))) else (if (g35_0 x0 20 == 1) = true then ((P37 (u35_0 x0 20) [8, 9]) ∧ (R17_15 n (0) (u37_0 (u35_0 x0 20) [8, 9]) ([]) (x0) ds us)) else (ds = [Dyn.mk (Ty.sl (Ty.cons Ty.str (Ty.cons (Ty.int IntKind.i64) (Ty.cons (Ty.int IntKind.i64) (Ty.cons (Ty.int IntKind.i64) Ty.unit))))) h2] ∧ us = [Option.some (Lst.mk (Ty.cons (Ty.sl (Ty.int IntKind.u8)) (Ty.cons (Ty.int IntKind.i64) (Ty.cons (Ty.int IntKind.u64) Ty.unit))) [u35_0 x0 20])])))))
def R17_15 : Nat → Int → List Int × Int × Int × Unit → List (ByteArray × Int × Int × Int × Unit) → List Int × Int × Int × Unit → List Dyn → List (Option Lst) → Prop
  | 0, _, _, _, _, _, _ => False
  | n + 1, v7, h0, h1, x0, ds, us => (if (Decidable.decide (v7 < g37_0 (u35_0 x0 20) [8, 9])) = true then ((1 + ByteArray.size (g38_0 v7) ≤ 9223372036854775807) ∧ ((P34 h0 (ByteArray.mk #[110] ++ g38_0 v7)) ∧ (((List.length h1 + 1) * 40 ≤ 140737488355328) ∧ ((InR IntKind.i64 (v7 + 1)) ∧ (R17_15 n (v7 + 1) (u34_0 h0 (ByteArray.mk #[110] ++ g38_0 v7)) (h1 ++ [(ByteArray.mk #[110] ++ g38_0 v7, 100 + 50 * g35_0 h0 60, g37_0 (u35_0 h0 60) [1, 1, 2, 5, 10, 40], g37_0 (u37_0 (u35_0 h0 60) [1, 1, 2, 5, 10, 40]) [1, 3, 7, 30, 400], ())]) (x0) ds us))))) else (ds = [Dyn.mk (Ty.sl (Ty.cons Ty.str (Ty.cons (Ty.int IntKind.i64) (Ty.cons (Ty.int IntKind.i64) (Ty.cons (Ty.int IntKind.i64) Ty.unit))))) h1] ∧ us = [Option.some (Lst.mk (Ty.cons (Ty.sl (Ty.int IntKind.u8)) (Ty.cons (Ty.int IntKind.i64) (Ty.cons (Ty.int IntKind.u64) Ty.unit))) [h0])]))
end
theorem snd17 : ∀ n, (∀ (x0 : List Int × Int × Int × Unit) ds us, R17 n x0 ds us → ∀ K q, AtV Tryz.prog 17 (PostR kds17 oks17 ds us [0] q K) 59 K q [0] [.code b17] (entE 0 0 sig17 (x0, ())) (entL sig17 (x0, ()))) ∧ (∀ (v5 : Int) (h2 : List (ByteArray × Int × Int × Int × Unit)) (x0 : List Int × Int × Int × Unit) ds us, R17_4 n v5 h2 x0 ds us → ∀ K q, AtV Tryz.prog 17 (PostR kds17 oks17 ds us [0] q K) 59 K q [0] (cutAt b17 4) (E17_4 v5 h2 x0) (L17_4 v5 h2 x0)) ∧ (∀ (v7 : Int) (h0 : List Int × Int × Int × Unit) (h1 : List (ByteArray × Int × Int × Int × Unit)) (x0 : List Int × Int × Int × Unit) ds us, R17_15 n v7 h0 h1 x0 ds us → ∀ K q, AtV Tryz.prog 17 (PostR kds17 oks17 ds us [0] q K) 59 K q [0] (cutAt b17 15) (E17_15 v7 h0 h1 x0) (L17_15 v7 h0 h1 x0)) := by
  intro n
  induction n with
  | zero => exact ⟨fun _ _ _ h => by simp only [R17] at h, fun _ _ _ _ _ h => by simp only [R17_4] at h, fun _ _ _ _ _ _ h => by simp only [R17_15] at h⟩
  | succ n ih =>
  obtain ⟨ih, ih4, ih15⟩ := ih
  refine ⟨?_, ?_, ?_⟩
  · intro x0 ds us h K q
    rw [R17] at h
    exact AtV.go tabOk ext17Ok mixed false [] [] [0, 3, 4, 5] [0, 1, 2] [] trivial (ih4 _ _ _ _ _ h K q) (by kernel_rfl)

  · intro v5 h2 x0 ds us h K q
    rw [R17_4] at h
    by_cases b0 : (Decidable.decide (v5 < 5)) = true
    · rw [if_pos b0] at h
      obtain ⟨s0, h⟩ := h
      by_cases b1 : (!g33_0 x0 4) = true
      · rw [if_pos b1] at h
        obtain ⟨s1, s2, h⟩ := h
        obtain ⟨s3, h⟩ := h
        obtain ⟨s4, h⟩ := h
        obtain ⟨s5, h⟩ := h
        exact AtV.go tabOk ext17Ok mixed false [] [] [0, 3, 4, 5] [0, 1, 2] [true, true] (a1 b0 (a1 s0 (a1 b1 (a1 s1 (a1 s2 (a1 s3 (a1 s4 (a1 s5 trivial)))))))) (ih4 _ _ _ _ _ h K q) (by kernel_rfl)
      · rw [if_neg b1] at h
        replace b1 := Bool.eq_false_iff.2 b1
        obtain ⟨s1, h⟩ := h
        exact AtV.go tabOk ext17Ok mixed false [] [] [0, 3, 4, 5] [0, 1, 2] [true, false] (a1 b0 (a1 s0 (a1 b1 (a1 s1 trivial)))) (ih4 _ _ _ _ _ h K q) (by kernel_rfl)
    · rw [if_neg b0] at h
      replace b0 := Bool.eq_false_iff.2 b0
      obtain ⟨s0, h⟩ := h
      by_cases b1 : (g35_0 x0 20 == 0) = true
      · rw [if_pos b1] at h
        obtain ⟨s1, h⟩ := h
        obtain ⟨s2, h⟩ := h
        obtain ⟨s3, h⟩ := h
        obtain ⟨h, h'⟩ := h; subst h; subst h'
        exact AtV.ret Tryz.func17 tabOk ext17Ok mixed false [] tys17 [false, true] (a1 b0 (a1 s0 (a1 b1 (a1 s1 (a1 s2 (a1 s3 trivial)))))) (by kernel_rfl)
      · rw [if_neg b1] at h
        replace b1 := Bool.eq_false_iff.2 b1
        by_cases b2 : (g35_0 x0 20 == 1) = true
        · rw [if_pos b2] at h
          obtain ⟨s1, h⟩ := h
          exact AtV.go tabOk ext17Ok mixed false [] [] [0, 4, 6, 7] [0, 4] [false, false, true] (a1 b0 (a1 s0 (a1 b1 (a1 b2 (a1 s1 trivial))))) (ih15 _ _ _ _ _ _ h K q) (by kernel_rfl)
        · rw [if_neg b2] at h
          replace b2 := Bool.eq_false_iff.2 b2
          obtain ⟨h, h'⟩ := h; subst h; subst h'
          exact AtV.ret Tryz.func17 tabOk ext17Ok mixed false [] tys17 [false, false, false] (a1 b0 (a1 s0 (a1 b1 (a1 b2 trivial)))) (by kernel_rfl)

  · intro v7 h0 h1 x0 ds us h K q
    rw [R17_15] at h
    by_cases b0 : (Decidable.decide (v7 < g37_0 (u35_0 x0 20) [8, 9])) = true
    · rw [if_pos b0] at h
      obtain ⟨s0, h⟩ := h
      obtain ⟨s1, h⟩ := h
      obtain ⟨s2, h⟩ := h
      obtain ⟨s3, h⟩ := h
      exact AtV.go tabOk ext17Ok mixed false [] [] [0, 4, 6, 7] [0, 1] [true] (a1 b0 (a1 trivial (a1 s0 (a1 s1 (a1 s2 (a1 s3 trivial)))))) (ih15 _ _ _ _ _ _ h K q) (by kernel_rfl)
    · rw [if_neg b0] at h
      replace b0 := Bool.eq_false_iff.2 b0
      obtain ⟨h, h'⟩ := h; subst h; subst h'
      exact AtV.ret Tryz.func17 tabOk ext17Ok mixed false [] tys17 [false] (a1 b0 trivial) (by kernel_rfl)



abbrev FT17 := ByteArray × Int × Int × Int × Unit
def P17 (x0 : (List Int × Int × Int × Unit)) : Prop := SrcOk 800000000 x0
def Q17 (x0 : (List Int × Int × Int × Unit)) (y : List FT17) (s : (List Int × Int × Int × Unit)) : Prop := SrcOk (x0.2.1 + 1000) s ∧ y.length ≤ 20 ∧ ∃ n, R17 n x0 [⟨.sl (.cons .str (.cons (.int .i64) (.cons (.int .i64) (.cons (.int .i64) .unit)))), y⟩] [some ⟨(.cons (.sl (.int .u8)) (.cons (.int .i64) (.cons (.int .u64) .unit))), [s]⟩]

theorem many17 (x0 : (List Int × Int × Int × Unit)) (hM : g37_0 (u35_0 x0 20) [8, 9] ≤ 9) : ∀ (k : Nat) (v : Int) (s : (List Int × Int × Int × Unit)) (h : List FT17) (m : Int), 0 ≤ v → v ≤ 9 → g37_0 (u35_0 x0 20) [8, 9] ≤ v + k → SrcOk m s → m + 6 * (k : Int) ≤ 1000000000 → h.length + k ≤ 1000 →
    ∃ (n : Nat) (y : List FT17) (t : (List Int × Int × Int × Unit)), SrcOk (m + 6 * (k : Int)) t ∧ y.length ≤ h.length + k ∧ R17_15 n v s h x0 [⟨.sl (.cons .str (.cons (.int .i64) (.cons (.int .i64) (.cons (.int .i64) .unit)))), y⟩] [some ⟨(.cons (.sl (.int .u8)) (.cons (.int .i64) (.cons (.int .u64) .unit))), [t]⟩] := by
  intro k
  induction k with
  | zero =>
    intro v s h m h0 h9 hv hs hm hl
    refine ⟨1, h, s, hs.up (by omega), by omega, ?_⟩
    rw [R17_15, if_neg (by simp only [decide_eq_true_eq]; omega)]
    exact ⟨rfl, rfl⟩
  | succ k ih =>
    intro v s h m h0 h9 hv hs hm hl
    by_cases hc : v < g37_0 (u35_0 x0 20) [8, 9]
    · obtain ⟨p1, s1⟩ := draw_fare hs (by omega) (ByteArray.mk #[110] ++ g38_0 v)
      obtain ⟨n, y, t, a1, a2, a3⟩ := ih (v + 1) _ (h ++ [(ByteArray.mk #[110] ++ g38_0 v, 100 + 50 * g35_0 s 60, g37_0 (u35_0 s 60) [1, 1, 2, 5, 10, 40], g37_0 (u37_0 (u35_0 s 60) [1, 1, 2, 5, 10, 40]) [1, 3, 7, 30, 400], ())]) (m + 6) (by omega) (by omega) (by omega) s1 (by omega) (by simp; omega)
      have hz := numB_size v (by omega) (by omega)
      refine ⟨n + 1, y, t, a1.up (by omega), by simp at a2; omega, ?_⟩
      rw [R17_15, if_pos (decide_eq_true hc)]
      exact ⟨by show 1 + (numB v).size ≤ _; omega, p1, by omega, by rw [i64_iff]; omega, a3⟩
    · refine ⟨1, h, s, hs.up (by omega), by omega, ?_⟩
      rw [R17_15, if_neg (by simpa using hc)]
      exact ⟨rfl, rfl⟩

theorem run17 : ∀ (k : Nat) (v : Int) (s : (List Int × Int × Int × Unit)) (h : List FT17) (m : Int), v + (k : Int) = 5 → 0 ≤ v → SrcOk m s → m + 8 * (k : Int) ≤ 900000000 → (h.length : Int) ≤ v →
    ∃ (n : Nat) (y : List FT17) (t : (List Int × Int × Int × Unit)), SrcOk (m + 8 * (k : Int) + 100) t ∧ y.length ≤ 20 ∧ R17_4 n v h s [⟨.sl (.cons .str (.cons (.int .i64) (.cons (.int .i64) (.cons (.int .i64) .unit)))), y⟩] [some ⟨(.cons (.sl (.int .u8)) (.cons (.int .i64) (.cons (.int .u64) .unit))), [t]⟩] := by
  intro k
  induction k with
  | zero =>
    intro v s h m hv h0 hs hm hl
    obtain ⟨p1, s1, _⟩ := pick_ok hs 20 (by omega)
    by_cases c0 : (g35_0 s 20 == 0) = true
    · obtain ⟨p2, s2⟩ := draw_fare s1 (by omega) (ByteArray.mk #[122, 122])
      obtain ⟨p3, s3⟩ := bent_fare s2 (by omega) (ByteArray.mk #[122, 122], 100 + 50 * g35_0 (u35_0 s 20) 60, g37_0 (u35_0 (u35_0 s 20) 60) [1, 1, 2, 5, 10, 40], g37_0 (u37_0 (u35_0 (u35_0 s 20) 60) [1, 1, 2, 5, 10, 40]) [1, 3, 7, 30, 400], ())
      refine ⟨1, _, _, s3.up (by omega), ?_, by
        rw [R17_4, if_neg (by simp only [decide_eq_true_eq]; omega), if_pos c0]
        exact ⟨p1, p2, p3, by omega, rfl, rfl⟩⟩
      simp; omega
    · by_cases c1 : (g35_0 s 20 == 1) = true
      · obtain ⟨p2, s2, hm2⟩ := among_ok s1 [8, 9] (by decide) (by omega)
        have hM : g37_0 (u35_0 s 20) [8, 9] ≤ 9 := by
          have : ∀ z ∈ ([8, 9] : List Int), z ≤ 9 := by decide
          exact this _ hm2
        obtain ⟨n, y, t, a1, a2, a3⟩ := many17 s hM 9 0 _ [] _ (by omega) (by omega) (by omega) s2 (by omega) (by simp)
        refine ⟨n + 1, y, t, a1.up (by omega), by simp at a2; omega, ?_⟩
        rw [R17_4, if_neg (by simp only [decide_eq_true_eq]; omega), if_neg c0, if_pos c1]
        exact ⟨p1, p2, a3⟩
      · refine ⟨1, h, _, s1.up (by omega), by omega, ?_⟩
        rw [R17_4, if_neg (by simp only [decide_eq_true_eq]; omega), if_neg c0, if_neg c1]
        exact ⟨p1, rfl, rfl⟩
  | succ k ih =>
    intro v s h m hv h0 hs hm hl
    obtain ⟨p1, s1⟩ := one_ok hs 4 (by omega)
    by_cases hc : (!g33_0 s 4) = true
    · obtain ⟨p2, s2⟩ := draw_fare s1 (by omega) (List.getD [ByteArray.mk #[100, 97, 121], ByteArray.mk #[109, 111, 110, 116, 104], ByteArray.mk #[115, 105, 110, 103, 108, 101], ByteArray.mk #[116, 101, 110], ByteArray.mk #[119, 101, 101, 107]] (Int.toNat v) ByteArray.empty)
      obtain ⟨n, y, t, a1, a2, a3⟩ := ih (v + 1) _ (h ++ [(List.getD [ByteArray.mk #[100, 97, 121], ByteArray.mk #[109, 111, 110, 116, 104], ByteArray.mk #[115, 105, 110, 103, 108, 101], ByteArray.mk #[116, 101, 110], ByteArray.mk #[119, 101, 101, 107]] (Int.toNat v) ByteArray.empty, 100 + 50 * g35_0 (u33_0 s 4) 60, g37_0 (u35_0 (u33_0 s 4) 60) [1, 1, 2, 5, 10, 40], g37_0 (u37_0 (u35_0 (u33_0 s 4) 60) [1, 1, 2, 5, 10, 40]) [1, 3, 7, 30, 400], ())]) (m + 8) (by omega) (by omega) (s2.up (by omega)) (by omega) (by simp; omega)
      refine ⟨n + 1, y, t, a1.up (by omega), a2, ?_⟩
      rw [R17_4, if_pos (by simp only [decide_eq_true_eq]; omega), if_pos hc]
      exact ⟨p1, h0, by omega, p2, by omega, by rw [i64_iff]; omega, a3⟩
    · obtain ⟨n, y, t, a1, a2, a3⟩ := ih (v + 1) _ h (m + 8) (by omega) (by omega) (s1.up (by omega)) (by omega) (by omega)
      refine ⟨n + 1, y, t, a1.up (by omega), a2, ?_⟩
      rw [R17_4, if_pos (by simp only [decide_eq_true_eq]; omega), if_neg hc]
      exact ⟨p1, by rw [i64_iff]; omega, a3⟩

theorem ex17 (x0 : (List Int × Int × Int × Unit)) (h : P17 x0) : ∃ y s, Q17 x0 y s := by
  have h0 : x0.2.1 ≤ 800000000 := h.2.2
  obtain ⟨n, y, t, a1, a2, a3⟩ := run17 5 0 x0 [] _ (by omega) (by omega) (SrcOk.self h) (by omega) (by simp)
  exact ⟨y, t, a1.up (by omega), a2, n + 1, by rw [R17]; exact a3⟩

def g17_0 (x0 : (List Int × Int × Int × Unit)) : List FT17 := (sel2 [] x0 (Q17 x0)).1
def u17_0 (x0 : (List Int × Int × Int × Unit)) : (List Int × Int × Int × Unit) := (sel2 [] x0 (Q17 x0)).2
theorem q17 (x0 : (List Int × Int × Int × Unit)) (h : P17 x0) : Q17 x0 (g17_0 x0) (u17_0 x0) := by
  obtain ⟨y, s, hq⟩ := ex17 x0 h
  exact sel2_spec hq

def S17 : Am.Spec := { sig := sig17, pre := fun ⟨x0, _⟩ => P17 x0, upd := fun ⟨x0, _⟩ => [some ⟨(.cons (.sl (.int .u8)) (.cons (.int .i64) (.cons (.int .u64) .unit))), [u17_0 x0]⟩], res := fun ⟨x0, _⟩ => [⟨.sl (.cons .str (.cons (.int .i64) (.cons (.int .i64) (.cons (.int .i64) .unit)))), g17_0 x0⟩], kds := kds17 }
theorem con17 : Contract Tryz.prog 17 S17 := contract_of Tryz.func17 hb17 (Nat.le_of_ble_eq_true (by kernel_rfl)) (fun ⟨x0, _⟩ h hwf K q =>
  let ⟨n, hn⟩ := (q17 x0 h).2.2
  (snd17 n).1 x0 _ _ hn K q)

end
end Go.Proofs.YtmbkjhbindikkaaGreatDoor

/- Function 5 (spec.DrawFareReport): its runs between cut points. Written by a program of this repo (gen). -/
set_option linter.unusedVariables false
set_option linter.unusedSimpArgs false
set_option maxRecDepth 100000
namespace Go.Proofs.YtmbkjhbindikkaaGreatDoor
open Go Go.Am Go.Proofs
noncomputable section
def ext5 : Ext := [(16, S16), (17, S17)]
theorem call5_16 : Callable Tryz.prog 16 := ⟨Tryz.f16, Tryz.func16, by kernel_rfl, by kernel_rfl⟩
theorem call5_17 : Callable Tryz.prog 17 := ⟨Tryz.f17, Tryz.func17, by kernel_rfl, by kernel_rfl⟩
theorem ext5Ok : ExtOk Tryz.prog ext5 := ⟨⟨call5_16, con16⟩, ⟨call5_17, con17⟩, trivial⟩

noncomputable def b5 : Code := bodyOf Tryz.f5
theorem hb5 : Tryz.f5.body = some b5 := by kernel_rfl
def sig5 : List AT := [AT.v (Ty.sl (Ty.int IntKind.u8))]
def tys5 : List Ty := [Ty.sl (Ty.cons Ty.str (Ty.cons (Ty.int IntKind.i64) (Ty.cons (Ty.int IntKind.i64) (Ty.cons (Ty.int IntKind.i64) Ty.unit))))]
def kds5 : List RK := []
def oks5 : List AT := owns sig5
def P5 (x0 : List Int) : Prop := ((P17 (g16_0 x0)) ∧ True)
def g5_0 (x0 : List Int) : List (ByteArray × Int × Int × Int × Unit) := g17_0 (g16_0 x0)
theorem at5 (x0 : List Int) (h : P5 x0) (K : Ctx) (q : Nat → Value) : AtV Tryz.prog 5 (PostR kds5 oks5 [⟨Ty.sl (Ty.cons Ty.str (Ty.cons (Ty.int IntKind.i64) (Ty.cons (Ty.int IntKind.i64) (Ty.cons (Ty.int IntKind.i64) Ty.unit)))), g5_0 x0⟩] [] [] q K) 8 K q [] [.code b5] (entE 0 0 sig5 (x0, ())) (entL sig5 (x0, ())) := by
  unfold P5 at h
  unfold g5_0
  obtain ⟨s0, h⟩ := h
  exact AtV.ret Tryz.func5 tabOk ext5Ok mixed false [] tys5 [] (a1 trivial (a1 s0 trivial)) (by kernel_rfl)

def S5 : Am.Spec := { sig := sig5, pre := fun ⟨x0, _⟩ => P5 x0, res := fun ⟨x0, _⟩ => [⟨Ty.sl (Ty.cons Ty.str (Ty.cons (Ty.int IntKind.i64) (Ty.cons (Ty.int IntKind.i64) (Ty.cons (Ty.int IntKind.i64) Ty.unit)))), g5_0 x0⟩], kds := kds5 }
theorem con5 : Contract Tryz.prog 5 S5 := contract_of Tryz.func5 hb5 (Nat.le_of_ble_eq_true (by kernel_rfl)) (fun ⟨x0, _⟩ h _ K q => at5 x0 h K q)


end
end Go.Proofs.YtmbkjhbindikkaaGreatDoor

/- Function 66 (impl.IsName): its runs between cut points. Written by a program of this repo (gen). -/
set_option linter.unusedVariables false
set_option linter.unusedSimpArgs false
set_option maxRecDepth 100000
namespace Go.Proofs.YtmbkjhbindikkaaGreatDoor
open Go Go.Am Go.Proofs
noncomputable section
def ext66 : Ext := []
theorem ext66Ok : ExtOk Tryz.prog ext66 := trivial

noncomputable def b66 : Code := bodyOf Tryz.f66
theorem hb66 : Tryz.f66.body = some b66 := by kernel_rfl
def sig66 : List AT := [AT.v (Ty.str)]
def tys66 : List Ty := [Ty.bool]
def kds66 : List RK := []
def oks66 : List AT := owns sig66
def E66_4 (v18 : Int) (x0 : ByteArray) : Env := [(16, PV.a (Atom.osl 0 Option.none)), (17, PV.a (Atom.val (Value.int IntKind.i64 (↑(List.length (bytesOf x0)) : Int)))), (18, PV.a (Atom.val (Value.int IntKind.i64 v18)))]
def L66_4 (v18 : Int) (x0 : ByteArray) : Heap := [Option.some (Arr.mk (Ty.int IntKind.u8) (bytesOf x0) Bool.false Option.none Option.none)]
mutual
def R66 : Nat → ByteArray → List Dyn → Prop
  | 0, _, _ => False
  | n + 1, x0, ds => (if (Decidable.decide ((↑(ByteArray.size x0) : Int) < 1)) = true then (ds = [Dyn.mk Ty.bool Bool.false]) else (if (Decidable.decide ((↑(ByteArray.size x0) : Int) > 10)) = true then (ds = [Dyn.mk Ty.bool Bool.false]) else (R66_4 n (0) (x0) ds)))
def R66_4 : Nat → Int → ByteArray → List Dyn → Prop
  | 0, _, _, _ => False
  | n + 1, v18, x0, ds => (if (Decidable.decide (v18 < (↑(List.length (bytesOf x0)) : Int))) = true then ((0 ≤ v18) ∧ (v18 < (↑(List.length (bytesOf x0)) : Int)) ∧ (if (Decidable.decide (List.getD (bytesOf x0) (Int.toNat v18) 0 ≥ 97)) = true then (if (Decidable.decide (List.getD (bytesOf x0) (Int.toNat v18) 0 ≥ 48)) = true then (if (!Decidable.decide (List.getD (bytesOf x0) (Int.toNat v18) 0 ≤ 122)) = true then (if (v18 == 0) = true then (ds = [Dyn.mk Ty.bool Bool.false]) else (if (!Decidable.decide (List.getD (bytesOf x0) (Int.toNat v18) 0 ≤ 57)) = true then (ds = [Dyn.mk Ty.bool Bool.false]) else ((InR IntKind.i64 (v18 + 1)) ∧ (R66_4 n (v18 + 1) (x0) ds)))) else ((InR IntKind.i64 (v18 + 1)) ∧ (R66_4 n (v18 + 1) (x0) ds))) else (if (!Decidable.decide (List.getD (bytesOf x0) (Int.toNat v18) 0 ≤ 122)) = true then (if (v18 == 0) = true then (ds = [Dyn.mk Ty.bool Bool.false]) else (ds = [Dyn.mk Ty.bool Bool.false])) else ((InR IntKind.i64 (v18 + 1)) ∧ (R66_4 n (v18 + 1) (x0) ds)))) else (if (Decidable.decide (List.getD (bytesOf x0) (Int.toNat v18) 0 ≥ 48)) = true then (if (v18 == 0) = true then (ds = [Dyn.mk Ty.bool Bool.false]) else (if (!Decidable.decide (List.getD (bytesOf x0) (Int.toNat v18) 0 ≤ 57)) = true then (ds = [Dyn.mk Ty.bool Bool.false]) else ((InR IntKind.i64 (v18 + 1)) ∧ (R66_4 n (v18 + 1) (x0) ds)))) else (if (v18 == 0) = true then (ds = [Dyn.mk Ty.bool Bool.false]) else (ds = [Dyn.mk Ty.bool Bool.false]))))) else (ds = [Dyn.mk Ty.bool Bool.true]))
end
theorem snd66 : ∀ n, (∀ (x0 : ByteArray) ds, R66 n x0 ds → ∀ K q, AtV Tryz.prog 66 (PostR kds66 oks66 ds [] [] q K) 46 K q [] [.code b66] (entE 0 0 sig66 (x0, ())) (entL sig66 (x0, ()))) ∧ (∀ (v18 : Int) (x0 : ByteArray) ds, R66_4 n v18 x0 ds → ∀ K q, AtV Tryz.prog 66 (PostR kds66 oks66 ds [] [] q K) 46 K q [] (cutAt b66 4) (E66_4 v18 x0) (L66_4 v18 x0)) := by
  intro n
  induction n with
  | zero => exact ⟨fun _ _ h => by simp only [R66] at h, fun _ _ _ h => by simp only [R66_4] at h⟩
  | succ n ih =>
  obtain ⟨ih, ih4⟩ := ih
  refine ⟨?_, ?_⟩
  · intro x0 ds h K q
    rw [R66] at h
    by_cases b0 : (Decidable.decide ((↑(ByteArray.size x0) : Int) < 1)) = true
    · rw [if_pos b0] at h
      subst h
      exact AtV.ret Tryz.func66 tabOk ext66Ok mixed false [] tys66 [true, true] (a1 b0 (a1 (rfl : Bool.true = Bool.true) trivial)) (by kernel_rfl)
    · rw [if_neg b0] at h
      replace b0 := Bool.eq_false_iff.2 b0
      by_cases b1 : (Decidable.decide ((↑(ByteArray.size x0) : Int) > 10)) = true
      · rw [if_pos b1] at h
        subst h
        exact AtV.ret Tryz.func66 tabOk ext66Ok mixed false [] tys66 [false, true] (a1 b0 (a1 b1 trivial)) (by kernel_rfl)
      · rw [if_neg b1] at h
        replace b1 := Bool.eq_false_iff.2 b1
        exact AtV.go tabOk ext66Ok mixed false [] [] [16, 17, 18] [0] [false, false] (a1 b0 (a1 b1 trivial)) (ih4 _ _ _ h K q) (by kernel_rfl)

  · intro v18 x0 ds h K q
    rw [R66_4] at h
    by_cases b0 : (Decidable.decide (v18 < (↑(List.length (bytesOf x0)) : Int))) = true
    · rw [if_pos b0] at h
      obtain ⟨s0, s1, h⟩ := h
      by_cases b1 : (Decidable.decide (List.getD (bytesOf x0) (Int.toNat v18) 0 ≥ 97)) = true
      · rw [if_pos b1] at h
        by_cases b2 : (Decidable.decide (List.getD (bytesOf x0) (Int.toNat v18) 0 ≥ 48)) = true
        · rw [if_pos b2] at h
          by_cases b3 : (!Decidable.decide (List.getD (bytesOf x0) (Int.toNat v18) 0 ≤ 122)) = true
          · rw [if_pos b3] at h
            by_cases b4 : (v18 == 0) = true
            · rw [if_pos b4] at h
              subst h
              exact AtV.ret Tryz.func66 tabOk ext66Ok mixed false [] tys66 [true, true, true, true, true, true] (a1 b0 (a1 s0 (a1 s1 (a1 b1 (a1 b2 (a1 b3 (a1 b4 (a1 (rfl : Bool.true = Bool.true) trivial)))))))) (by kernel_rfl)
            · rw [if_neg b4] at h
              replace b4 := Bool.eq_false_iff.2 b4
              by_cases b5 : (!Decidable.decide (List.getD (bytesOf x0) (Int.toNat v18) 0 ≤ 57)) = true
              · rw [if_pos b5] at h
                subst h
                exact AtV.ret Tryz.func66 tabOk ext66Ok mixed false [] tys66 [true, true, true, true, false, true] (a1 b0 (a1 s0 (a1 s1 (a1 b1 (a1 b2 (a1 b3 (a1 b4 (a1 b5 trivial)))))))) (by kernel_rfl)
              · rw [if_neg b5] at h
                replace b5 := Bool.eq_false_iff.2 b5
                obtain ⟨s2, h⟩ := h
                exact AtV.go tabOk ext66Ok mixed false [] [] [16, 17, 18] [0] [true, true, true, true, false, false] (a1 b0 (a1 s0 (a1 s1 (a1 b1 (a1 b2 (a1 b3 (a1 b4 (a1 b5 (a1 s2 trivial))))))))) (ih4 _ _ _ h K q) (by kernel_rfl)
          · rw [if_neg b3] at h
            replace b3 := Bool.eq_false_iff.2 b3
            obtain ⟨s2, h⟩ := h
            exact AtV.go tabOk ext66Ok mixed false [] [] [16, 17, 18] [0] [true, true, true, false, false] (a1 b0 (a1 s0 (a1 s1 (a1 b1 (a1 b2 (a1 b3 (a1 (rfl : Bool.false = Bool.false) (a1 s2 trivial)))))))) (ih4 _ _ _ h K q) (by kernel_rfl)
        · rw [if_neg b2] at h
          replace b2 := Bool.eq_false_iff.2 b2
          by_cases b3 : (!Decidable.decide (List.getD (bytesOf x0) (Int.toNat v18) 0 ≤ 122)) = true
          · rw [if_pos b3] at h
            by_cases b4 : (v18 == 0) = true
            · rw [if_pos b4] at h
              subst h
              exact AtV.ret Tryz.func66 tabOk ext66Ok mixed false [] tys66 [true, true, false, true, true, true] (a1 b0 (a1 s0 (a1 s1 (a1 b1 (a1 b2 (a1 b3 (a1 b4 (a1 (rfl : Bool.true = Bool.true) trivial)))))))) (by kernel_rfl)
            · rw [if_neg b4] at h
              replace b4 := Bool.eq_false_iff.2 b4
              subst h
              exact AtV.ret Tryz.func66 tabOk ext66Ok mixed false [] tys66 [true, true, false, true, false, true] (a1 b0 (a1 s0 (a1 s1 (a1 b1 (a1 b2 (a1 b3 (a1 b4 (a1 (rfl : Bool.true = Bool.true) trivial)))))))) (by kernel_rfl)
          · rw [if_neg b3] at h
            replace b3 := Bool.eq_false_iff.2 b3
            obtain ⟨s2, h⟩ := h
            exact AtV.go tabOk ext66Ok mixed false [] [] [16, 17, 18] [0] [true, true, false, false, false] (a1 b0 (a1 s0 (a1 s1 (a1 b1 (a1 b2 (a1 b3 (a1 (rfl : Bool.false = Bool.false) (a1 s2 trivial)))))))) (ih4 _ _ _ h K q) (by kernel_rfl)
      · rw [if_neg b1] at h
        replace b1 := Bool.eq_false_iff.2 b1
        by_cases b2 : (Decidable.decide (List.getD (bytesOf x0) (Int.toNat v18) 0 ≥ 48)) = true
        · rw [if_pos b2] at h
          by_cases b3 : (v18 == 0) = true
          · rw [if_pos b3] at h
            subst h
            exact AtV.ret Tryz.func66 tabOk ext66Ok mixed false [] tys66 [true, false, true, true, true, true] (a1 b0 (a1 s0 (a1 s1 (a1 b1 (a1 b2 (a1 (rfl : Bool.true = Bool.true) (a1 b3 (a1 (rfl : Bool.true = Bool.true) trivial)))))))) (by kernel_rfl)
          · rw [if_neg b3] at h
            replace b3 := Bool.eq_false_iff.2 b3
            by_cases b4 : (!Decidable.decide (List.getD (bytesOf x0) (Int.toNat v18) 0 ≤ 57)) = true
            · rw [if_pos b4] at h
              subst h
              exact AtV.ret Tryz.func66 tabOk ext66Ok mixed false [] tys66 [true, false, true, true, false, true] (a1 b0 (a1 s0 (a1 s1 (a1 b1 (a1 b2 (a1 (rfl : Bool.true = Bool.true) (a1 b3 (a1 b4 trivial)))))))) (by kernel_rfl)
            · rw [if_neg b4] at h
              replace b4 := Bool.eq_false_iff.2 b4
              obtain ⟨s2, h⟩ := h
              exact AtV.go tabOk ext66Ok mixed false [] [] [16, 17, 18] [0] [true, false, true, true, false, false] (a1 b0 (a1 s0 (a1 s1 (a1 b1 (a1 b2 (a1 (rfl : Bool.true = Bool.true) (a1 b3 (a1 b4 (a1 s2 trivial))))))))) (ih4 _ _ _ h K q) (by kernel_rfl)
        · rw [if_neg b2] at h
          replace b2 := Bool.eq_false_iff.2 b2
          by_cases b3 : (v18 == 0) = true
          · rw [if_pos b3] at h
            subst h
            exact AtV.ret Tryz.func66 tabOk ext66Ok mixed false [] tys66 [true, false, false, true, true, true] (a1 b0 (a1 s0 (a1 s1 (a1 b1 (a1 b2 (a1 (rfl : Bool.true = Bool.true) (a1 b3 (a1 (rfl : Bool.true = Bool.true) trivial)))))))) (by kernel_rfl)
          · rw [if_neg b3] at h
            replace b3 := Bool.eq_false_iff.2 b3
            subst h
            exact AtV.ret Tryz.func66 tabOk ext66Ok mixed false [] tys66 [true, false, false, true, false, true] (a1 b0 (a1 s0 (a1 s1 (a1 b1 (a1 b2 (a1 (rfl : Bool.true = Bool.true) (a1 b3 (a1 (rfl : Bool.true = Bool.true) trivial)))))))) (by kernel_rfl)
    · rw [if_neg b0] at h
      replace b0 := Bool.eq_false_iff.2 b0
      subst h
      exact AtV.ret Tryz.func66 tabOk ext66Ok mixed false [] tys66 [false] (a1 b0 trivial) (by kernel_rfl)



def ok66 (i : Nat) (b : Int) : Bool := (decide (97 ≤ b) && decide (b ≤ 122)) || (!(i == 0) && (decide (48 ≤ b) && decide (b ≤ 57)))
def g66_0 (x0 : ByteArray) : Bool := decide (1 ≤ x0.size) && decide (x0.size ≤ 10) && allI ok66 0 (bytesOf x0)
def P66 (x0 : ByteArray) : Prop := True

theorem step66 (n i : Nat) (x0 : ByteArray) (hw : Wf .str x0) (hi : i < (bytesOf x0).length) (ds : List Dyn) :
    R66_4 (n + 1) (i : Int) x0 ds ↔ (if ok66 i ((bytesOf x0).getD i 0) = true then R66_4 n ((i : Int) + 1) x0 ds else ds = [⟨.bool, false⟩]) := by
  have hu := inR_up (xs := bytesOf x0) (by rw [bytesOf_length]; exact hw) hi
  rw [R66_4, if_pos (by simp; omega)]
  simp only [Int.toNat_natCast]
  have hb : (0 : Int) ≤ (i : Int) ∧ (i : Int) < ((bytesOf x0).length : Int) := by omega
  have hz : ((i : Int) == 0) = (i == 0) := by
    cases i with
    | zero => rfl
    | succ k => simp; omega
  simp only [hz, ok66, hu, true_and, hb.1, hb.2, ge_iff_le]
  by_cases h1 : (97 : Int) ≤ (bytesOf x0).getD i 0 <;> by_cases h2 : (bytesOf x0).getD i 0 ≤ 122 <;> by_cases h3 : (48 : Int) ≤ (bytesOf x0).getD i 0 <;> by_cases h4 : (bytesOf x0).getD i 0 ≤ 57 <;> rcases Bool.eq_false_or_eq_true (i == 0) with e0 | e0 <;> first | (exfalso; omega) | simp only [h1, h2, h3, h4, e0, decide_true, decide_false, Bool.not_true, Bool.not_false, Bool.true_and, Bool.false_and, Bool.and_true, Bool.and_false, Bool.true_or, Bool.or_true, Bool.or_false, Bool.false_or, if_true, if_false, Bool.false_eq_true]

theorem top66 (x0 : ByteArray) (hw : Wf .str x0) : R66 (x0.size + 1 + 1) x0 [⟨.bool, g66_0 x0⟩] := by
  have hl := bytesOf_length x0
  rw [R66]
  by_cases h0 : (x0.size : Int) < 1
  · rw [if_pos (by simpa using h0)]
    have : ¬ 1 ≤ x0.size := by omega
    simp [g66_0, this]
  · rw [if_neg (by simpa using h0)]
    by_cases h1 : (x0.size : Int) > 10
    · rw [if_pos (by simpa using h1)]
      have : ¬ x0.size ≤ 10 := by omega
      simp [g66_0, this]
    · rw [if_neg (by simpa using h1)]
      have key := loop_testI (bytesOf x0) 0 ok66 [(⟨.bool, false⟩ : Dyn)] [⟨.bool, true⟩] (fun n i ds => R66_4 n i x0 ds) (fun n => ?_) (fun n i hi hok ds hr => ?_) (fun n i hi hok => ?_)
      · rw [hl] at key
        have e : g66_0 x0 = allI ok66 0 (bytesOf x0) := by
          have a : 1 ≤ x0.size := by omega
          have b : x0.size ≤ 10 := by omega
          simp [g66_0, a, b]
        rw [e]
        cases h : allI ok66 0 (bytesOf x0) with
        | true => rw [if_pos h] at key; exact key
        | false => rw [if_neg (by rw [h]; simp)] at key; exact key
      · show R66_4 (n + 1) ((bytesOf x0).length : Int) x0 _
        rw [R66_4, if_neg (by simp)]
      · exact (step66 n i x0 hw hi ds).2 (by rw [if_pos hok]; exact hr)
      · exact (step66 n i x0 hw hi _).2 (by rw [if_neg (by rw [hok]; simp)])

def S66 : Am.Spec := { sig := sig66, pre := fun ⟨x0, _⟩ => P66 x0, res := fun ⟨x0, _⟩ => [⟨Ty.bool, g66_0 x0⟩] }
theorem con66 : Contract Tryz.prog 66 S66 := contract_of Tryz.func66 hb66 (Nat.le_of_ble_eq_true (by kernel_rfl)) (fun ⟨x0, _⟩ h hwf K q =>
  (snd66 _).1 x0 _ (top66 x0 hwf.1) K q)

end
end Go.Proofs.YtmbkjhbindikkaaGreatDoor

/- Function 40 (impl.within): its runs between cut points. Written by a program of this repo (gen). -/
set_option linter.unusedVariables false
set_option linter.unusedSimpArgs false
set_option maxRecDepth 100000
namespace Go.Proofs.YtmbkjhbindikkaaGreatDoor
open Go Go.Am Go.Proofs
noncomputable section
def ext40 : Ext := []
theorem ext40Ok : ExtOk Tryz.prog ext40 := trivial

noncomputable def b40 : Code := bodyOf Tryz.f40
theorem hb40 : Tryz.f40.body = some b40 := by kernel_rfl
def sig40 : List AT := [AT.v (Ty.int IntKind.i64), AT.v (Ty.int IntKind.i64), AT.v (Ty.int IntKind.i64)]
def tys40 : List Ty := [Ty.bool]
def kds40 : List RK := []
def oks40 : List AT := owns sig40
def P40 (x0 : Int) (x1 : Int) (x2 : Int) : Prop := True
def g40_0 (x0 : Int) (x1 : Int) (x2 : Int) : Bool := (if (Decidable.decide (x0 ≥ x1)) = true then Decidable.decide (x0 ≤ x2) else Bool.false)
theorem at40 (x0 : Int) (x1 : Int) (x2 : Int) (h : P40 x0 x1 x2) (K : Ctx) (q : Nat → Value) : AtV Tryz.prog 40 (PostR kds40 oks40 [⟨Ty.bool, g40_0 x0 x1 x2⟩] [] [] q K) 15 K q [] [.code b40] (entE 0 0 sig40 (x0, x1, x2, ())) (entL sig40 (x0, x1, x2, ())) := by
  unfold P40 at h
  unfold g40_0
  by_cases b0 : (Decidable.decide (x0 ≥ x1)) = true
  · try simp only [if_pos b0] at h ⊢
    exact AtV.ret Tryz.func40 tabOk ext40Ok mixed false [] tys40 [true] (a1 b0 trivial) (by kernel_rfl)
  · try simp only [if_neg b0] at h ⊢
    replace b0 := Bool.eq_false_iff.2 b0
    exact AtV.ret Tryz.func40 tabOk ext40Ok mixed false [] tys40 [false] (a1 b0 trivial) (by kernel_rfl)

def S40 : Am.Spec := { sig := sig40, pre := fun ⟨x0, x1, x2, _⟩ => P40 x0 x1 x2, res := fun ⟨x0, x1, x2, _⟩ => [⟨Ty.bool, g40_0 x0 x1 x2⟩], kds := kds40 }
theorem con40 : Contract Tryz.prog 40 S40 := contract_of Tryz.func40 hb40 (Nat.le_of_ble_eq_true (by kernel_rfl)) (fun ⟨x0, x1, x2, _⟩ h _ K q => at40 x0 x1 x2 h K q)


end
end Go.Proofs.YtmbkjhbindikkaaGreatDoor

/- Function 39 (impl.validFare): its runs between cut points. Written by a program of this repo (gen). -/
set_option linter.unusedVariables false
set_option linter.unusedSimpArgs false
set_option maxRecDepth 100000
namespace Go.Proofs.YtmbkjhbindikkaaGreatDoor
open Go Go.Am Go.Proofs
noncomputable section
def ext39 : Ext := [(66, S66), (40, S40)]
theorem call39_66 : Callable Tryz.prog 66 := ⟨Tryz.f66, Tryz.func66, by kernel_rfl, by kernel_rfl⟩
theorem call39_40 : Callable Tryz.prog 40 := ⟨Tryz.f40, Tryz.func40, by kernel_rfl, by kernel_rfl⟩
theorem ext39Ok : ExtOk Tryz.prog ext39 := ⟨⟨call39_66, con66⟩, ⟨call39_40, con40⟩, trivial⟩

noncomputable def b39 : Code := bodyOf Tryz.f39
theorem hb39 : Tryz.f39.body = some b39 := by kernel_rfl
def sig39 : List AT := [AT.v (Ty.cons Ty.str (Ty.cons (Ty.int IntKind.i64) (Ty.cons (Ty.int IntKind.i64) (Ty.cons (Ty.int IntKind.i64) Ty.unit))))]
def tys39 : List Ty := [Ty.bool]
def kds39 : List RK := []
def oks39 : List AT := owns sig39
def P39 (x0 : ByteArray × Int × Int × Int × Unit) : Prop := True
def g39_0 (x0 : ByteArray × Int × Int × Int × Unit) : Bool := (if (g66_0 (Prod.fst x0)) = true then (if (g40_0 (Prod.fst (Prod.snd x0)) 0 100000) = true then (if (g40_0 (Prod.fst (Prod.snd (Prod.snd x0))) 1 1000) = true then g40_0 (Prod.fst (Prod.snd (Prod.snd (Prod.snd x0)))) 1 400 else Bool.false) else Bool.false) else Bool.false)
theorem at39 (x0 : ByteArray × Int × Int × Int × Unit) (h : P39 x0) (K : Ctx) (q : Nat → Value) : AtV Tryz.prog 39 (PostR kds39 oks39 [⟨Ty.bool, g39_0 x0⟩] [] [] q K) 21 K q [] [.code b39] (entE 0 0 sig39 (x0, ())) (entL sig39 (x0, ())) := by
  unfold P39 at h
  unfold g39_0
  by_cases b0 : (g66_0 (Prod.fst x0)) = true
  · try simp only [if_pos b0] at h ⊢
    by_cases b1 : (g40_0 (Prod.fst (Prod.snd x0)) 0 100000) = true
    · try simp only [if_pos b1] at h ⊢
      by_cases b2 : (g40_0 (Prod.fst (Prod.snd (Prod.snd x0))) 1 1000) = true
      · try simp only [if_pos b2] at h ⊢
        exact AtV.ret Tryz.func39 tabOk ext39Ok mixed false [] tys39 [true, true, true] (a1 trivial (a1 b0 (a1 trivial (a1 b1 (a1 trivial (a1 b2 (a1 trivial trivial))))))) (by kernel_rfl)
      · try simp only [if_neg b2] at h ⊢
        replace b2 := Bool.eq_false_iff.2 b2
        exact AtV.ret Tryz.func39 tabOk ext39Ok mixed false [] tys39 [true, true, false] (a1 trivial (a1 b0 (a1 trivial (a1 b1 (a1 trivial (a1 b2 trivial)))))) (by kernel_rfl)
    · try simp only [if_neg b1] at h ⊢
      replace b1 := Bool.eq_false_iff.2 b1
      exact AtV.ret Tryz.func39 tabOk ext39Ok mixed false [] tys39 [true, false, false] (a1 trivial (a1 b0 (a1 trivial (a1 b1 (a1 (rfl : Bool.false = Bool.false) trivial))))) (by kernel_rfl)
  · try simp only [if_neg b0] at h ⊢
    replace b0 := Bool.eq_false_iff.2 b0
    exact AtV.ret Tryz.func39 tabOk ext39Ok mixed false [] tys39 [false, false, false] (a1 trivial (a1 b0 (a1 (rfl : Bool.false = Bool.false) (a1 (rfl : Bool.false = Bool.false) trivial)))) (by kernel_rfl)

def S39 : Am.Spec := { sig := sig39, pre := fun ⟨x0, _⟩ => P39 x0, res := fun ⟨x0, _⟩ => [⟨Ty.bool, g39_0 x0⟩], kds := kds39 }
theorem con39 : Contract Tryz.prog 39 S39 := contract_of Tryz.func39 hb39 (Nat.le_of_ble_eq_true (by kernel_rfl)) (fun ⟨x0, _⟩ h _ K q => at39 x0 h K q)


end
end Go.Proofs.YtmbkjhbindikkaaGreatDoor

/- Function 18 (impl.ValidFares): its runs between cut points. Written by a program of this repo (gen). -/
set_option linter.unusedVariables false
set_option linter.unusedSimpArgs false
set_option maxRecDepth 100000
namespace Go.Proofs.YtmbkjhbindikkaaGreatDoor
open Go Go.Am Go.Proofs
noncomputable section
def ext18 : Ext := [(39, S39)]
theorem call18_39 : Callable Tryz.prog 39 := ⟨Tryz.f39, Tryz.func39, by kernel_rfl, by kernel_rfl⟩
theorem ext18Ok : ExtOk Tryz.prog ext18 := ⟨⟨call18_39, con39⟩, trivial⟩

noncomputable def b18 : Code := bodyOf Tryz.f18
theorem hb18 : Tryz.f18.body = some b18 := by kernel_rfl
def sig18 : List AT := [AT.v (Ty.sl (Ty.cons Ty.str (Ty.cons (Ty.int IntKind.i64) (Ty.cons (Ty.int IntKind.i64) (Ty.cons (Ty.int IntKind.i64) Ty.unit)))))]
def tys18 : List Ty := [Ty.bool]
def kds18 : List RK := []
def oks18 : List AT := owns sig18
def E18_2 (v7 : Int) (x0 : List (ByteArray × Int × Int × Int × Unit)) : Env := [(0, PV.a (Atom.sl (Ty.cons Ty.str (Ty.cons (Ty.int IntKind.i64) (Ty.cons (Ty.int IntKind.i64) (Ty.cons (Ty.int IntKind.i64) Ty.unit)))) x0)), (5, PV.a (Atom.sl (Ty.cons Ty.str (Ty.cons (Ty.int IntKind.i64) (Ty.cons (Ty.int IntKind.i64) (Ty.cons (Ty.int IntKind.i64) Ty.unit)))) x0)), (6, PV.a (Atom.val (Value.int IntKind.i64 (↑(List.length x0) : Int)))), (7, PV.a (Atom.val (Value.int IntKind.i64 v7)))]
def L18_2 (v7 : Int) (x0 : List (ByteArray × Int × Int × Int × Unit)) : Heap := []
mutual
def R18 : Nat → List (ByteArray × Int × Int × Int × Unit) → List Dyn → Prop
  | 0, _, _ => False
  | n + 1, x0, ds => (R18_2 n (0) (x0) ds)
def R18_2 : Nat → Int → List (ByteArray × Int × Int × Int × Unit) → List Dyn → Prop
  | 0, _, _, _ => False
  | n + 1, v7, x0, ds => (if (Decidable.decide (v7 < (↑(List.length x0) : Int))) = true then ((0 ≤ v7) ∧ (v7 < (↑(List.length x0) : Int)) ∧ (if (!g39_0 (List.getD x0 (Int.toNat v7) (ByteArray.empty, 0, 0, 0, ()))) = true then (ds = [Dyn.mk Ty.bool Bool.false]) else (if (Decidable.decide (v7 > 0)) = true then ((InR IntKind.i64 (v7 - 1)) ∧ ((0 ≤ v7 - 1) ∧ (v7 - 1 < (↑(List.length x0) : Int)) ∧ (if (Op.bytesLess (ByteArray.toList (Prod.fst (List.getD x0 (Int.toNat v7) (ByteArray.empty, 0, 0, 0, ())))) (ByteArray.toList (Prod.fst (List.getD x0 (Int.toNat (v7 - 1)) (ByteArray.empty, 0, 0, 0, ())))) || ByteArray.toList (Prod.fst (List.getD x0 (Int.toNat v7) (ByteArray.empty, 0, 0, 0, ()))) == ByteArray.toList (Prod.fst (List.getD x0 (Int.toNat (v7 - 1)) (ByteArray.empty, 0, 0, 0, ())))) = true then (ds = [Dyn.mk Ty.bool Bool.false]) else ((InR IntKind.i64 (v7 + 1)) ∧ (R18_2 n (v7 + 1) (x0) ds))))) else ((InR IntKind.i64 (v7 + 1)) ∧ (R18_2 n (v7 + 1) (x0) ds))))) else (ds = [Dyn.mk Ty.bool (Decidable.decide ((↑(List.length x0) : Int) ≤ 8))]))
end
theorem snd18 : ∀ n, (∀ (x0 : List (ByteArray × Int × Int × Int × Unit)) ds, R18 n x0 ds → ∀ K q, AtV Tryz.prog 18 (PostR kds18 oks18 ds [] [] q K) 34 K q [] [.code b18] (entE 0 0 sig18 (x0, ())) (entL sig18 (x0, ()))) ∧ (∀ (v7 : Int) (x0 : List (ByteArray × Int × Int × Int × Unit)) ds, R18_2 n v7 x0 ds → ∀ K q, AtV Tryz.prog 18 (PostR kds18 oks18 ds [] [] q K) 34 K q [] (cutAt b18 2) (E18_2 v7 x0) (L18_2 v7 x0)) := by
  intro n
  induction n with
  | zero => exact ⟨fun _ _ h => by simp only [R18] at h, fun _ _ _ h => by simp only [R18_2] at h⟩
  | succ n ih =>
  obtain ⟨ih, ih2⟩ := ih
  refine ⟨?_, ?_⟩
  · intro x0 ds h K q
    rw [R18] at h
    exact AtV.go tabOk ext18Ok mixed false [] [] [0, 5, 6, 7] [] [] trivial (ih2 _ _ _ h K q) (by kernel_rfl)

  · intro v7 x0 ds h K q
    rw [R18_2] at h
    by_cases b0 : (Decidable.decide (v7 < (↑(List.length x0) : Int))) = true
    · rw [if_pos b0] at h
      obtain ⟨s0, s1, h⟩ := h
      by_cases b1 : (!g39_0 (List.getD x0 (Int.toNat v7) (ByteArray.empty, 0, 0, 0, ()))) = true
      · rw [if_pos b1] at h
        subst h
        exact AtV.ret Tryz.func18 tabOk ext18Ok mixed false [] tys18 [true, true, true] (a1 b0 (a1 s0 (a1 s1 (a1 trivial (a1 b1 (a1 (rfl : Bool.true = Bool.true) trivial)))))) (by kernel_rfl)
      · rw [if_neg b1] at h
        replace b1 := Bool.eq_false_iff.2 b1
        by_cases b2 : (Decidable.decide (v7 > 0)) = true
        · rw [if_pos b2] at h
          obtain ⟨s2, h⟩ := h
          obtain ⟨s3, s4, h⟩ := h
          by_cases b3 : (Op.bytesLess (ByteArray.toList (Prod.fst (List.getD x0 (Int.toNat v7) (ByteArray.empty, 0, 0, 0, ())))) (ByteArray.toList (Prod.fst (List.getD x0 (Int.toNat (v7 - 1)) (ByteArray.empty, 0, 0, 0, ())))) || ByteArray.toList (Prod.fst (List.getD x0 (Int.toNat v7) (ByteArray.empty, 0, 0, 0, ()))) == ByteArray.toList (Prod.fst (List.getD x0 (Int.toNat (v7 - 1)) (ByteArray.empty, 0, 0, 0, ())))) = true
          · rw [if_pos b3] at h
            subst h
            exact AtV.ret Tryz.func18 tabOk ext18Ok mixed false [] tys18 [true, false, true, true] (a1 b0 (a1 s0 (a1 s1 (a1 trivial (a1 b1 (a1 b2 (a1 s2 (a1 s3 (a1 s4 (a1 b3 trivial)))))))))) (by kernel_rfl)
          · rw [if_neg b3] at h
            replace b3 := Bool.eq_false_iff.2 b3
            obtain ⟨s5, h⟩ := h
            exact AtV.go tabOk ext18Ok mixed false [] [] [0, 5, 6, 7] [] [true, false, true, false] (a1 b0 (a1 s0 (a1 s1 (a1 trivial (a1 b1 (a1 b2 (a1 s2 (a1 s3 (a1 s4 (a1 b3 (a1 s5 trivial))))))))))) (ih2 _ _ _ h K q) (by kernel_rfl)
        · rw [if_neg b2] at h
          replace b2 := Bool.eq_false_iff.2 b2
          obtain ⟨s2, h⟩ := h
          exact AtV.go tabOk ext18Ok mixed false [] [] [0, 5, 6, 7] [] [true, false, false, false] (a1 b0 (a1 s0 (a1 s1 (a1 trivial (a1 b1 (a1 b2 (a1 (rfl : Bool.false = Bool.false) (a1 s2 trivial)))))))) (ih2 _ _ _ h K q) (by kernel_rfl)
    · rw [if_neg b0] at h
      replace b0 := Bool.eq_false_iff.2 b0
      subst h
      exact AtV.ret Tryz.func18 tabOk ext18Ok mixed false [] tys18 [false] (a1 b0 trivial) (by kernel_rfl)



def ok18 (x0 : List (ByteArray × Int × Int × Int × Unit)) (i : Nat) (x : (ByteArray × Int × Int × Int × Unit)) : Bool :=
  g39_0 x && (i == 0 || !(Op.bytesLess (ByteArray.toList x.1) (ByteArray.toList (x0.getD (i - 1) (ByteArray.empty, (0 : Int), (0 : Int), (0 : Int), ())).1) || ByteArray.toList x.1 == ByteArray.toList (x0.getD (i - 1) (ByteArray.empty, (0 : Int), (0 : Int), (0 : Int), ())).1))
def g18_0 (x0 : List (ByteArray × Int × Int × Int × Unit)) : Bool := allI (ok18 x0) 0 x0 && decide (x0.length ≤ 8)
def P18 (x0 : List (ByteArray × Int × Int × Int × Unit)) : Prop := True

theorem step18 (n i : Nat) (x0 : List (ByteArray × Int × Int × Int × Unit)) (hm : x0.length ≤ maxLen) (hi : i < x0.length) (ds : List Dyn) :
    (if ok18 x0 i (x0.getD i (ByteArray.empty, (0 : Int), (0 : Int), (0 : Int), ())) = true then R18_2 n ((i : Int) + 1) x0 ds else ds = [⟨.bool, false⟩]) → R18_2 (n + 1) (i : Int) x0 ds := by
  intro h
  have hu := inR_up hm hi
  rw [R18_2, if_pos (by simp; omega)]
  refine ⟨by omega, by omega, ?_⟩
  simp only [Int.toNat_natCast]
  unfold ok18 at h
  by_cases h1 : g39_0 (x0.getD i (ByteArray.empty, (0 : Int), (0 : Int), (0 : Int), ())) = true
  case neg =>
    have h1 := Bool.eq_false_iff.2 h1
    rw [h1] at h
    rw [if_pos (by rw [h1]; rfl)]
    simpa using h
  case pos =>
    rw [h1] at h
    rw [if_neg (by rw [h1]; simp)]
    by_cases h0 : (i : Int) > 0
    · rw [if_pos (by simpa using h0)]
      have hi0 : (i == 0) = false := by simp; omega
      have e : ((i : Int) - 1).toNat = i - 1 := by omega
      refine ⟨by rw [i64_iff]; have : maxLen ≤ 9223372036854775807 := by decide
                 omega, by omega, by omega, ?_⟩
      rw [e]
      by_cases h2 : (Op.bytesLess (ByteArray.toList (x0.getD i (ByteArray.empty, (0 : Int), (0 : Int), (0 : Int), ())).1) (ByteArray.toList (x0.getD (i - 1) (ByteArray.empty, (0 : Int), (0 : Int), (0 : Int), ())).1) || ByteArray.toList (x0.getD i (ByteArray.empty, (0 : Int), (0 : Int), (0 : Int), ())).1 == ByteArray.toList (x0.getD (i - 1) (ByteArray.empty, (0 : Int), (0 : Int), (0 : Int), ())).1) = true
      · rw [if_pos h2]
        rw [hi0, h2] at h
        simpa using h
      · rw [if_neg h2]
        rw [hi0, Bool.eq_false_iff.2 h2] at h
        exact ⟨hu, by simpa using h⟩
    · rw [if_neg (by simpa using h0)]
      have hi0 : (i == 0) = true := by simp; omega
      rw [hi0] at h
      exact ⟨hu, by simpa using h⟩

theorem top18 (x0 : List (ByteArray × Int × Int × Int × Unit)) (hw : x0.length ≤ maxLen) : R18 (x0.length + 1 + 1) x0 [⟨.bool, g18_0 x0⟩] := by
  rw [R18]
  have key := loop_testI x0 (ByteArray.empty, (0 : Int), (0 : Int), (0 : Int), ()) (ok18 x0) [(⟨.bool, false⟩ : Dyn)] [⟨.bool, decide (x0.length ≤ 8)⟩] (fun n i ds => R18_2 n i x0 ds) (fun n => ?_) (fun n i hi hok ds hr => ?_) (fun n i hi hok => ?_)
  · unfold g18_0
    cases h : allI (ok18 x0) 0 x0 with
    | true => rw [if_pos h] at key; simpa using key
    | false => rw [if_neg (by rw [h]; simp)] at key; simpa using key
  · rw [R18_2, if_neg (by simp)]
    have hc : decide ((x0.length : Int) ≤ 8) = decide (x0.length ≤ 8) := by
      congr 1; exact propext ⟨fun h => by omega, fun h => by omega⟩
    rw [hc]
  · exact step18 n i x0 hw hi ds (by rw [if_pos hok]; exact hr)
  · exact step18 n i x0 hw hi _ (by rw [if_neg (by rw [hok]; simp)])

def S18 : Am.Spec := { sig := sig18, pre := fun ⟨x0, _⟩ => P18 x0, res := fun ⟨x0, _⟩ => [⟨Ty.bool, g18_0 x0⟩] }
theorem con18 : Contract Tryz.prog 18 S18 := contract_of Tryz.func18 hb18 (Nat.le_of_ble_eq_true (by kernel_rfl)) (fun ⟨x0, _⟩ h hwf K q =>
  (snd18 _).1 x0 _ (top18 x0 hwf.1.1) K q)

end
end Go.Proofs.YtmbkjhbindikkaaGreatDoor

/- Function 41 (impl.abs): its runs between cut points. Written by a program of this repo (gen). -/
set_option linter.unusedVariables false
set_option linter.unusedSimpArgs false
set_option maxRecDepth 100000
namespace Go.Proofs.YtmbkjhbindikkaaGreatDoor
open Go Go.Am Go.Proofs
noncomputable section
def ext41 : Ext := []
theorem ext41Ok : ExtOk Tryz.prog ext41 := trivial

noncomputable def b41 : Code := bodyOf Tryz.f41
theorem hb41 : Tryz.f41.body = some b41 := by kernel_rfl
def sig41 : List AT := [AT.v (Ty.int IntKind.i64)]
def tys41 : List Ty := [Ty.int IntKind.i64]
def kds41 : List RK := []
def oks41 : List AT := owns sig41
def P41 (x0 : Int) : Prop := (if (Decidable.decide (x0 < 0)) = true then ((InR IntKind.i64 (0 - x0)) ∧ True) else True)
def g41_0 (x0 : Int) : Int := (if (Decidable.decide (x0 < 0)) = true then 0 - x0 else x0)
theorem at41 (x0 : Int) (h : P41 x0) (K : Ctx) (q : Nat → Value) : AtV Tryz.prog 41 (PostR kds41 oks41 [⟨Ty.int IntKind.i64, g41_0 x0⟩] [] [] q K) 8 K q [] [.code b41] (entE 0 0 sig41 (x0, ())) (entL sig41 (x0, ())) := by
  unfold P41 at h
  unfold g41_0
  by_cases b0 : (Decidable.decide (x0 < 0)) = true
  · try simp only [if_pos b0] at h ⊢
    obtain ⟨s0, h⟩ := h
    exact AtV.ret Tryz.func41 tabOk ext41Ok mixed false [] tys41 [true] (a1 b0 (a1 s0 trivial)) (by kernel_rfl)
  · try simp only [if_neg b0] at h ⊢
    replace b0 := Bool.eq_false_iff.2 b0
    exact AtV.ret Tryz.func41 tabOk ext41Ok mixed false [] tys41 [false] (a1 b0 trivial) (by kernel_rfl)

def S41 : Am.Spec := { sig := sig41, pre := fun ⟨x0, _⟩ => P41 x0, res := fun ⟨x0, _⟩ => [⟨Ty.int IntKind.i64, g41_0 x0⟩], kds := kds41 }
theorem con41 : Contract Tryz.prog 41 S41 := contract_of Tryz.func41 hb41 (Nat.le_of_ble_eq_true (by kernel_rfl)) (fun ⟨x0, _⟩ h _ K q => at41 x0 h K q)


end
end Go.Proofs.YtmbkjhbindikkaaGreatDoor

/- The contracts of the library that this program uses, laid at this program. Written by a tool of the kit. -/
set_option linter.unusedVariables false
set_option maxRecDepth 100000
namespace Go.Proofs
open Go.Shelf
def Tryz.lays169_ren : Go.Shelf.Ren := ⟨fun | 169 => 32 | n => n, fun | 70 => 62 | 9 => 9 | 0 => 0 | 72 => 64 | 37 => 22 | 127 => 95 | 3 => 3 | 5 => 5 | n => n, fun | n => n⟩
theorem Tryz.lays169 : Go.Proofs.Lays.n169 Tryz.prog Tryz.lays169_ren := {
  mixed := by kernel_rfl
  f169 := Tryz.func32.trans (congrArg some (by kernel_rfl))
  t0 := Tryz.underlying0
  a0 := Tryz.isAgg0
  z0 := Tryz.sizeOf0
  v0 := Tryz.zeroValue0
  t3 := Tryz.underlying3
  a3 := Tryz.isAgg3
  z3 := Tryz.sizeOf3
  v3 := Tryz.zeroValue3
  t9 := Tryz.underlying9
  a9 := Tryz.isAgg9
  z9 := Tryz.sizeOf9
  v9 := Tryz.zeroValue9
  t37 := Tryz.underlying22
  a37 := Tryz.isAgg22
  z37 := Tryz.sizeOf22
  v37 := Tryz.zeroValue22
  t70 := Tryz.underlying62
  a70 := Tryz.isAgg62
  z70 := Tryz.sizeOf62
  v70 := Tryz.zeroValue62
  t72 := Tryz.underlying64
  a72 := Tryz.isAgg64
  z72 := Tryz.sizeOf64
  v72 := Tryz.zeroValue64
  t127 := Tryz.underlying95
  a127 := Tryz.isAgg95
  z127 := Tryz.sizeOf95
  v127 := Tryz.zeroValue95 }
theorem Tryz.Builder_Extra_169 : Builder.Extra Tryz.prog Tryz.lays169_ren := {
  sizeBuilder := by kernel_rfl
  liesBuilder := by kernel_rfl
  t5 := Tryz.underlying5
  a5 := Tryz.isAgg5
  z5 := Tryz.sizeOf5
  v5 := Tryz.zeroValue5
  infoByte := by kernel_rfl
  cellsByte := by kernel_rfl
  sizeByte := by kernel_rfl
  neB5 := by decide }
def Tryz.lays156_ren : Go.Shelf.Ren := ⟨fun | 156 => 49 | 165 => 74 | 166 => 31 | 169 => 32 | 240 => 64 | 241 => 106 | 276 => 97 | 277 => 125 | n => n, fun | 31 => 26 | 9 => 9 | 3 => 3 | 4 => 4 | 0 => 0 | 20 => 20 | 72 => 64 | 76 => 67 | 70 => 62 | 37 => 22 | 75 => 66 | 127 => 95 | 164 => 128 | 5 => 5 | 80 => 69 | n => n, fun | n => n⟩
theorem Tryz.lays156 : Go.Proofs.Lays.n156 Tryz.prog Tryz.lays156_ren := {
  mixed := by kernel_rfl
  f156 := Tryz.func49.trans (congrArg some (by kernel_rfl))
  f165 := Tryz.func74.trans (congrArg some (by kernel_rfl))
  f166 := Tryz.func31.trans (congrArg some (by kernel_rfl))
  f169 := Tryz.func32.trans (congrArg some (by kernel_rfl))
  f240 := Tryz.func64.trans (congrArg some (by kernel_rfl))
  f241 := Tryz.func106.trans (congrArg some (by kernel_rfl))
  f276 := Tryz.func97.trans (congrArg some (by kernel_rfl))
  f277 := Tryz.func125.trans (congrArg some (by kernel_rfl))
  t0 := Tryz.underlying0
  a0 := Tryz.isAgg0
  z0 := Tryz.sizeOf0
  v0 := Tryz.zeroValue0
  t3 := Tryz.underlying3
  a3 := Tryz.isAgg3
  z3 := Tryz.sizeOf3
  v3 := Tryz.zeroValue3
  t4 := Tryz.underlying4
  a4 := Tryz.isAgg4
  z4 := Tryz.sizeOf4
  v4 := Tryz.zeroValue4
  t9 := Tryz.underlying9
  a9 := Tryz.isAgg9
  z9 := Tryz.sizeOf9
  v9 := Tryz.zeroValue9
  t20 := Tryz.underlying20
  a20 := Tryz.isAgg20
  z20 := Tryz.sizeOf20
  v20 := Tryz.zeroValue20
  t31 := Tryz.underlying26
  a31 := Tryz.isAgg26
  z31 := Tryz.sizeOf26
  v31 := Tryz.zeroValue26
  t37 := Tryz.underlying22
  a37 := Tryz.isAgg22
  z37 := Tryz.sizeOf22
  v37 := Tryz.zeroValue22
  t70 := Tryz.underlying62
  a70 := Tryz.isAgg62
  z70 := Tryz.sizeOf62
  v70 := Tryz.zeroValue62
  t72 := Tryz.underlying64
  a72 := Tryz.isAgg64
  z72 := Tryz.sizeOf64
  v72 := Tryz.zeroValue64
  t75 := Tryz.underlying66
  a75 := Tryz.isAgg66
  z75 := Tryz.sizeOf66
  v75 := Tryz.zeroValue66
  t76 := Tryz.underlying67
  a76 := Tryz.isAgg67
  z76 := Tryz.sizeOf67
  v76 := Tryz.zeroValue67
  t127 := Tryz.underlying95
  a127 := Tryz.isAgg95
  z127 := Tryz.sizeOf95
  v127 := Tryz.zeroValue95
  t164 := Tryz.underlying128
  a164 := Tryz.isAgg128
  z164 := Tryz.sizeOf128
  v164 := Tryz.zeroValue128 }
theorem Tryz.Builder_Extra_156 : Builder.Extra Tryz.prog Tryz.lays156_ren := {
  sizeBuilder := by kernel_rfl
  liesBuilder := by kernel_rfl
  t5 := Tryz.underlying5
  a5 := Tryz.isAgg5
  z5 := Tryz.sizeOf5
  v5 := Tryz.zeroValue5
  infoByte := by kernel_rfl
  cellsByte := by kernel_rfl
  sizeByte := by kernel_rfl
  neB5 := by decide }
open Go.RowKit in theorem Tryz.strings_Join_none (a : Option Addr) (c : Nat) (sep : ByteArray) (w : World) :
    Calls Tryz.prog 49 #[.slice a 0 c, .string sep] w fun e w' => e = .returned (.string ⟨#[]⟩) ∧ w' = w := Any.strings_Join_none Tryz.lays156 Tryz.Builder_Extra_156 a c sep w
open Go.RowKit in theorem Tryz.strings_Join (bk o c : Nat) (xs : List ByteArray) (sep : ByteArray) (w : World) (hcells : ∀ (j : Nat) x, xs[j]? = some x → w.cell? ⟨bk, o + j, none⟩ = some (.string x)) (hbk : bk < w.heap.size) (hN : xs.length ≤ 140737488355328) (hcap : xs.length ≤ c) (hlen : (Lib.join (xs.map (·.data.toList)) sep.data.toList).length ≤ 140737488355328) :
    Calls Tryz.prog 49 #[.slice (some ⟨bk, o, none⟩) xs.length c, .string sep] w fun e w' => e = .returned (.string ⟨(Lib.join (xs.map (·.data.toList)) sep.data.toList).toArray⟩) ∧ Below w.heap.size w w' := Any.strings_Join Tryz.lays156 Tryz.Builder_Extra_156 bk o c xs sep w hcells hbk hN hcap hlen
def Tryz.lays162_ren : Go.Shelf.Ren := ⟨fun | 162 => 48 | 232 => 76 | 227 => 77 | 234 => 78 | 236 => 79 | 228 => 107 | 271 => 108 | 151 => 109 | 120 => 126 | 197 => 127 | 152 => 128 | 260 => 135 | 137 => 136 | 119 => 137 | 224 => 138 | 225 => 139 | 217 => 140 | 266 => 142 | n => n, fun | 9 => 9 | 4 => 4 | 3 => 3 | 5 => 5 | 117 => 108 | 116 => 107 | 0 => 0 | 124 => 111 | 21 => 21 | 105 => 140 | 46 => 93 | 119 => 166 | 139 => 169 | 138 => 168 | n => n, fun | 3 => 4 | 4 => 5 | n => n⟩
theorem Tryz.lays162 : Go.Proofs.Lays.n162 Tryz.prog Tryz.lays162_ren := {
  mixed := by kernel_rfl
  f119 := Tryz.func137.trans (congrArg some (by kernel_rfl))
  f120 := Tryz.func126.trans (congrArg some (by kernel_rfl))
  f137 := Tryz.func136.trans (congrArg some (by kernel_rfl))
  f151 := Tryz.func109.trans (congrArg some (by kernel_rfl))
  f152 := Tryz.func128.trans (congrArg some (by kernel_rfl))
  f162 := Tryz.func48.trans (congrArg some (by kernel_rfl))
  f197 := Tryz.func127.trans (congrArg some (by kernel_rfl))
  f217 := Tryz.func140.trans (congrArg some (by kernel_rfl))
  f224 := Tryz.func138.trans (congrArg some (by kernel_rfl))
  f225 := Tryz.func139.trans (congrArg some (by kernel_rfl))
  f227 := Tryz.func77.trans (congrArg some (by kernel_rfl))
  f228 := Tryz.func107.trans (congrArg some (by kernel_rfl))
  f232 := Tryz.func76.trans (congrArg some (by kernel_rfl))
  f234 := Tryz.func78.trans (congrArg some (by kernel_rfl))
  f236 := Tryz.func79.trans (congrArg some (by kernel_rfl))
  f260 := Tryz.func135.trans (congrArg some (by kernel_rfl))
  f266 := Tryz.func142.trans (congrArg some (by kernel_rfl))
  f271 := Tryz.func108.trans (congrArg some (by kernel_rfl))
  t0 := Tryz.underlying0
  a0 := Tryz.isAgg0
  z0 := Tryz.sizeOf0
  v0 := Tryz.zeroValue0
  t3 := Tryz.underlying3
  a3 := Tryz.isAgg3
  z3 := Tryz.sizeOf3
  v3 := Tryz.zeroValue3
  t4 := Tryz.underlying4
  a4 := Tryz.isAgg4
  z4 := Tryz.sizeOf4
  v4 := Tryz.zeroValue4
  t5 := Tryz.underlying5
  a5 := Tryz.isAgg5
  z5 := Tryz.sizeOf5
  v5 := Tryz.zeroValue5
  t9 := Tryz.underlying9
  a9 := Tryz.isAgg9
  z9 := Tryz.sizeOf9
  v9 := Tryz.zeroValue9
  t21 := Tryz.underlying21
  a21 := Tryz.isAgg21
  z21 := Tryz.sizeOf21
  v21 := Tryz.zeroValue21
  t46 := Tryz.underlying93
  a46 := Tryz.isAgg93
  z46 := Tryz.sizeOf93
  v46 := Tryz.zeroValue93
  t105 := Tryz.underlying140
  a105 := Tryz.isAgg140
  z105 := Tryz.sizeOf140
  v105 := Tryz.zeroValue140
  t116 := Tryz.underlying107
  a116 := Tryz.isAgg107
  z116 := Tryz.sizeOf107
  t117 := Tryz.underlying108
  a117 := Tryz.isAgg108
  z117 := Tryz.sizeOf108
  v117 := Tryz.zeroValue108
  t119 := Tryz.underlying166
  a119 := Tryz.isAgg166
  z119 := Tryz.sizeOf166
  t124 := Tryz.underlying111
  a124 := Tryz.isAgg111
  z124 := Tryz.sizeOf111
  v124 := Tryz.zeroValue111
  t138 := Tryz.underlying168
  a138 := Tryz.isAgg168
  z138 := Tryz.sizeOf168
  v138 := Tryz.zeroValue168
  t139 := Tryz.underlying169
  a139 := Tryz.isAgg169
  z139 := Tryz.sizeOf169
  v139 := Tryz.zeroValue169
  g3 := by kernel_rfl
  g4 := by kernel_rfl }
open Go.RowKit in theorem Tryz.strings_TrimRight_one (s : ByteArray) (c : UInt8) (hc : c.toNat < 128) (w : World) (hs : s.size ≤ 9223372036854775807) :
    Calls Tryz.prog 48 #[.string s, .string ⟨#[c]⟩] w fun e w' => e = .returned (.string ⟨(Lib.trimRightB s.data.toList c).toArray⟩) ∧ w' = w := Any.strings_TrimRight_one Tryz.lays162 s c hc w hs
open Go.RowKit in theorem Tryz.Builder_String_any_k (B b : Nat) (l : List UInt8) (w : World) (h : Lib.IsBuilderF 64 5 B b (Lib.byteCells l) w) (hBw : B ≤ w.heap.size) :
    Calls Tryz.prog 32 #[.pointer (some ⟨b, 0, none⟩)] w fun e w' => e = .returned (.string ⟨l.toArray⟩) ∧ (Lib.IsBuilderF 64 5 B b (Lib.byteCells l) w' ∧ Below B w w' ∧ Lib.OthersKept 5 (some b) w w') := Any.Builder_String_any_k Tryz.lays169 Tryz.Builder_Extra_169 B b l w h hBw
def Tryz.laysM173_ren : Go.Shelf.Ren := ⟨fun | 173 => 43 | 246 => 67 | 283 => 98 | 284 => 99 | 285 => 100 | 286 => 101 | 129 => 95 | 317 => 121 | 318 => 122 | 319 => 123 | 320 => 124 | 337 => 133 | 338 => 134 | n => n, fun | 2 => 2 | 3 => 3 | 9 => 9 | 4 => 4 | 171 => 131 | 0 => 0 | 53 => 70 | 37 => 22 | 5 => 5 | 173 => 133 | 212 => 153 | 51 => 125 | 20 => 20 | 213 => 154 | 46 => 93 | 232 => 164 | 233 => 165 | n => n, fun | 17 => 0 | 18 => 2 | 19 => 3 | n => n⟩
theorem Tryz.laysM173 : Go.Proofs.LaysM.n173 Tryz.prog Tryz.laysM173_ren := {
  mixed := by kernel_rfl
  f129 := Tryz.func95.trans (congrArg some (by kernel_rfl))
  f173 := Tryz.func43.trans (congrArg some (by kernel_rfl))
  f246 := Tryz.func67.trans (congrArg some (by kernel_rfl))
  f283 := Tryz.func98.trans (congrArg some (by kernel_rfl))
  f284 := Tryz.func99.trans (congrArg some (by kernel_rfl))
  f285 := Tryz.func100.trans (congrArg some (by kernel_rfl))
  f286 := Tryz.func101.trans (congrArg some (by kernel_rfl))
  f317 := Tryz.func121.trans (congrArg some (by kernel_rfl))
  f318 := Tryz.func122.trans (congrArg some (by kernel_rfl))
  f319 := Tryz.func123.trans (congrArg some (by kernel_rfl))
  f320 := Tryz.func124.trans (congrArg some (by kernel_rfl))
  f337 := Tryz.func133.trans (congrArg some (by kernel_rfl))
  f338 := Tryz.func134.trans (congrArg some (by kernel_rfl))
  t0 := Tryz.underlying0
  a0 := Tryz.isAgg0
  z0 := Tryz.sizeOf0
  v0 := Tryz.zeroValue0
  t2 := Tryz.underlying2
  a2 := Tryz.isAgg2
  z2 := Tryz.sizeOf2
  v2 := Tryz.zeroValue2
  t3 := Tryz.underlying3
  a3 := Tryz.isAgg3
  z3 := Tryz.sizeOf3
  v3 := Tryz.zeroValue3
  t4 := Tryz.underlying4
  a4 := Tryz.isAgg4
  z4 := Tryz.sizeOf4
  v4 := Tryz.zeroValue4
  t5 := Tryz.underlying5
  a5 := Tryz.isAgg5
  z5 := Tryz.sizeOf5
  v5 := Tryz.zeroValue5
  t9 := Tryz.underlying9
  a9 := Tryz.isAgg9
  z9 := Tryz.sizeOf9
  v9 := Tryz.zeroValue9
  t20 := Tryz.underlying20
  a20 := Tryz.isAgg20
  z20 := Tryz.sizeOf20
  v20 := Tryz.zeroValue20
  t37 := Tryz.underlying22
  a37 := Tryz.isAgg22
  z37 := Tryz.sizeOf22
  v37 := Tryz.zeroValue22
  t46 := Tryz.underlying93
  a46 := Tryz.isAgg93
  z46 := Tryz.sizeOf93
  v46 := Tryz.zeroValue93
  t51 := Tryz.underlying125
  a51 := Tryz.isAgg125
  z51 := Tryz.sizeOf125
  v51 := Tryz.zeroValue125
  t53 := Tryz.underlying70
  a53 := Tryz.isAgg70
  z53 := Tryz.sizeOf70
  v53 := Tryz.zeroValue70
  t171 := Tryz.underlying131
  a171 := Tryz.isAgg131
  z171 := Tryz.sizeOf131
  v171 := Tryz.zeroValue131
  t173 := Tryz.underlying133
  a173 := Tryz.isAgg133
  z173 := Tryz.sizeOf133
  v173 := Tryz.zeroValue133
  t212 := Tryz.underlying153
  a212 := Tryz.isAgg153
  z212 := Tryz.sizeOf153
  v212 := Tryz.zeroValue153
  t213 := Tryz.underlying154
  a213 := Tryz.isAgg154
  z213 := Tryz.sizeOf154
  t232 := Tryz.underlying164
  a232 := Tryz.isAgg164
  z232 := Tryz.sizeOf164
  v232 := Tryz.zeroValue164
  t233 := Tryz.underlying165
  a233 := Tryz.isAgg165
  z233 := Tryz.sizeOf165
  v233 := Tryz.zeroValue165
  g17 := by kernel_rfl
  g18 := by kernel_rfl
  g19 := by kernel_rfl
  i0 := by kernel_rfl
  i2 := by kernel_rfl
  i3 := by kernel_rfl
  i4 := by kernel_rfl
  i5 := by kernel_rfl
  i9 := by kernel_rfl
  i20 := by kernel_rfl
  i37 := by kernel_rfl
  i46 := by kernel_rfl
  i51 := by kernel_rfl
  i53 := by kernel_rfl
  i171 := by kernel_rfl
  i173 := by kernel_rfl
  i212 := by kernel_rfl
  i232 := by kernel_rfl
  i233 := by kernel_rfl
  m17 := by kernel_rfl
  m18 := by kernel_rfl
  m19 := by kernel_rfl }
open Go.RowKit Go.Sort Go.Lib in theorem Tryz.strconv_FormatInt_10 (n : Int) (h0 : -9223372036854775808 ≤ n) (h1 : n ≤ 9223372036854775807) (w : World) (htab : Lib.TabIs Tryz.prog w "internal/strconv.uint64pow10" .u64 Lib.pow10Tab) :
    Calls Tryz.prog 43 #[.int .i64 n, .int .i64 10] w fun e w' => e = .returned (.string ⟨(Lib.itoa n).toArray⟩) ∧ ∃ k os, w' = grow (w.drewN k) os := Any.strconv_FormatInt_10 Tryz.laysM173 n h0 h1 w htab
def Tryz.lays190_ren : Go.Shelf.Ren := ⟨fun | 190 => 29 | 125 => 62 | 258 => 61 | 128 => 94 | 129 => 95 | 302 => 85 | 303 => 86 | 304 => 87 | 305 => 88 | 306 => 89 | 307 => 90 | 308 => 91 | 309 => 92 | 310 => 93 | 333 => 112 | 329 => 113 | 330 => 114 | 334 => 115 | 335 => 116 | 336 => 117 | 344 => 129 | n => n, fun | 31 => 26 | 9 => 9 | 3 => 3 | 46 => 93 | 0 => 0 | 51 => 125 | 53 => 70 | 4 => 4 | 183 => 118 | 182 => 117 | 131 => 122 | 5 => 5 | 218 => 143 | 222 => 147 | 228 => 158 | 229 => 159 | n => n, fun | n => n⟩
theorem Tryz.lays190 : Go.Proofs.Lays.n190 Tryz.prog Tryz.lays190_ren := {
  mixed := by kernel_rfl
  f125 := Tryz.func62.trans (congrArg some (by kernel_rfl))
  f128 := Tryz.func94.trans (congrArg some (by kernel_rfl))
  f129 := Tryz.func95.trans (congrArg some (by kernel_rfl))
  f190 := Tryz.func29.trans (congrArg some (by kernel_rfl))
  f258 := Tryz.func61.trans (congrArg some (by kernel_rfl))
  f302 := Tryz.func85.trans (congrArg some (by kernel_rfl))
  f303 := Tryz.func86.trans (congrArg some (by kernel_rfl))
  f304 := Tryz.func87.trans (congrArg some (by kernel_rfl))
  f305 := Tryz.func88.trans (congrArg some (by kernel_rfl))
  f306 := Tryz.func89.trans (congrArg some (by kernel_rfl))
  f307 := Tryz.func90.trans (congrArg some (by kernel_rfl))
  f308 := Tryz.func91.trans (congrArg some (by kernel_rfl))
  f309 := Tryz.func92.trans (congrArg some (by kernel_rfl))
  f310 := Tryz.func93.trans (congrArg some (by kernel_rfl))
  f329 := Tryz.func113.trans (congrArg some (by kernel_rfl))
  f330 := Tryz.func114.trans (congrArg some (by kernel_rfl))
  f333 := Tryz.func112.trans (congrArg some (by kernel_rfl))
  f334 := Tryz.func115.trans (congrArg some (by kernel_rfl))
  f335 := Tryz.func116.trans (congrArg some (by kernel_rfl))
  f336 := Tryz.func117.trans (congrArg some (by kernel_rfl))
  f344 := Tryz.func129.trans (congrArg some (by kernel_rfl))
  t0 := Tryz.underlying0
  a0 := Tryz.isAgg0
  z0 := Tryz.sizeOf0
  v0 := Tryz.zeroValue0
  t3 := Tryz.underlying3
  a3 := Tryz.isAgg3
  z3 := Tryz.sizeOf3
  v3 := Tryz.zeroValue3
  t4 := Tryz.underlying4
  a4 := Tryz.isAgg4
  z4 := Tryz.sizeOf4
  v4 := Tryz.zeroValue4
  t5 := Tryz.underlying5
  a5 := Tryz.isAgg5
  z5 := Tryz.sizeOf5
  v5 := Tryz.zeroValue5
  t9 := Tryz.underlying9
  a9 := Tryz.isAgg9
  z9 := Tryz.sizeOf9
  v9 := Tryz.zeroValue9
  t31 := Tryz.underlying26
  a31 := Tryz.isAgg26
  z31 := Tryz.sizeOf26
  v31 := Tryz.zeroValue26
  t46 := Tryz.underlying93
  a46 := Tryz.isAgg93
  z46 := Tryz.sizeOf93
  v46 := Tryz.zeroValue93
  t51 := Tryz.underlying125
  a51 := Tryz.isAgg125
  z51 := Tryz.sizeOf125
  v51 := Tryz.zeroValue125
  t53 := Tryz.underlying70
  a53 := Tryz.isAgg70
  z53 := Tryz.sizeOf70
  v53 := Tryz.zeroValue70
  t131 := Tryz.underlying122
  a131 := Tryz.isAgg122
  z131 := Tryz.sizeOf122
  v131 := Tryz.zeroValue122
  t182 := Tryz.underlying117
  a182 := Tryz.isAgg117
  z182 := Tryz.sizeOf117
  v182 := Tryz.zeroValue117
  t183 := Tryz.underlying118
  a183 := Tryz.isAgg118
  z183 := Tryz.sizeOf118
  v183 := Tryz.zeroValue118
  t218 := Tryz.underlying143
  a218 := Tryz.isAgg143
  z218 := Tryz.sizeOf143
  v218 := Tryz.zeroValue143
  t222 := Tryz.underlying147
  a222 := Tryz.isAgg147
  z222 := Tryz.sizeOf147
  v222 := Tryz.zeroValue147
  t228 := Tryz.underlying158
  a228 := Tryz.isAgg158
  z228 := Tryz.sizeOf158
  v228 := Tryz.zeroValue158
  t229 := Tryz.underlying159
  a229 := Tryz.isAgg159
  z229 := Tryz.sizeOf159
  v229 := Tryz.zeroValue159 }
open Go.Sort Go.RowKit in theorem Tryz.slices_Sort_string (blk off cap : Nat) (ss : List (List UInt8)) (w : World) (hH : Holds encStr w blk off ss.toArray) (hblk : blk < w.heap.size) (hsz : ss.length < 4611686018427387904) :
    Calls Tryz.prog 29 #[.slice (some ⟨blk, off, none⟩) ss.length cap] w fun e w' =>
      e = .returned (.tuple #[]) ∧ ∃ n os, w' = grow (putRow encStr (Sort.ahead w n) blk off (ss.mergeSort fun x y => decide (x ≤ y)).toArray) os := Any.slices_Sort_string Tryz.lays190 blk off cap ss w hH hblk hsz
def Tryz.lays99_ren : Go.Shelf.Ren := ⟨fun | 99 => 73 | 206 => 105 | n => n, fun | 9 => 9 | 4 => 4 | 3 => 3 | n => n, fun | n => n⟩
theorem Tryz.lays99 : Go.Proofs.Lays.n99 Tryz.prog Tryz.lays99_ren := {
  mixed := by kernel_rfl
  f99 := Tryz.func73.trans (congrArg some (by kernel_rfl))
  f206 := Tryz.func105.trans (congrArg some (by kernel_rfl))
  t3 := Tryz.underlying3
  a3 := Tryz.isAgg3
  z3 := Tryz.sizeOf3
  v3 := Tryz.zeroValue3
  t4 := Tryz.underlying4
  a4 := Tryz.isAgg4
  z4 := Tryz.sizeOf4
  v4 := Tryz.zeroValue4
  t9 := Tryz.underlying9
  a9 := Tryz.isAgg9
  z9 := Tryz.sizeOf9
  v9 := Tryz.zeroValue9 }
open Go.RowKit Go.Lib in theorem Tryz.strings_HasPrefix (s p : ByteArray) (w : World) :
    Calls Tryz.prog 73 #[.string s, .string p] w fun e w' => e = .returned (.bool (Lib.hasPrefix s.data.toList p.data.toList)) ∧ w' = w := Any.strings_HasPrefix Tryz.lays99 s p w
def Tryz.lays146_ren : Go.Shelf.Ren := ⟨fun | 146 => 63 | 221 => 96 | 268 => 118 | 138 => 119 | 143 => 120 | 195 => 130 | 197 => 127 | 218 => 131 | 219 => 132 | 260 => 135 | 217 => 140 | 225 => 139 | 224 => 138 | 267 => 141 | 266 => 142 | 314 => 143 | n => n, fun | 9 => 9 | 31 => 26 | 3 => 3 | 4 => 4 | 0 => 0 | 105 => 140 | 21 => 21 | 5 => 5 | 46 => 93 | 119 => 166 | 139 => 169 | 138 => 168 | 146 => 136 | 51 => 125 | n => n, fun | 1 => 1 | 3 => 4 | 4 => 5 | n => n⟩
theorem Tryz.lays146 : Go.Proofs.Lays.n146 Tryz.prog Tryz.lays146_ren := {
  mixed := by kernel_rfl
  f138 := Tryz.func119.trans (congrArg some (by kernel_rfl))
  f143 := Tryz.func120.trans (congrArg some (by kernel_rfl))
  f146 := Tryz.func63.trans (congrArg some (by kernel_rfl))
  f195 := Tryz.func130.trans (congrArg some (by kernel_rfl))
  f197 := Tryz.func127.trans (congrArg some (by kernel_rfl))
  f217 := Tryz.func140.trans (congrArg some (by kernel_rfl))
  f218 := Tryz.func131.trans (congrArg some (by kernel_rfl))
  f219 := Tryz.func132.trans (congrArg some (by kernel_rfl))
  f221 := Tryz.func96.trans (congrArg some (by kernel_rfl))
  f224 := Tryz.func138.trans (congrArg some (by kernel_rfl))
  f225 := Tryz.func139.trans (congrArg some (by kernel_rfl))
  f260 := Tryz.func135.trans (congrArg some (by kernel_rfl))
  f266 := Tryz.func142.trans (congrArg some (by kernel_rfl))
  f267 := Tryz.func141.trans (congrArg some (by kernel_rfl))
  f268 := Tryz.func118.trans (congrArg some (by kernel_rfl))
  f314 := Tryz.func143.trans (congrArg some (by kernel_rfl))
  t0 := Tryz.underlying0
  a0 := Tryz.isAgg0
  z0 := Tryz.sizeOf0
  v0 := Tryz.zeroValue0
  t3 := Tryz.underlying3
  a3 := Tryz.isAgg3
  z3 := Tryz.sizeOf3
  v3 := Tryz.zeroValue3
  t4 := Tryz.underlying4
  a4 := Tryz.isAgg4
  z4 := Tryz.sizeOf4
  v4 := Tryz.zeroValue4
  t5 := Tryz.underlying5
  a5 := Tryz.isAgg5
  z5 := Tryz.sizeOf5
  v5 := Tryz.zeroValue5
  t9 := Tryz.underlying9
  a9 := Tryz.isAgg9
  z9 := Tryz.sizeOf9
  v9 := Tryz.zeroValue9
  t21 := Tryz.underlying21
  a21 := Tryz.isAgg21
  z21 := Tryz.sizeOf21
  v21 := Tryz.zeroValue21
  t31 := Tryz.underlying26
  a31 := Tryz.isAgg26
  z31 := Tryz.sizeOf26
  v31 := Tryz.zeroValue26
  t46 := Tryz.underlying93
  a46 := Tryz.isAgg93
  z46 := Tryz.sizeOf93
  v46 := Tryz.zeroValue93
  t51 := Tryz.underlying125
  a51 := Tryz.isAgg125
  z51 := Tryz.sizeOf125
  v51 := Tryz.zeroValue125
  t105 := Tryz.underlying140
  a105 := Tryz.isAgg140
  z105 := Tryz.sizeOf140
  v105 := Tryz.zeroValue140
  t119 := Tryz.underlying166
  a119 := Tryz.isAgg166
  z119 := Tryz.sizeOf166
  t138 := Tryz.underlying168
  a138 := Tryz.isAgg168
  z138 := Tryz.sizeOf168
  v138 := Tryz.zeroValue168
  t139 := Tryz.underlying169
  a139 := Tryz.isAgg169
  z139 := Tryz.sizeOf169
  v139 := Tryz.zeroValue169
  t146 := Tryz.underlying136
  a146 := Tryz.isAgg136
  z146 := Tryz.sizeOf136
  v146 := Tryz.zeroValue136
  g1 := by kernel_rfl
  g3 := by kernel_rfl
  g4 := by kernel_rfl }
open Go.RowKit Go.Lib in theorem Tryz.strings_Split (s sep : ByteArray) (m : Int) (w : World) (hs : s.size < 4294967281) (hm : w.cell? ⟨1, 0, none⟩ = some (.int .i64 m)) (h1 : 1 ≤ sep.size) :
    Calls Tryz.prog 63 #[.string s, .string sep] w fun e w' =>
      e = .returned (.slice (some ⟨w.heap.size, 0, none⟩) (Lib.countB s sep + 1) (Lib.countB s sep + 1)) ∧ w' = w.alloc (.cells ((Lib.splitB sep 0 (Lib.countB s sep) s).map Value.string).toArray 9) := Any.strings_Split Tryz.lays146 (by kernel_rfl) s sep m w hs hm h1
def Tryz.lays105_ren : Go.Shelf.Ren := ⟨fun | 105 => 47 | 212 => 72 | 99 => 73 | 165 => 74 | 166 => 31 | 170 => 75 | 169 => 32 | 263 => 103 | 264 => 104 | 206 => 105 | 240 => 64 | 241 => 106 | 276 => 97 | 277 => 125 | n => n, fun | 9 => 9 | 3 => 3 | 4 => 4 | 20 => 20 | 0 => 0 | 46 => 93 | 109 => 100 | 5 => 5 | 72 => 64 | 76 => 67 | 51 => 125 | 146 => 136 | 53 => 70 | 148 => 138 | 70 => 62 | 37 => 22 | 75 => 66 | 127 => 95 | 164 => 128 | 80 => 69 | n => n, fun | n => n⟩
theorem Tryz.lays105 : Go.Proofs.Lays.n105 Tryz.prog Tryz.lays105_ren := {
  mixed := by kernel_rfl
  f99 := Tryz.func73.trans (congrArg some (by kernel_rfl))
  f105 := Tryz.func47.trans (congrArg some (by kernel_rfl))
  f165 := Tryz.func74.trans (congrArg some (by kernel_rfl))
  f166 := Tryz.func31.trans (congrArg some (by kernel_rfl))
  f169 := Tryz.func32.trans (congrArg some (by kernel_rfl))
  f170 := Tryz.func75.trans (congrArg some (by kernel_rfl))
  f206 := Tryz.func105.trans (congrArg some (by kernel_rfl))
  f212 := Tryz.func72.trans (congrArg some (by kernel_rfl))
  f240 := Tryz.func64.trans (congrArg some (by kernel_rfl))
  f241 := Tryz.func106.trans (congrArg some (by kernel_rfl))
  f263 := Tryz.func103.trans (congrArg some (by kernel_rfl))
  f264 := Tryz.func104.trans (congrArg some (by kernel_rfl))
  f276 := Tryz.func97.trans (congrArg some (by kernel_rfl))
  f277 := Tryz.func125.trans (congrArg some (by kernel_rfl))
  t0 := Tryz.underlying0
  a0 := Tryz.isAgg0
  z0 := Tryz.sizeOf0
  v0 := Tryz.zeroValue0
  t3 := Tryz.underlying3
  a3 := Tryz.isAgg3
  z3 := Tryz.sizeOf3
  v3 := Tryz.zeroValue3
  t4 := Tryz.underlying4
  a4 := Tryz.isAgg4
  z4 := Tryz.sizeOf4
  v4 := Tryz.zeroValue4
  t5 := Tryz.underlying5
  a5 := Tryz.isAgg5
  z5 := Tryz.sizeOf5
  v5 := Tryz.zeroValue5
  t9 := Tryz.underlying9
  a9 := Tryz.isAgg9
  z9 := Tryz.sizeOf9
  v9 := Tryz.zeroValue9
  t20 := Tryz.underlying20
  a20 := Tryz.isAgg20
  z20 := Tryz.sizeOf20
  v20 := Tryz.zeroValue20
  t37 := Tryz.underlying22
  a37 := Tryz.isAgg22
  z37 := Tryz.sizeOf22
  v37 := Tryz.zeroValue22
  t46 := Tryz.underlying93
  a46 := Tryz.isAgg93
  z46 := Tryz.sizeOf93
  v46 := Tryz.zeroValue93
  t51 := Tryz.underlying125
  a51 := Tryz.isAgg125
  z51 := Tryz.sizeOf125
  v51 := Tryz.zeroValue125
  t53 := Tryz.underlying70
  a53 := Tryz.isAgg70
  z53 := Tryz.sizeOf70
  v53 := Tryz.zeroValue70
  t70 := Tryz.underlying62
  a70 := Tryz.isAgg62
  z70 := Tryz.sizeOf62
  v70 := Tryz.zeroValue62
  t72 := Tryz.underlying64
  a72 := Tryz.isAgg64
  z72 := Tryz.sizeOf64
  v72 := Tryz.zeroValue64
  t75 := Tryz.underlying66
  a75 := Tryz.isAgg66
  z75 := Tryz.sizeOf66
  v75 := Tryz.zeroValue66
  t76 := Tryz.underlying67
  a76 := Tryz.isAgg67
  z76 := Tryz.sizeOf67
  v76 := Tryz.zeroValue67
  t109 := Tryz.underlying100
  a109 := Tryz.isAgg100
  z109 := Tryz.sizeOf100
  v109 := Tryz.zeroValue100
  t127 := Tryz.underlying95
  a127 := Tryz.isAgg95
  z127 := Tryz.sizeOf95
  v127 := Tryz.zeroValue95
  t146 := Tryz.underlying136
  a146 := Tryz.isAgg136
  z146 := Tryz.sizeOf136
  v146 := Tryz.zeroValue136
  t148 := Tryz.underlying138
  a148 := Tryz.isAgg138
  z148 := Tryz.sizeOf138
  v148 := Tryz.zeroValue138
  t164 := Tryz.underlying128
  a164 := Tryz.isAgg128
  z164 := Tryz.sizeOf128
  v164 := Tryz.zeroValue128 }
theorem Tryz.Builder_Extra_105 : Builder.Extra Tryz.prog Tryz.lays105_ren := {
  sizeBuilder := by kernel_rfl
  liesBuilder := by kernel_rfl
  t5 := Tryz.underlying5
  a5 := Tryz.isAgg5
  z5 := Tryz.sizeOf5
  v5 := Tryz.zeroValue5
  infoByte := by kernel_rfl
  cellsByte := by kernel_rfl
  sizeByte := by kernel_rfl
  neB5 := by decide }
open Go.RowKit Go.Lib in theorem Tryz.strings_Repeat (s : ByteArray) (c : Nat) (w : World) (hc : c ≤ 9223372036854775807) (hlen : s.size * c ≤ 140737488355328) :
    Calls Tryz.prog 47 #[.string s, .int .i64 c] w fun e w' => e = .returned (.string ⟨(Lib.repeatL s.data.toList c).toArray⟩) ∧ Below w.heap.size w w' := Any.strings_Repeat Tryz.lays105 Tryz.Builder_Extra_105 s c w hc hlen
open Go.RowKit Go.Sort in theorem Tryz.slices_Sort_string_none (p : Option Addr) (cap : Nat) (w : World) :
    Calls Tryz.prog 29 #[.slice p 0 cap] w fun e w' => e = .returned (.tuple #[]) ∧ w' = w := Any.slices_Sort_string_none Tryz.lays190 p cap w
end Go.Proofs

/- Function 43 (strconv.FormatInt): its contract, off what is known of the library. -/
set_option linter.unusedVariables false
set_option linter.unusedSimpArgs false
set_option maxRecDepth 100000
namespace Go.Proofs.YtmbkjhbindikkaaGreatDoor
open Go Go.Am Go.Proofs

def sig43 : List AT := [AT.v (Ty.int .i64), AT.v (Ty.int .i64)]
def g43_0 (x0 x1 : Int) : ByteArray := numB x0
def P43 (x0 x1 : Int) : Prop := x1 = 10
def S43 : Am.Spec := { sig := sig43, pre := fun ⟨x0, x1, _⟩ => P43 x0 x1, res := fun ⟨x0, x1, _⟩ => [⟨Ty.str, g43_0 x0 x1⟩] }
theorem con43 : Contract Tryz.prog 43 S43 := contract_flat rfl fun w ⟨x0, x1, _⟩ vs bss hg hp hw ha => by
  obtain ⟨v0, s0, _, _, rfl, _, ⟨_, rfl, hi⟩, v1, s1, _, _, rfl, _, ⟨_, rfl, _⟩, rfl, _⟩ := ha
  obtain rfl : x1 = 10 := hp
  have hi : InR .i64 x0 := hi
  rw [i64_iff] at hi
  refine ⟨fun d hd => ?_, ?_⟩
  · rw [List.mem_singleton.1 hd]
    refine ⟨rfl, ?_⟩
    show (numB x0).size ≤ maxLen
    have := numB_size x0 hi.1 hi.2
    unfold maxLen; omega
  · refine (Tryz.strconv_FormatInt_10 x0 hi.1 hi.2 w (pow10G hg)).mono ?_
    rintro e w' ⟨rfl, n, os, rfl⟩
    exact ⟨rfl, kept_grow _ _ _⟩

end Go.Proofs.YtmbkjhbindikkaaGreatDoor

/- Function 20 (impl.Decimal): its runs between cut points. Written by a program of this repo (gen). -/
set_option linter.unusedVariables false
set_option linter.unusedSimpArgs false
set_option maxRecDepth 100000
namespace Go.Proofs.YtmbkjhbindikkaaGreatDoor
open Go Go.Am Go.Proofs
noncomputable section
def ext20 : Ext := [(43, S43)]
theorem call20_43 : Callable Tryz.prog 43 := ⟨Tryz.f43, Tryz.func43, by kernel_rfl, by kernel_rfl⟩
theorem ext20Ok : ExtOk Tryz.prog ext20 := ⟨⟨call20_43, con43⟩, trivial⟩

noncomputable def b20 : Code := bodyOf Tryz.f20
theorem hb20 : Tryz.f20.body = some b20 := by kernel_rfl
def sig20 : List AT := [AT.v (Ty.int IntKind.i64)]
def tys20 : List Ty := [Ty.str]
def kds20 : List RK := []
def oks20 : List AT := owns sig20
def P20 (x0 : Int) : Prop := ((P43 x0 10) ∧ True)
def g20_0 (x0 : Int) : ByteArray := g43_0 x0 10
theorem at20 (x0 : Int) (h : P20 x0) (K : Ctx) (q : Nat → Value) : AtV Tryz.prog 20 (PostR kds20 oks20 [⟨Ty.str, g20_0 x0⟩] [] [] q K) 5 K q [] [.code b20] (entE 0 0 sig20 (x0, ())) (entL sig20 (x0, ())) := by
  unfold P20 at h
  unfold g20_0
  obtain ⟨s0, h⟩ := h
  exact AtV.ret Tryz.func20 tabOk ext20Ok mixed false [] tys20 [] (a1 s0 trivial) (by kernel_rfl)

def S20 : Am.Spec := { sig := sig20, pre := fun ⟨x0, _⟩ => P20 x0, res := fun ⟨x0, _⟩ => [⟨Ty.str, g20_0 x0⟩], kds := kds20 }
theorem con20 : Contract Tryz.prog 20 S20 := contract_of Tryz.func20 hb20 (Nat.le_of_ble_eq_true (by kernel_rfl)) (fun ⟨x0, _⟩ h _ K q => at20 x0 h K q)


end
end Go.Proofs.YtmbkjhbindikkaaGreatDoor

/- Function 47 (strings.Repeat): its contract, off what is known of the library. -/
set_option linter.unusedVariables false
set_option linter.unusedSimpArgs false
set_option maxRecDepth 100000
namespace Go.Proofs.YtmbkjhbindikkaaGreatDoor
open Go Go.Am Go.Proofs

def sig47 : List AT := [AT.v Ty.str, AT.v (Ty.int .i64)]
def g47_0 (x0 : ByteArray) (x1 : Int) : ByteArray := ⟨(Lib.repeatL x0.data.toList x1.toNat).toArray⟩
def P47 (x0 : ByteArray) (x1 : Int) : Prop := 0 ≤ x1 ∧ (x0.size : Int) * x1 ≤ 140737488355328
def S47 : Am.Spec := { sig := sig47, pre := fun ⟨x0, x1, _⟩ => P47 x0 x1, res := fun ⟨x0, x1, _⟩ => [⟨Ty.str, g47_0 x0 x1⟩] }
theorem con47 : Contract Tryz.prog 47 S47 := contract_flat rfl fun w ⟨x0, x1, _⟩ vs bss hg hp hw ha => by
  obtain ⟨v0, s0, _, _, rfl, _, ⟨_, rfl, _⟩, v1, s1, _, _, rfl, _, ⟨_, rfl, _⟩, rfl, _⟩ := ha
  obtain ⟨h0, h1⟩ := hp
  obtain ⟨c, rfl⟩ : ∃ c : Nat, x1 = (c : Int) := Int.eq_ofNat_of_zero_le h0
  have hi : InR .i64 (c : Int) := hw.2.1
  rw [i64_iff] at hi
  have hm : x0.size * c ≤ 140737488355328 := by
    have : ((x0.size * c : Nat) : Int) = (x0.size : Int) * (c : Int) := Int.natCast_mul _ _
    omega
  refine ⟨fun d hd => ?_, ?_⟩
  · rw [List.mem_singleton.1 hd]
    refine ⟨rfl, ?_⟩
    show (ByteArray.mk (Lib.repeatL x0.data.toList c).toArray).size ≤ maxLen
    have : (ByteArray.mk (Lib.repeatL x0.data.toList c).toArray).size = c * x0.data.toList.length := by
      show (Lib.repeatL x0.data.toList c).toArray.size = _
      rw [List.size_toArray, Lib.repeatL_length]
    rw [this, Nat.mul_comm]
    have e : x0.data.toList.length = x0.size := rfl
    rw [e]
    unfold maxLen
    omega
  · refine (Tryz.strings_Repeat x0 c w (by omega) hm).mono ?_
    rintro e w' ⟨rfl, hb⟩
    exact ⟨rfl, Kept.of_below hb⟩

end Go.Proofs.YtmbkjhbindikkaaGreatDoor

/- Function 42 (impl.padded): its runs between cut points. Written by a program of this repo (gen). -/
set_option linter.unusedVariables false
set_option linter.unusedSimpArgs false
set_option maxRecDepth 100000
namespace Go.Proofs.YtmbkjhbindikkaaGreatDoor
open Go Go.Am Go.Proofs
noncomputable section
def ext42 : Ext := [(20, S20), (47, S47)]
theorem call42_20 : Callable Tryz.prog 20 := ⟨Tryz.f20, Tryz.func20, by kernel_rfl, by kernel_rfl⟩
theorem call42_47 : Callable Tryz.prog 47 := ⟨Tryz.f47, Tryz.func47, by kernel_rfl, by kernel_rfl⟩
theorem ext42Ok : ExtOk Tryz.prog ext42 := ⟨⟨call42_20, con20⟩, ⟨call42_47, con47⟩, trivial⟩

noncomputable def b42 : Code := bodyOf Tryz.f42
theorem hb42 : Tryz.f42.body = some b42 := by kernel_rfl
def sig42 : List AT := [AT.v (Ty.int IntKind.i64), AT.v (Ty.int IntKind.i64)]
def tys42 : List Ty := [Ty.str]
def kds42 : List RK := []
def oks42 : List AT := owns sig42
def P42 (x0 : Int) (x1 : Int) : Prop := ((P20 x0) ∧ ((InR IntKind.i64 (x1 - (↑(ByteArray.size (g20_0 x0)) : Int))) ∧ ((P47 (ByteArray.mk #[48]) (if 0 < x1 - (↑(ByteArray.size (g20_0 x0)) : Int) then x1 - (↑(ByteArray.size (g20_0 x0)) : Int) else 0)) ∧ ((ByteArray.size (g47_0 (ByteArray.mk #[48]) (if 0 < x1 - (↑(ByteArray.size (g20_0 x0)) : Int) then x1 - (↑(ByteArray.size (g20_0 x0)) : Int) else 0)) + ByteArray.size (g20_0 x0) ≤ 9223372036854775807) ∧ True))))
def g42_0 (x0 : Int) (x1 : Int) : ByteArray := g47_0 (ByteArray.mk #[48]) (if 0 < x1 - (↑(ByteArray.size (g20_0 x0)) : Int) then x1 - (↑(ByteArray.size (g20_0 x0)) : Int) else 0) ++ g20_0 x0
theorem at42 (x0 : Int) (x1 : Int) (h : P42 x0 x1) (K : Ctx) (q : Nat → Value) : AtV Tryz.prog 42 (PostR kds42 oks42 [⟨Ty.str, g42_0 x0 x1⟩] [] [] q K) 16 K q [] [.code b42] (entE 0 0 sig42 (x0, x1, ())) (entL sig42 (x0, x1, ())) := by
  unfold P42 at h
  unfold g42_0
  obtain ⟨s0, h⟩ := h
  obtain ⟨s1, h⟩ := h
  obtain ⟨s2, h⟩ := h
  obtain ⟨s3, h⟩ := h
  exact AtV.ret Tryz.func42 tabOk ext42Ok mixed false [] tys42 [] (a1 s0 (a1 s1 (a1 s2 (a1 s3 trivial)))) (by kernel_rfl)

def S42 : Am.Spec := { sig := sig42, pre := fun ⟨x0, x1, _⟩ => P42 x0 x1, res := fun ⟨x0, x1, _⟩ => [⟨Ty.str, g42_0 x0 x1⟩], kds := kds42 }
theorem con42 : Contract Tryz.prog 42 S42 := contract_of Tryz.func42 hb42 (Nat.le_of_ble_eq_true (by kernel_rfl)) (fun ⟨x0, x1, _⟩ h _ K q => at42 x0 x1 h K q)


end
end Go.Proofs.YtmbkjhbindikkaaGreatDoor

/- Function 19 (impl.FixedText): its runs between cut points. Written by a program of this repo (gen). -/
set_option linter.unusedVariables false
set_option linter.unusedSimpArgs false
set_option maxRecDepth 100000
namespace Go.Proofs.YtmbkjhbindikkaaGreatDoor
open Go Go.Am Go.Proofs
noncomputable section
def ext19 : Ext := [(40, S40), (41, S41), (20, S20), (42, S42)]
theorem call19_40 : Callable Tryz.prog 40 := ⟨Tryz.f40, Tryz.func40, by kernel_rfl, by kernel_rfl⟩
theorem call19_41 : Callable Tryz.prog 41 := ⟨Tryz.f41, Tryz.func41, by kernel_rfl, by kernel_rfl⟩
theorem call19_20 : Callable Tryz.prog 20 := ⟨Tryz.f20, Tryz.func20, by kernel_rfl, by kernel_rfl⟩
theorem call19_42 : Callable Tryz.prog 42 := ⟨Tryz.f42, Tryz.func42, by kernel_rfl, by kernel_rfl⟩
theorem ext19Ok : ExtOk Tryz.prog ext19 := ⟨⟨call19_40, con40⟩, ⟨call19_41, con41⟩, ⟨call19_20, con20⟩, ⟨call19_42, con42⟩, trivial⟩

noncomputable def b19 : Code := bodyOf Tryz.f19
theorem hb19 : Tryz.f19.body = some b19 := by kernel_rfl
def sig19 : List AT := [AT.v (Ty.int IntKind.i64), AT.v (Ty.int IntKind.i64)]
def tys19 : List Ty := [Ty.str]
def kds19 : List RK := []
def oks19 : List AT := owns sig19
def E19_5 (v5 : Int) (v16 : Int) (x0 : Int) (x1 : Int) : Env := [(0, PV.a (Atom.val (Value.int IntKind.i64 x0))), (1, PV.a (Atom.val (Value.int IntKind.i64 x1))), (5, PV.a (Atom.val (Value.int IntKind.i64 v5))), (15, PV.a (Atom.val (Value.int IntKind.i64 x1))), (16, PV.a (Atom.val (Value.int IntKind.i64 v16)))]
def L19_5 (v5 : Int) (v16 : Int) (x0 : Int) (x1 : Int) : Heap := []
mutual
def R19 : Nat → Int → Int → List Dyn → Prop
  | 0, _, _, _ => False
  | n + 1, x0, x1, ds => (if (!g40_0 x0 (-1000000000) 1000000000) = true then (ds = [Dyn.mk Ty.str (ByteArray.mk #[])]) else (if (!g40_0 x1 1 6) = true then (ds = [Dyn.mk Ty.str (ByteArray.mk #[])]) else (R19_5 n (1) (0) (x0) (x1) ds)))
def R19_5 : Nat → Int → Int → Int → Int → List Dyn → Prop
  | 0, _, _, _, _, _ => False
  | n + 1, v5, v16, x0, x1, ds => (if (Decidable.decide (v16 < x1)) = true then ((InR IntKind.i64 (v5 * 10)) ∧ ((InR IntKind.i64 (v16 + 1)) ∧ (R19_5 n (v5 * 10) (v16 + 1) (x0) (x1) ds))) else (if (Decidable.decide (x0 < 0)) = true then ((P41 x0) ∧ ((v5 ≠ 0) ∧ (InR IntKind.i64 (Int.tdiv (g41_0 x0) v5)) ∧ ((P20 (Int.tdiv (g41_0 x0) v5)) ∧ ((1 + ByteArray.size (g20_0 (Int.tdiv (g41_0 x0) v5)) ≤ 9223372036854775807) ∧ ((ByteArray.size (ByteArray.mk #[45] ++ g20_0 (Int.tdiv (g41_0 x0) v5)) + 1 ≤ 9223372036854775807) ∧ ((P41 x0) ∧ ((v5 ≠ 0) ∧ (InR IntKind.i64 (Int.tmod (g41_0 x0) v5)) ∧ ((P42 (Int.tmod (g41_0 x0) v5) x1) ∧ ((ByteArray.size (ByteArray.mk #[45] ++ g20_0 (Int.tdiv (g41_0 x0) v5) ++ ByteArray.mk #[46]) + ByteArray.size (g42_0 (Int.tmod (g41_0 x0) v5) x1) ≤ 9223372036854775807) ∧ (ds = [Dyn.mk Ty.str (ByteArray.mk #[45] ++ g20_0 (Int.tdiv (g41_0 x0) v5) ++ ByteArray.mk #[46] ++ g42_0 (Int.tmod (g41_0 x0) v5) x1)])))))))))) else ((P41 x0) ∧ ((v5 ≠ 0) ∧ (InR IntKind.i64 (Int.tdiv (g41_0 x0) v5)) ∧ ((P20 (Int.tdiv (g41_0 x0) v5)) ∧ ((0 + ByteArray.size (g20_0 (Int.tdiv (g41_0 x0) v5)) ≤ 9223372036854775807) ∧ ((ByteArray.size (ByteArray.mk #[] ++ g20_0 (Int.tdiv (g41_0 x0) v5)) + 1 ≤ 9223372036854775807) ∧ ((P41 x0) ∧ ((v5 ≠ 0) ∧ (InR IntKind.i64 (Int.tmod (g41_0 x0) v5)) ∧ ((P42 (Int.tmod (g41_0 x0) v5) x1) ∧ ((ByteArray.size (ByteArray.mk #[] ++ g20_0 (Int.tdiv (g41_0 x0) v5) ++ ByteArray.mk #[46]) + ByteArray.size (g42_0 (Int.tmod (g41_0 x0) v5) x1) ≤ 9223372036854775807) ∧ (ds = [Dyn.mk Ty.str (ByteArray.mk #[] ++ g20_0 (Int.tdiv (g41_0 x0) v5) ++ ByteArray.mk #[46] ++ g42_0 (Int.tmod (g41_0 x0) v5) x1)]))))))))))))
end
theorem snd19 : ∀ n, (∀ (x0 : Int) (x1 : Int) ds, R19 n x0 x1 ds → ∀ K q, AtV Tryz.prog 19 (PostR kds19 oks19 ds [] [] q K) 38 K q [] [.code b19] (entE 0 0 sig19 (x0, x1, ())) (entL sig19 (x0, x1, ()))) ∧ (∀ (v5 : Int) (v16 : Int) (x0 : Int) (x1 : Int) ds, R19_5 n v5 v16 x0 x1 ds → ∀ K q, AtV Tryz.prog 19 (PostR kds19 oks19 ds [] [] q K) 38 K q [] (cutAt b19 5) (E19_5 v5 v16 x0 x1) (L19_5 v5 v16 x0 x1)) := by
  intro n
  induction n with
  | zero => exact ⟨fun _ _ _ h => by simp only [R19] at h, fun _ _ _ _ _ h => by simp only [R19_5] at h⟩
  | succ n ih =>
  obtain ⟨ih, ih5⟩ := ih
  refine ⟨?_, ?_⟩
  · intro x0 x1 ds h K q
    rw [R19] at h
    by_cases b0 : (!g40_0 x0 (-1000000000) 1000000000) = true
    · rw [if_pos b0] at h
      subst h
      exact AtV.ret Tryz.func19 tabOk ext19Ok mixed false [] tys19 [true, true] (a1 trivial (a1 b0 (a1 (rfl : Bool.true = Bool.true) trivial))) (by kernel_rfl)
    · rw [if_neg b0] at h
      replace b0 := Bool.eq_false_iff.2 b0
      by_cases b1 : (!g40_0 x1 1 6) = true
      · rw [if_pos b1] at h
        subst h
        exact AtV.ret Tryz.func19 tabOk ext19Ok mixed false [] tys19 [false, true] (a1 trivial (a1 b0 (a1 trivial (a1 b1 trivial)))) (by kernel_rfl)
      · rw [if_neg b1] at h
        replace b1 := Bool.eq_false_iff.2 b1
        exact AtV.go tabOk ext19Ok mixed false [] [] [0, 1, 5, 15, 16] [] [false, false] (a1 trivial (a1 b0 (a1 trivial (a1 b1 trivial)))) (ih5 _ _ _ _ _ h K q) (by kernel_rfl)

  · intro v5 v16 x0 x1 ds h K q
    rw [R19_5] at h
    by_cases b0 : (Decidable.decide (v16 < x1)) = true
    · rw [if_pos b0] at h
      obtain ⟨s0, h⟩ := h
      obtain ⟨s1, h⟩ := h
      exact AtV.go tabOk ext19Ok mixed false [] [] [0, 1, 5, 15, 16] [] [true] (a1 b0 (a1 s0 (a1 s1 trivial))) (ih5 _ _ _ _ _ h K q) (by kernel_rfl)
    · rw [if_neg b0] at h
      replace b0 := Bool.eq_false_iff.2 b0
      by_cases b1 : (Decidable.decide (x0 < 0)) = true
      · rw [if_pos b1] at h
        obtain ⟨s0, h⟩ := h
        obtain ⟨s1, s2, h⟩ := h
        obtain ⟨s3, h⟩ := h
        obtain ⟨s4, h⟩ := h
        obtain ⟨s5, h⟩ := h
        obtain ⟨s6, h⟩ := h
        obtain ⟨s7, s8, h⟩ := h
        obtain ⟨s9, h⟩ := h
        obtain ⟨s10, h⟩ := h
        subst h
        exact AtV.ret Tryz.func19 tabOk ext19Ok mixed false [] tys19 [false, true] (a1 b0 (a1 b1 (a1 s0 (a1 s1 (a1 s2 (a1 s3 (a1 s4 (a1 s5 (a1 s6 (a1 s7 (a1 s8 (a1 s9 (a1 s10 trivial))))))))))))) (by kernel_rfl)
      · rw [if_neg b1] at h
        replace b1 := Bool.eq_false_iff.2 b1
        obtain ⟨s0, h⟩ := h
        obtain ⟨s1, s2, h⟩ := h
        obtain ⟨s3, h⟩ := h
        obtain ⟨s4, h⟩ := h
        obtain ⟨s5, h⟩ := h
        obtain ⟨s6, h⟩ := h
        obtain ⟨s7, s8, h⟩ := h
        obtain ⟨s9, h⟩ := h
        obtain ⟨s10, h⟩ := h
        subst h
        exact AtV.ret Tryz.func19 tabOk ext19Ok mixed false [] tys19 [false, false] (a1 b0 (a1 b1 (a1 s0 (a1 s1 (a1 s2 (a1 s3 (a1 s4 (a1 s5 (a1 s6 (a1 s7 (a1 s8 (a1 s9 (a1 s10 trivial))))))))))))) (by kernel_rfl)



def u19 (x1 : Int) : Nat := 10 ^ x1.toNat
def g19_0 (x0 x1 : Int) : ByteArray := if (!g40_0 x0 (-1000000000) 1000000000) = true then ⟨#[]⟩ else if (!g40_0 x1 1 6) = true then ⟨#[]⟩ else
  (if x0 < 0 then ByteArray.mk #[45] else ByteArray.mk #[]) ++ g20_0 ((x0.natAbs / u19 x1 : Nat) : Int) ++ ByteArray.mk #[46] ++ g42_0 ((x0.natAbs % u19 x1 : Nat) : Int) x1
def P19 (x0 x1 : Int) : Prop := True

theorem win19 {x a b : Int} (h : ¬ (!g40_0 x a b) = true) : a ≤ x ∧ x ≤ b := by
  unfold g40_0 at h
  by_cases c1 : x ≥ a
  · by_cases c2 : x ≤ b
    · exact ⟨c1, c2⟩
    · simp [c1, c2] at h
  · simp [c1] at h

theorem abs19 {x : Int} (h : -1000000000 ≤ x ∧ x ≤ 1000000000) : P41 x ∧ g41_0 x = ((x.natAbs : Nat) : Int) := by
  unfold P41 g41_0
  by_cases c : x < 0
  · simp only [c, decide_true, if_true, i64_iff]
    constructor
    · first | omega | (refine ⟨?_, trivial⟩; omega)
    · omega
  · simp only [c, decide_false, Bool.false_eq_true, if_false]
    constructor
    · first | trivial | omega
    · omega

theorem dec19 {k : Nat} (h : k ≤ 1000000000) : P20 (k : Int) ∧ (g20_0 (k : Int)).size ≤ 21 :=
  ⟨⟨rfl, trivial⟩, numB_size _ (by omega) (by omega)⟩

theorem pad19 {k : Nat} {d : Int} (h : k ≤ 1000000000) (h1 : 1 ≤ d) (h6 : d ≤ 6) : P42 (k : Int) d ∧ (g42_0 (k : Int) d).size ≤ 27 := by
  obtain ⟨p, hs⟩ := dec19 h
  unfold P42 g42_0
  generalize g20_0 (k : Int) = t at *
  have hm : 0 ≤ (if 0 < d - (t.size : Int) then d - (t.size : Int) else 0) ∧ (if 0 < d - (t.size : Int) then d - (t.size : Int) else 0) ≤ 6 := by
    split <;> omega
  generalize (if 0 < d - (t.size : Int) then d - (t.size : Int) else 0) = c at *
  have hr : (g47_0 (ByteArray.mk #[48]) c).size = c.toNat := by
    show (Lib.repeatL [48] c.toNat).toArray.size = _
    rw [List.size_toArray, Lib.repeatL_length]
    simp
  have h1 : ((ByteArray.mk #[48]).size : Int) = 1 := rfl
  refine ⟨⟨p, by rw [i64_iff]; omega, ⟨hm.1, by rw [h1]; omega⟩, by omega, trivial⟩, ?_⟩
  rw [ByteArray.size_append]
  omega

theorem run19 (x0 x1 : Int) (h0 : -1000000000 ≤ x0 ∧ x0 ≤ 1000000000) (h1 : 1 ≤ x1 ∧ x1 ≤ 6) : ∀ (k i : Nat), (i : Int) + k = x1 → R19_5 (k + 1) ((10 ^ i : Nat) : Int) (i : Int) x0 x1 [⟨.str, (if x0 < 0 then ByteArray.mk #[45] else ByteArray.mk #[]) ++ g20_0 ((x0.natAbs / u19 x1 : Nat) : Int) ++ ByteArray.mk #[46] ++ g42_0 ((x0.natAbs % u19 x1 : Nat) : Int) x1⟩]
  | 0, i, hi => by
    have e : x1.toNat = i := by omega
    have hu : u19 x1 = 10 ^ i := by unfold u19; rw [e]
    rw [R19_5, if_neg (by simp only [decide_eq_true_eq]; omega), hu]
    obtain ⟨pa, ea⟩ := abs19 h0
    rw [ea]
    have hp : 1 ≤ 10 ^ i := Nat.one_le_pow _ _ (by decide)
    have hp6 : 10 ^ i ≤ 10 ^ 6 := Nat.pow_le_pow_right (by decide) (by omega)
    generalize 10 ^ i = q at *
    have hA : x0.natAbs ≤ 1000000000 := by omega
    generalize x0.natAbs = A at *
    have t1 : Int.tdiv (A : Int) (q : Int) = ((A / q : Nat) : Int) := rfl
    have t2 : Int.tmod (A : Int) (q : Int) = ((A % q : Nat) : Int) := rfl
    have b1 : A / q ≤ 1000000000 := Nat.le_trans (Nat.div_le_self _ _) hA
    have b2 : A % q ≤ 1000000000 := Nat.le_trans (Nat.mod_le _ _) hA
    rw [t1, t2]
    clear t1 t2
    generalize A / q = k1 at *
    generalize A % q = k2 at *
    obtain ⟨d1, d2⟩ := dec19 b1
    obtain ⟨e1, e2⟩ := pad19 b2 h1.1 h1.2
    have z1 : (ByteArray.mk #[45]).size = 1 := rfl
    have z2 : (ByteArray.mk #[46]).size = 1 := rfl
    have z0 : (ByteArray.mk #[]).size = 0 := rfl
    by_cases hx : x0 < 0
    · simp only [hx, decide_true, if_true]
      exact ⟨pa, by omega, by rw [i64_iff]; omega, d1, by omega, by rw [ByteArray.size_append]; omega, pa, by omega, by rw [i64_iff]; omega, e1, by rw [ByteArray.size_append, ByteArray.size_append]; omega, trivial⟩
    · simp only [hx, decide_false, Bool.false_eq_true, if_false]
      exact ⟨pa, by omega, by rw [i64_iff]; omega, d1, by omega, by rw [ByteArray.size_append]; omega, pa, by omega, by rw [i64_iff]; omega, e1, by rw [ByteArray.size_append, ByteArray.size_append]; omega, trivial⟩
  | k + 1, i, hi => by
    rw [R19_5, if_pos (by simp only [decide_eq_true_eq]; omega)]
    have hp : 10 ^ i ≤ 10 ^ 17 := Nat.pow_le_pow_right (by decide) (by omega)
    have hp2 : 10 ^ i ≤ 100000000000000000 := hp
    have ih := run19 x0 x1 h0 h1 k (i + 1) (by omega)
    have e1 : ((10 ^ i : Nat) : Int) * 10 = ((10 ^ (i + 1) : Nat) : Int) := by rw [Nat.pow_succ, Int.natCast_mul]; rfl
    have e2 : (i : Int) + 1 = ((i + 1 : Nat) : Int) := by omega
    rw [e1, e2]
    refine ⟨?_, by rw [i64_iff]; omega, ih⟩
    rw [← e1, i64_iff]
    generalize 10 ^ i = q at *
    omega

theorem top19 (x0 x1 : Int) : ∃ n, R19 n x0 x1 [⟨.str, g19_0 x0 x1⟩] := by
  unfold g19_0
  by_cases c0 : (!g40_0 x0 (-1000000000) 1000000000) = true
  · exact ⟨1, by rw [R19, if_pos c0, if_pos c0]⟩
  · by_cases c1 : (!g40_0 x1 1 6) = true
    · exact ⟨1, by rw [R19, if_neg c0, if_pos c1, if_neg c0, if_pos c1]⟩
    · have w1 := win19 c1
      refine ⟨x1.toNat + 1 + 1, ?_⟩
      rw [R19, if_neg c0, if_neg c1, if_neg c0, if_neg c1]
      exact run19 x0 x1 (win19 c0) w1 x1.toNat 0 (by omega)

def S19 : Am.Spec := { sig := sig19, pre := fun ⟨x0, x1, _⟩ => P19 x0 x1, res := fun ⟨x0, x1, _⟩ => [⟨.str, g19_0 x0 x1⟩] }
theorem con19 : Contract Tryz.prog 19 S19 := contract_of Tryz.func19 hb19 (Nat.le_of_ble_eq_true (by kernel_rfl)) (fun ⟨x0, x1, _⟩ h hwf K q => by
  obtain ⟨n, hn⟩ := top19 x0 x1
  exact (snd19 n).1 x0 x1 _ hn K q)

end
end Go.Proofs.YtmbkjhbindikkaaGreatDoor

/- Function 49 (strings.Join): its contract, off what is known of the library. -/
set_option linter.unusedVariables false
set_option linter.unusedSimpArgs false
set_option maxRecDepth 100000
namespace Go.Proofs.YtmbkjhbindikkaaGreatDoor
open Go Go.Am Go.Proofs

def sig49 : List AT := [AT.v (Ty.sl Ty.str), AT.v Ty.str]
def g49_0 (x0 : List ByteArray) (x1 : ByteArray) : ByteArray := ⟨(Lib.join (x0.map fun x => x.data.toList) x1.data.toList).toArray⟩
def P49 (x0 : List ByteArray) (x1 : ByteArray) : Prop := x0.length ≤ 1048576 ∧ (Lib.join (x0.map fun x => x.data.toList) x1.data.toList).length ≤ 140737488355328
def S49 : Am.Spec := { sig := sig49, pre := fun ⟨x0, x1, _⟩ => P49 x0 x1, res := fun ⟨x0, x1, _⟩ => [⟨Ty.str, g49_0 x0 x1⟩] }
theorem con49 : Contract Tryz.prog 49 S49 := contract_flat rfl fun w ⟨x0, x1, _⟩ vs bss hg hp hw ha => by
  obtain ⟨v0, s0, _, _, rfl, _, ⟨_, ho⟩, v1, s1, _, _, rfl, _, ⟨_, rfl, _⟩, rfl, _⟩ := ha
  obtain ⟨h0, h1⟩ : x0.length ≤ 1048576 ∧ (Lib.join (x0.map fun x => x.data.toList) x1.data.toList).length ≤ 140737488355328 := hp
  refine ⟨fun d hd => ?_, ?_⟩
  · rw [List.mem_singleton.1 hd]
    refine ⟨rfl, ?_⟩
    show (List.toArray _).size ≤ maxLen
    rw [List.size_toArray]; exact Nat.le_trans h1 (by decide)
  · obtain ⟨_, _, hcase⟩ := slAt_flat (t := .str) rfl ho
    rcases hcase with ⟨ad, rfl, rfl⟩ | ⟨b', off, cap, rfl, h2, h3, hG, hcells⟩
    · refine (Tryz.strings_Join_none ad 0 x1 w).mono ?_
      rintro e w' ⟨rfl, rfl⟩
      exact ⟨rfl, Kept.refl _ _⟩
    · refine (Tryz.strings_Join b' off cap x0 x1 w (fun j x hx => ?_) hG.1 (by omega) h2 h1).mono ?_
      · refine hcells j _ ?_
        have e : fcs .str x0 = x0.map Value.string := by
          have : ∀ xs : List ByteArray, fcs .str xs = xs.map Value.string := by
            intro xs
            induction xs with
            | nil => rfl
            | cons a r ih => unfold fcs at ih ⊢; rw [List.map_cons, List.flatten_cons, ih]; rfl
          exact this x0
        rw [e, List.getElem?_map, hx]
        rfl
      · rintro e w' ⟨rfl, hb⟩
        exact ⟨rfl, Kept.of_below hb⟩

end Go.Proofs.YtmbkjhbindikkaaGreatDoor

/- Function 48 (strings.TrimRight): its contract, off what is known of the library. -/
set_option linter.unusedVariables false
set_option linter.unusedSimpArgs false
set_option maxRecDepth 100000
namespace Go.Proofs.YtmbkjhbindikkaaGreatDoor
open Go Go.Am Go.Proofs
def sig48 : List AT := [AT.v Ty.str, AT.v Ty.str]
def g48_0 (x0 x1 : ByteArray) : ByteArray := ⟨(Lib.trimRightB x0.data.toList (x1.data.toList.getD 0 0)).toArray⟩
def P48 (x0 x1 : ByteArray) : Prop := ∃ c : UInt8, x1 = ⟨#[c]⟩ ∧ c.toNat < 128
def S48 : Am.Spec := { sig := sig48, pre := fun ⟨x0, x1, _⟩ => P48 x0 x1, res := fun ⟨x0, x1, _⟩ => [⟨Ty.str, g48_0 x0 x1⟩] }

theorem trl48 (l : List UInt8) (c : UInt8) : (Lib.trimRightB l c).length ≤ l.length := by
  unfold Lib.trimRightB
  first
  | (rw [List.length_reverse]; exact Nat.le_trans (List.dropWhile_sublist _).length_le (by rw [List.length_reverse]; exact Nat.le_refl _))
  | (simp; done)

theorem con48 : Contract Tryz.prog 48 S48 := contract_flat rfl fun w ⟨x0, x1, _⟩ vs bss hg hp hw ha => by
  obtain ⟨v0, s0, _, _, rfl, _, ⟨_, rfl, _⟩, v1, s1, _, _, rfl, _, ⟨_, rfl, _⟩, rfl, _⟩ := ha
  have hi : x0.size ≤ maxLen := hw.1
  obtain ⟨c, rfl, hc⟩ := hp
  refine ⟨fun d hd => ?_, ?_⟩
  · rw [List.mem_singleton.1 hd]
    refine ⟨rfl, ?_⟩
    show (List.toArray _).size ≤ maxLen
    rw [List.size_toArray]
    have e : x0.data.toList.length = x0.size := rfl
    have := trl48 x0.data.toList c
    show (Lib.trimRightB x0.data.toList c).length ≤ maxLen
    omega
  · refine (Tryz.strings_TrimRight_one x0 c hc w hi).mono ?_
    rintro e w' ⟨rfl, rfl⟩
    exact ⟨rfl, Kept.refl _ _⟩

end Go.Proofs.YtmbkjhbindikkaaGreatDoor

/- Function 84 (impl.isReportLine$1): its runs between cut points. Written by a program of this repo (gen). -/
set_option linter.unusedVariables false
set_option linter.unusedSimpArgs false
set_option maxRecDepth 100000
namespace Go.Proofs.YtmbkjhbindikkaaGreatDoor
open Go Go.Am Go.Proofs
noncomputable section
def ext84 : Ext := []
theorem ext84Ok : ExtOk Tryz.prog ext84 := trivial

noncomputable def b84 : Code := bodyOf Tryz.f84
theorem hb84 : Tryz.f84.body = some b84 := by kernel_rfl
def sig84 : List AT := [AT.v (Ty.int IntKind.u8)]
def tys84 : List Ty := [Ty.bool]
def kds84 : List RK := []
def oks84 : List AT := owns sig84
def P84 (x0 : Int) : Prop := True
def g84_0 (x0 : Int) : Bool := (if (Decidable.decide (x0 < 32)) = true then Bool.true else Decidable.decide (x0 > 126))
theorem at84 (x0 : Int) (h : P84 x0) (K : Ctx) (q : Nat → Value) : AtV Tryz.prog 84 (PostR kds84 oks84 [⟨Ty.bool, g84_0 x0⟩] [] [] q K) 9 K q [] [.code b84] (entE 0 0 sig84 (x0, ())) (entL sig84 (x0, ())) := by
  unfold P84 at h
  unfold g84_0
  by_cases b0 : (Decidable.decide (x0 < 32)) = true
  · try simp only [if_pos b0] at h ⊢
    exact AtV.ret Tryz.func84 tabOk ext84Ok mixed false [] tys84 [true] (a1 b0 trivial) (by kernel_rfl)
  · try simp only [if_neg b0] at h ⊢
    replace b0 := Bool.eq_false_iff.2 b0
    exact AtV.ret Tryz.func84 tabOk ext84Ok mixed false [] tys84 [false] (a1 b0 trivial) (by kernel_rfl)

def S84 : Am.Spec := { sig := sig84, pre := fun ⟨x0, _⟩ => P84 x0, res := fun ⟨x0, _⟩ => [⟨Ty.bool, g84_0 x0⟩], kds := kds84 }
theorem con84 : Contract Tryz.prog 84 S84 := contract_of Tryz.func84 hb84 (Nat.le_of_ble_eq_true (by kernel_rfl)) (fun ⟨x0, _⟩ h _ K q => at84 x0 h K q)


end
end Go.Proofs.YtmbkjhbindikkaaGreatDoor

/- Function 102 (slices.IndexFunc[[]byte,byte]): its runs between cut points. Written by a program of this repo (gen). -/
set_option linter.unusedVariables false
set_option linter.unusedSimpArgs false
set_option maxRecDepth 100000
namespace Go.Proofs.YtmbkjhbindikkaaGreatDoor
open Go Go.Am Go.Proofs
noncomputable section
def ext102c84 : Ext := [(84, S84)]
theorem call102c84_84 : Callable Tryz.prog 84 := ⟨Tryz.f84, Tryz.func84, by kernel_rfl, by kernel_rfl⟩
theorem ext102c84Ok : ExtOk Tryz.prog ext102c84 := ⟨⟨call102c84_84, con84⟩, trivial⟩

noncomputable def b102c84 : Code := bodyOf Tryz.f102
theorem hb102c84 : Tryz.f102.body = some b102c84 := by kernel_rfl
def sig102c84 : List AT := [AT.v (Ty.sl (Ty.int IntKind.u8)), AT.fn 84 []]
def tys102c84 : List Ty := [Ty.int IntKind.i64]
def kds102c84 : List RK := []
def oks102c84 : List AT := owns sig102c84
def E102c84_2 (v8 : Int) (x0 : List Int) : Env := [(0, PV.a (Atom.sl (Ty.int IntKind.u8) x0)), (1, PV.fn 84 []), (7, PV.a (Atom.val (Value.int IntKind.i64 (↑(List.length x0) : Int)))), (8, PV.a (Atom.val (Value.int IntKind.i64 v8)))]
def L102c84_2 (v8 : Int) (x0 : List Int) : Heap := []
mutual
def R102c84 : Nat → List Int → List Dyn → Prop
  | 0, _, _ => False
  | n + 1, x0, ds => (R102c84_2 n (0) (x0) ds)
def R102c84_2 : Nat → Int → List Int → List Dyn → Prop
  | 0, _, _, _ => False
  | n + 1, v8, x0, ds => (if (Decidable.decide (v8 < (↑(List.length x0) : Int))) = true then ((0 ≤ v8) ∧ (v8 < (↑(List.length x0) : Int)) ∧ (if (g84_0 (List.getD x0 (Int.toNat v8) 0)) = true then (ds = [Dyn.mk (Ty.int IntKind.i64) v8]) else ((InR IntKind.i64 (v8 + 1)) ∧ (R102c84_2 n (v8 + 1) (x0) ds)))) else (ds = [Dyn.mk (Ty.int IntKind.i64) (-1)]))
end
theorem snd102c84 : ∀ n, (∀ (x0 : List Int) ds, R102c84 n x0 ds → ∀ K q, AtV Tryz.prog 102 (PostR kds102c84 oks102c84 ds [] [] q K) 19 K q [] [.code b102c84] (entE 0 0 sig102c84 (x0, (), ())) (entL sig102c84 (x0, (), ()))) ∧ (∀ (v8 : Int) (x0 : List Int) ds, R102c84_2 n v8 x0 ds → ∀ K q, AtV Tryz.prog 102 (PostR kds102c84 oks102c84 ds [] [] q K) 19 K q [] (cutAt b102c84 2) (E102c84_2 v8 x0) (L102c84_2 v8 x0)) := by
  intro n
  induction n with
  | zero => exact ⟨fun _ _ h => by simp only [R102c84] at h, fun _ _ _ h => by simp only [R102c84_2] at h⟩
  | succ n ih =>
  obtain ⟨ih, ih2⟩ := ih
  refine ⟨?_, ?_⟩
  · intro x0 ds h K q
    rw [R102c84] at h
    exact AtV.go tabOk ext102c84Ok mixed false [] [] [0, 1, 7, 8] [] [] trivial (ih2 _ _ _ h K q) (by kernel_rfl)

  · intro v8 x0 ds h K q
    rw [R102c84_2] at h
    by_cases b0 : (Decidable.decide (v8 < (↑(List.length x0) : Int))) = true
    · rw [if_pos b0] at h
      obtain ⟨s0, s1, h⟩ := h
      by_cases b1 : (g84_0 (List.getD x0 (Int.toNat v8) 0)) = true
      · rw [if_pos b1] at h
        subst h
        exact AtV.ret Tryz.func102 tabOk ext102c84Ok mixed false [] tys102c84 [true, true] (a1 b0 (a1 s0 (a1 s1 (a1 trivial (a1 b1 trivial))))) (by kernel_rfl)
      · rw [if_neg b1] at h
        replace b1 := Bool.eq_false_iff.2 b1
        obtain ⟨s2, h⟩ := h
        exact AtV.go tabOk ext102c84Ok mixed false [] [] [0, 1, 7, 8] [] [true, false] (a1 b0 (a1 s0 (a1 s1 (a1 trivial (a1 b1 (a1 s2 trivial)))))) (ih2 _ _ _ h K q) (by kernel_rfl)
    · rw [if_neg b0] at h
      replace b0 := Bool.eq_false_iff.2 b0
      subst h
      exact AtV.ret Tryz.func102 tabOk ext102c84Ok mixed false [] tys102c84 [false] (a1 b0 trivial) (by kernel_rfl)



def g102c84_0 (x0 : List (Int)) : Int := idx (x0.findIdx? g84_0)
def P102c84 (x0 : List (Int)) : Prop := True

theorem top102c84 (x0 : List (Int)) (hm : x0.length ≤ maxLen) : R102c84 (x0.length + 1 + 1) x0 [⟨.int .i64, g102c84_0 x0⟩] := by
  rw [R102c84]
  have key := loop_find x0 (0 : Int) g84_0 [(⟨.int .i64, -1⟩ : Dyn)] (fun k => [⟨.int .i64, k⟩]) (fun n i ds => R102c84_2 n i x0 ds) (fun n => ?_) (fun n i hi hok ds hr => ?_) (fun n i hi hok => ?_)
  · unfold g102c84_0
    cases h : x0.findIdx? g84_0 <;> rw [h] at key <;> exact key
  · rw [R102c84_2, if_neg (by simp)]
  · rw [R102c84_2, if_pos (by simp; omega)]
    simp only [Int.toNat_natCast]
    refine ⟨by omega, by omega, ?_⟩
    rw [if_neg (by rw [hok]; simp)]
    exact ⟨inR_up hm hi, hr⟩
  · rw [R102c84_2, if_pos (by simp; omega)]
    simp only [Int.toNat_natCast]
    refine ⟨by omega, by omega, ?_⟩
    rw [if_pos hok] <;> trivial

def S102c84 : Am.Spec := { sig := sig102c84, pre := fun ⟨x0, _⟩ => P102c84 x0, res := fun ⟨x0, _⟩ => [⟨Ty.int .i64, g102c84_0 x0⟩] }
theorem con102c84 : Contract Tryz.prog 102 S102c84 := contract_of Tryz.func102 hb102c84 (Nat.le_of_ble_eq_true (by kernel_rfl)) (fun ⟨x0, _⟩ h hwf K q =>
  (snd102c84 _).1 x0 _ (top102c84 x0 hwf.1.1) K q)

theorem any102c84 (x0 : List (Int)) : decide (g102c84_0 x0 ≥ 0) = x0.any g84_0 := by
  have := findIdx_any g84_0 x0
  unfold g102c84_0
  cases h : x0.any g84_0 with
  | true => rw [h] at this; simpa using this
  | false => rw [h] at this; simpa using this

end
end Go.Proofs.YtmbkjhbindikkaaGreatDoor

/- Function 70 (slices.ContainsFunc[[]byte,byte]): its runs between cut points. Written by a program of this repo (gen). -/
set_option linter.unusedVariables false
set_option linter.unusedSimpArgs false
set_option maxRecDepth 100000
namespace Go.Proofs.YtmbkjhbindikkaaGreatDoor
open Go Go.Am Go.Proofs
noncomputable section
def ext70c84 : Ext := [(102, S102c84), (84, S84)]
theorem call70c84_102 : Callable Tryz.prog 102 := ⟨Tryz.f102, Tryz.func102, by kernel_rfl, by kernel_rfl⟩
theorem call70c84_84 : Callable Tryz.prog 84 := ⟨Tryz.f84, Tryz.func84, by kernel_rfl, by kernel_rfl⟩
theorem ext70c84Ok : ExtOk Tryz.prog ext70c84 := ⟨⟨call70c84_102, con102c84⟩, ⟨call70c84_84, con84⟩, trivial⟩

noncomputable def b70c84 : Code := bodyOf Tryz.f70
theorem hb70c84 : Tryz.f70.body = some b70c84 := by kernel_rfl
def sig70c84 : List AT := [AT.v (Ty.sl (Ty.int IntKind.u8)), AT.fn 84 []]
def tys70c84 : List Ty := [Ty.bool]
def kds70c84 : List RK := []
def oks70c84 : List AT := owns sig70c84
def P70c84 (x0 : List Int) : Prop := True
def g70c84_0 (x0 : List Int) : Bool := Decidable.decide (g102c84_0 x0 ≥ 0)
theorem at70c84 (x0 : List Int) (h : P70c84 x0) (K : Ctx) (q : Nat → Value) : AtV Tryz.prog 70 (PostR kds70c84 oks70c84 [⟨Ty.bool, g70c84_0 x0⟩] [] [] q K) 9 K q [] [.code b70c84] (entE 0 0 sig70c84 (x0, (), ())) (entL sig70c84 (x0, (), ())) := by
  unfold P70c84 at h
  unfold g70c84_0
  exact AtV.ret Tryz.func70 tabOk ext70c84Ok mixed false [] tys70c84 [] (a1 trivial trivial) (by kernel_rfl)

def S70c84 : Am.Spec := { sig := sig70c84, pre := fun ⟨x0, _⟩ => P70c84 x0, res := fun ⟨x0, _⟩ => [⟨Ty.bool, g70c84_0 x0⟩], kds := kds70c84 }
theorem con70c84 : Contract Tryz.prog 70 S70c84 := contract_of Tryz.func70 hb70c84 (Nat.le_of_ble_eq_true (by kernel_rfl)) (fun ⟨x0, _⟩ h _ K q => at70c84 x0 h K q)


end
end Go.Proofs.YtmbkjhbindikkaaGreatDoor

/- Function 60 (impl.isReportLine): its runs between cut points. Written by a program of this repo (gen). -/
set_option linter.unusedVariables false
set_option linter.unusedSimpArgs false
set_option maxRecDepth 100000
namespace Go.Proofs.YtmbkjhbindikkaaGreatDoor
open Go Go.Am Go.Proofs
noncomputable section
def ext60 : Ext := [(70, S70c84)]
theorem call60_70 : Callable Tryz.prog 70 := ⟨Tryz.f70, Tryz.func70, by kernel_rfl, by kernel_rfl⟩
theorem ext60Ok : ExtOk Tryz.prog ext60 := ⟨⟨call60_70, con70c84⟩, trivial⟩

noncomputable def b60 : Code := bodyOf Tryz.f60
theorem hb60 : Tryz.f60.body = some b60 := by kernel_rfl
def sig60 : List AT := [AT.v (Ty.str)]
def tys60 : List Ty := [Ty.bool]
def kds60 : List RK := []
def oks60 : List AT := owns sig60
def P60 (x0 : ByteArray) : Prop := True
def g60_0 (x0 : ByteArray) : Bool := (if (Decidable.decide ((↑(ByteArray.size x0) : Int) ≤ 100)) = true then !g70c84_0 (bytesOf x0) else Bool.false)
theorem at60 (x0 : ByteArray) (h : P60 x0) (K : Ctx) (q : Nat → Value) : AtV Tryz.prog 60 (PostR kds60 oks60 [⟨Ty.bool, g60_0 x0⟩] [] [] q K) 12 K q [] [.code b60] (entE 0 0 sig60 (x0, ())) (entL sig60 (x0, ())) := by
  unfold P60 at h
  unfold g60_0
  by_cases b0 : (Decidable.decide ((↑(ByteArray.size x0) : Int) ≤ 100)) = true
  · try simp only [if_pos b0] at h ⊢
    exact AtV.ret Tryz.func60 tabOk ext60Ok mixed false [] tys60 [true] (a1 b0 (a1 trivial trivial)) (by kernel_rfl)
  · try simp only [if_neg b0] at h ⊢
    replace b0 := Bool.eq_false_iff.2 b0
    exact AtV.ret Tryz.func60 tabOk ext60Ok mixed false [] tys60 [false] (a1 b0 trivial) (by kernel_rfl)

def S60 : Am.Spec := { sig := sig60, pre := fun ⟨x0, _⟩ => P60 x0, res := fun ⟨x0, _⟩ => [⟨Ty.bool, g60_0 x0⟩], kds := kds60 }
theorem con60 : Contract Tryz.prog 60 S60 := contract_of Tryz.func60 hb60 (Nat.le_of_ble_eq_true (by kernel_rfl)) (fun ⟨x0, _⟩ h _ K q => at60 x0 h K q)


end
end Go.Proofs.YtmbkjhbindikkaaGreatDoor

/- Function 59 (impl.ValidReport$1): its runs between cut points. Written by a program of this repo (gen). -/
set_option linter.unusedVariables false
set_option linter.unusedSimpArgs false
set_option maxRecDepth 100000
namespace Go.Proofs.YtmbkjhbindikkaaGreatDoor
open Go Go.Am Go.Proofs
noncomputable section
def ext59 : Ext := [(60, S60)]
theorem call59_60 : Callable Tryz.prog 60 := ⟨Tryz.f60, Tryz.func60, by kernel_rfl, by kernel_rfl⟩
theorem ext59Ok : ExtOk Tryz.prog ext59 := ⟨⟨call59_60, con60⟩, trivial⟩

noncomputable def b59 : Code := bodyOf Tryz.f59
theorem hb59 : Tryz.f59.body = some b59 := by kernel_rfl
def sig59 : List AT := [AT.v (Ty.str)]
def tys59 : List Ty := [Ty.bool]
def kds59 : List RK := []
def oks59 : List AT := owns sig59
def P59 (x0 : ByteArray) : Prop := True
def g59_0 (x0 : ByteArray) : Bool := !g60_0 x0
theorem at59 (x0 : ByteArray) (h : P59 x0) (K : Ctx) (q : Nat → Value) : AtV Tryz.prog 59 (PostR kds59 oks59 [⟨Ty.bool, g59_0 x0⟩] [] [] q K) 6 K q [] [.code b59] (entE 0 0 sig59 (x0, ())) (entL sig59 (x0, ())) := by
  unfold P59 at h
  unfold g59_0
  exact AtV.ret Tryz.func59 tabOk ext59Ok mixed false [] tys59 [] (a1 trivial trivial) (by kernel_rfl)

def S59 : Am.Spec := { sig := sig59, pre := fun ⟨x0, _⟩ => P59 x0, res := fun ⟨x0, _⟩ => [⟨Ty.bool, g59_0 x0⟩], kds := kds59 }
theorem con59 : Contract Tryz.prog 59 S59 := contract_of Tryz.func59 hb59 (Nat.le_of_ble_eq_true (by kernel_rfl)) (fun ⟨x0, _⟩ h _ K q => at59 x0 h K q)


end
end Go.Proofs.YtmbkjhbindikkaaGreatDoor

/- Function 83 (slices.IndexFunc[[]string,string]): its runs between cut points. Written by a program of this repo (gen). -/
set_option linter.unusedVariables false
set_option linter.unusedSimpArgs false
set_option maxRecDepth 100000
namespace Go.Proofs.YtmbkjhbindikkaaGreatDoor
open Go Go.Am Go.Proofs
noncomputable section
def ext83c59 : Ext := [(59, S59)]
theorem call83c59_59 : Callable Tryz.prog 59 := ⟨Tryz.f59, Tryz.func59, by kernel_rfl, by kernel_rfl⟩
theorem ext83c59Ok : ExtOk Tryz.prog ext83c59 := ⟨⟨call83c59_59, con59⟩, trivial⟩

noncomputable def b83c59 : Code := bodyOf Tryz.f83
theorem hb83c59 : Tryz.f83.body = some b83c59 := by kernel_rfl
def sig83c59 : List AT := [AT.v (Ty.sl Ty.str), AT.fn 59 []]
def tys83c59 : List Ty := [Ty.int IntKind.i64]
def kds83c59 : List RK := []
def oks83c59 : List AT := owns sig83c59
def E83c59_2 (v8 : Int) (x0 : List ByteArray) : Env := [(0, PV.a (Atom.sl Ty.str x0)), (1, PV.fn 59 []), (7, PV.a (Atom.val (Value.int IntKind.i64 (↑(List.length x0) : Int)))), (8, PV.a (Atom.val (Value.int IntKind.i64 v8)))]
def L83c59_2 (v8 : Int) (x0 : List ByteArray) : Heap := []
mutual
def R83c59 : Nat → List ByteArray → List Dyn → Prop
  | 0, _, _ => False
  | n + 1, x0, ds => (R83c59_2 n (0) (x0) ds)
def R83c59_2 : Nat → Int → List ByteArray → List Dyn → Prop
  | 0, _, _, _ => False
  | n + 1, v8, x0, ds => (if (Decidable.decide (v8 < (↑(List.length x0) : Int))) = true then ((0 ≤ v8) ∧ (v8 < (↑(List.length x0) : Int)) ∧ (if (g59_0 (List.getD x0 (Int.toNat v8) ByteArray.empty)) = true then (ds = [Dyn.mk (Ty.int IntKind.i64) v8]) else ((InR IntKind.i64 (v8 + 1)) ∧ (R83c59_2 n (v8 + 1) (x0) ds)))) else (ds = [Dyn.mk (Ty.int IntKind.i64) (-1)]))
end
theorem snd83c59 : ∀ n, (∀ (x0 : List ByteArray) ds, R83c59 n x0 ds → ∀ K q, AtV Tryz.prog 83 (PostR kds83c59 oks83c59 ds [] [] q K) 19 K q [] [.code b83c59] (entE 0 0 sig83c59 (x0, (), ())) (entL sig83c59 (x0, (), ()))) ∧ (∀ (v8 : Int) (x0 : List ByteArray) ds, R83c59_2 n v8 x0 ds → ∀ K q, AtV Tryz.prog 83 (PostR kds83c59 oks83c59 ds [] [] q K) 19 K q [] (cutAt b83c59 2) (E83c59_2 v8 x0) (L83c59_2 v8 x0)) := by
  intro n
  induction n with
  | zero => exact ⟨fun _ _ h => by simp only [R83c59] at h, fun _ _ _ h => by simp only [R83c59_2] at h⟩
  | succ n ih =>
  obtain ⟨ih, ih2⟩ := ih
  refine ⟨?_, ?_⟩
  · intro x0 ds h K q
    rw [R83c59] at h
    exact AtV.go tabOk ext83c59Ok mixed false [] [] [0, 1, 7, 8] [] [] trivial (ih2 _ _ _ h K q) (by kernel_rfl)

  · intro v8 x0 ds h K q
    rw [R83c59_2] at h
    by_cases b0 : (Decidable.decide (v8 < (↑(List.length x0) : Int))) = true
    · rw [if_pos b0] at h
      obtain ⟨s0, s1, h⟩ := h
      by_cases b1 : (g59_0 (List.getD x0 (Int.toNat v8) ByteArray.empty)) = true
      · rw [if_pos b1] at h
        subst h
        exact AtV.ret Tryz.func83 tabOk ext83c59Ok mixed false [] tys83c59 [true, true] (a1 b0 (a1 s0 (a1 s1 (a1 trivial (a1 b1 trivial))))) (by kernel_rfl)
      · rw [if_neg b1] at h
        replace b1 := Bool.eq_false_iff.2 b1
        obtain ⟨s2, h⟩ := h
        exact AtV.go tabOk ext83c59Ok mixed false [] [] [0, 1, 7, 8] [] [true, false] (a1 b0 (a1 s0 (a1 s1 (a1 trivial (a1 b1 (a1 s2 trivial)))))) (ih2 _ _ _ h K q) (by kernel_rfl)
    · rw [if_neg b0] at h
      replace b0 := Bool.eq_false_iff.2 b0
      subst h
      exact AtV.ret Tryz.func83 tabOk ext83c59Ok mixed false [] tys83c59 [false] (a1 b0 trivial) (by kernel_rfl)



def g83c59_0 (x0 : List (ByteArray)) : Int := idx (x0.findIdx? g59_0)
def P83c59 (x0 : List (ByteArray)) : Prop := True

theorem top83c59 (x0 : List (ByteArray)) (hm : x0.length ≤ maxLen) : R83c59 (x0.length + 1 + 1) x0 [⟨.int .i64, g83c59_0 x0⟩] := by
  rw [R83c59]
  have key := loop_find x0 ByteArray.empty g59_0 [(⟨.int .i64, -1⟩ : Dyn)] (fun k => [⟨.int .i64, k⟩]) (fun n i ds => R83c59_2 n i x0 ds) (fun n => ?_) (fun n i hi hok ds hr => ?_) (fun n i hi hok => ?_)
  · unfold g83c59_0
    cases h : x0.findIdx? g59_0 <;> rw [h] at key <;> exact key
  · rw [R83c59_2, if_neg (by simp)]
  · rw [R83c59_2, if_pos (by simp; omega)]
    simp only [Int.toNat_natCast]
    refine ⟨by omega, by omega, ?_⟩
    rw [if_neg (by rw [hok]; simp)]
    exact ⟨inR_up hm hi, hr⟩
  · rw [R83c59_2, if_pos (by simp; omega)]
    simp only [Int.toNat_natCast]
    refine ⟨by omega, by omega, ?_⟩
    rw [if_pos hok] <;> trivial

def S83c59 : Am.Spec := { sig := sig83c59, pre := fun ⟨x0, _⟩ => P83c59 x0, res := fun ⟨x0, _⟩ => [⟨Ty.int .i64, g83c59_0 x0⟩] }
theorem con83c59 : Contract Tryz.prog 83 S83c59 := contract_of Tryz.func83 hb83c59 (Nat.le_of_ble_eq_true (by kernel_rfl)) (fun ⟨x0, _⟩ h hwf K q =>
  (snd83c59 _).1 x0 _ (top83c59 x0 hwf.1.1) K q)

theorem any83c59 (x0 : List (ByteArray)) : decide (g83c59_0 x0 ≥ 0) = x0.any g59_0 := by
  have := findIdx_any g59_0 x0
  unfold g83c59_0
  cases h : x0.any g59_0 with
  | true => rw [h] at this; simpa using this
  | false => rw [h] at this; simpa using this

end
end Go.Proofs.YtmbkjhbindikkaaGreatDoor

/- Function 58 (slices.ContainsFunc[[]string,string]): its runs between cut points. Written by a program of this repo (gen). -/
set_option linter.unusedVariables false
set_option linter.unusedSimpArgs false
set_option maxRecDepth 100000
namespace Go.Proofs.YtmbkjhbindikkaaGreatDoor
open Go Go.Am Go.Proofs
noncomputable section
def ext58c59 : Ext := [(83, S83c59), (59, S59)]
theorem call58c59_83 : Callable Tryz.prog 83 := ⟨Tryz.f83, Tryz.func83, by kernel_rfl, by kernel_rfl⟩
theorem call58c59_59 : Callable Tryz.prog 59 := ⟨Tryz.f59, Tryz.func59, by kernel_rfl, by kernel_rfl⟩
theorem ext58c59Ok : ExtOk Tryz.prog ext58c59 := ⟨⟨call58c59_83, con83c59⟩, ⟨call58c59_59, con59⟩, trivial⟩

noncomputable def b58c59 : Code := bodyOf Tryz.f58
theorem hb58c59 : Tryz.f58.body = some b58c59 := by kernel_rfl
def sig58c59 : List AT := [AT.v (Ty.sl Ty.str), AT.fn 59 []]
def tys58c59 : List Ty := [Ty.bool]
def kds58c59 : List RK := []
def oks58c59 : List AT := owns sig58c59
def P58c59 (x0 : List ByteArray) : Prop := True
def g58c59_0 (x0 : List ByteArray) : Bool := Decidable.decide (g83c59_0 x0 ≥ 0)
theorem at58c59 (x0 : List ByteArray) (h : P58c59 x0) (K : Ctx) (q : Nat → Value) : AtV Tryz.prog 58 (PostR kds58c59 oks58c59 [⟨Ty.bool, g58c59_0 x0⟩] [] [] q K) 9 K q [] [.code b58c59] (entE 0 0 sig58c59 (x0, (), ())) (entL sig58c59 (x0, (), ())) := by
  unfold P58c59 at h
  unfold g58c59_0
  exact AtV.ret Tryz.func58 tabOk ext58c59Ok mixed false [] tys58c59 [] (a1 trivial trivial) (by kernel_rfl)

def S58c59 : Am.Spec := { sig := sig58c59, pre := fun ⟨x0, _⟩ => P58c59 x0, res := fun ⟨x0, _⟩ => [⟨Ty.bool, g58c59_0 x0⟩], kds := kds58c59 }
theorem con58c59 : Contract Tryz.prog 58 S58c59 := contract_of Tryz.func58 hb58c59 (Nat.le_of_ble_eq_true (by kernel_rfl)) (fun ⟨x0, _⟩ h _ K q => at58c59 x0 h K q)


end
end Go.Proofs.YtmbkjhbindikkaaGreatDoor

/- Function 27 (impl.ValidReport): its runs between cut points. Written by a program of this repo (gen). -/
set_option linter.unusedVariables false
set_option linter.unusedSimpArgs false
set_option maxRecDepth 100000
namespace Go.Proofs.YtmbkjhbindikkaaGreatDoor
open Go Go.Am Go.Proofs
noncomputable section
def ext27 : Ext := [(58, S58c59)]
theorem call27_58 : Callable Tryz.prog 58 := ⟨Tryz.f58, Tryz.func58, by kernel_rfl, by kernel_rfl⟩
theorem ext27Ok : ExtOk Tryz.prog ext27 := ⟨⟨call27_58, con58c59⟩, trivial⟩

noncomputable def b27 : Code := bodyOf Tryz.f27
theorem hb27 : Tryz.f27.body = some b27 := by kernel_rfl
def sig27 : List AT := [AT.v (Ty.sl Ty.str)]
def tys27 : List Ty := [Ty.bool]
def kds27 : List RK := []
def oks27 : List AT := owns sig27
def P27 (x0 : List ByteArray) : Prop := True
def g27_0 (x0 : List ByteArray) : Bool := (if (Decidable.decide ((↑(List.length x0) : Int) ≤ 200)) = true then !g58c59_0 x0 else Bool.false)
theorem at27 (x0 : List ByteArray) (h : P27 x0) (K : Ctx) (q : Nat → Value) : AtV Tryz.prog 27 (PostR kds27 oks27 [⟨Ty.bool, g27_0 x0⟩] [] [] q K) 11 K q [] [.code b27] (entE 0 0 sig27 (x0, ())) (entL sig27 (x0, ())) := by
  unfold P27 at h
  unfold g27_0
  by_cases b0 : (Decidable.decide ((↑(List.length x0) : Int) ≤ 200)) = true
  · try simp only [if_pos b0] at h ⊢
    exact AtV.ret Tryz.func27 tabOk ext27Ok mixed false [] tys27 [true] (a1 b0 (a1 trivial trivial)) (by kernel_rfl)
  · try simp only [if_neg b0] at h ⊢
    replace b0 := Bool.eq_false_iff.2 b0
    exact AtV.ret Tryz.func27 tabOk ext27Ok mixed false [] tys27 [false] (a1 b0 trivial) (by kernel_rfl)

def S27 : Am.Spec := { sig := sig27, pre := fun ⟨x0, _⟩ => P27 x0, res := fun ⟨x0, _⟩ => [⟨Ty.bool, g27_0 x0⟩], kds := kds27 }
theorem con27 : Contract Tryz.prog 27 S27 := contract_of Tryz.func27 hb27 (Nat.le_of_ble_eq_true (by kernel_rfl)) (fun ⟨x0, _⟩ h _ K q => at27 x0 h K q)


end
end Go.Proofs.YtmbkjhbindikkaaGreatDoor

/- Function 50 (impl.orFull): its runs between cut points. Written by a program of this repo (gen). -/
set_option linter.unusedVariables false
set_option linter.unusedSimpArgs false
set_option maxRecDepth 100000
namespace Go.Proofs.YtmbkjhbindikkaaGreatDoor
open Go Go.Am Go.Proofs
noncomputable section
def ext50 : Ext := [(27, S27)]
theorem call50_27 : Callable Tryz.prog 27 := ⟨Tryz.f27, Tryz.func27, by kernel_rfl, by kernel_rfl⟩
theorem ext50Ok : ExtOk Tryz.prog ext50 := ⟨⟨call50_27, con27⟩, trivial⟩

noncomputable def b50 : Code := bodyOf Tryz.f50
theorem hb50 : Tryz.f50.body = some b50 := by kernel_rfl
def sig50 : List AT := [AT.own Ty.str]
def tys50 : List Ty := [Ty.sl Ty.str, Ty.int IntKind.i64]
def kds50 : List RK := []
def oks50 : List AT := owns sig50
def P50 (x0 : List ByteArray) : Prop := True
def g50_0 (x0 : List ByteArray) : List ByteArray := (if (!g27_0 x0) = true then [] else x0)
def g50_1 (x0 : List ByteArray) : Int := (if (!g27_0 x0) = true then 5 else 0)
theorem at50 (x0 : List ByteArray) (h : P50 x0) (K : Ctx) (q : Nat → Value) : AtV Tryz.prog 50 (PostR kds50 oks50 [⟨Ty.sl Ty.str, g50_0 x0⟩, ⟨Ty.int IntKind.i64, g50_1 x0⟩] [none] [0] q K) 8 K q [0] [.code b50] (entE 0 0 sig50 (x0, ())) (entL sig50 (x0, ())) := by
  unfold P50 at h
  unfold g50_0 g50_1
  by_cases b0 : (!g27_0 x0) = true
  · try simp only [if_pos b0] at h ⊢
    exact AtV.weak (AtV.ret (us := [Option.some (Lst.mk Ty.str x0)]) Tryz.func50 tabOk ext50Ok mixed false [] tys50 [true] (a1 trivial (a1 b0 trivial)) (by kernel_rfl)) ⟨.inr rfl, trivial⟩
  · try simp only [if_neg b0] at h ⊢
    replace b0 := Bool.eq_false_iff.2 b0
    exact AtV.weak (AtV.ret (us := [Option.none]) Tryz.func50 tabOk ext50Ok mixed false [] tys50 [false] (a1 trivial (a1 b0 trivial)) (by kernel_rfl)) ⟨.inr rfl, trivial⟩

def S50 : Am.Spec := { sig := sig50, pre := fun ⟨x0, _⟩ => P50 x0, upd := fun ⟨x0, _⟩ => [none], res := fun ⟨x0, _⟩ => [⟨Ty.sl Ty.str, g50_0 x0⟩, ⟨Ty.int IntKind.i64, g50_1 x0⟩], kds := kds50 }
theorem con50 : Contract Tryz.prog 50 S50 := contract_of Tryz.func50 hb50 (Nat.le_of_ble_eq_true (by kernel_rfl)) (fun ⟨x0, _⟩ h _ K q => at50 x0 h K q)


end
end Go.Proofs.YtmbkjhbindikkaaGreatDoor

/- Function 71 (impl.areCells$1$1): its runs between cut points. Written by a program of this repo (gen). -/
set_option linter.unusedVariables false
set_option linter.unusedSimpArgs false
set_option maxRecDepth 100000
namespace Go.Proofs.YtmbkjhbindikkaaGreatDoor
open Go Go.Am Go.Proofs
noncomputable section
def ext71 : Ext := []
theorem ext71Ok : ExtOk Tryz.prog ext71 := trivial

noncomputable def b71 : Code := bodyOf Tryz.f71
theorem hb71 : Tryz.f71.body = some b71 := by kernel_rfl
def sig71 : List AT := [AT.v (Ty.int IntKind.u8)]
def tys71 : List Ty := [Ty.bool]
def kds71 : List RK := []
def oks71 : List AT := owns sig71
def P71 (x0 : Int) : Prop := True
def g71_0 (x0 : Int) : Bool := (if (Decidable.decide (x0 < 33)) = true then Bool.true else Decidable.decide (x0 > 126))
theorem at71 (x0 : Int) (h : P71 x0) (K : Ctx) (q : Nat → Value) : AtV Tryz.prog 71 (PostR kds71 oks71 [⟨Ty.bool, g71_0 x0⟩] [] [] q K) 9 K q [] [.code b71] (entE 0 0 sig71 (x0, ())) (entL sig71 (x0, ())) := by
  unfold P71 at h
  unfold g71_0
  by_cases b0 : (Decidable.decide (x0 < 33)) = true
  · try simp only [if_pos b0] at h ⊢
    exact AtV.ret Tryz.func71 tabOk ext71Ok mixed false [] tys71 [true] (a1 b0 trivial) (by kernel_rfl)
  · try simp only [if_neg b0] at h ⊢
    replace b0 := Bool.eq_false_iff.2 b0
    exact AtV.ret Tryz.func71 tabOk ext71Ok mixed false [] tys71 [false] (a1 b0 trivial) (by kernel_rfl)

def S71 : Am.Spec := { sig := sig71, pre := fun ⟨x0, _⟩ => P71 x0, res := fun ⟨x0, _⟩ => [⟨Ty.bool, g71_0 x0⟩], kds := kds71 }
theorem con71 : Contract Tryz.prog 71 S71 := contract_of Tryz.func71 hb71 (Nat.le_of_ble_eq_true (by kernel_rfl)) (fun ⟨x0, _⟩ h _ K q => at71 x0 h K q)


end
end Go.Proofs.YtmbkjhbindikkaaGreatDoor

/- Function 102 (slices.IndexFunc[[]byte,byte]): its runs between cut points. Written by a program of this repo (gen). -/
set_option linter.unusedVariables false
set_option linter.unusedSimpArgs false
set_option maxRecDepth 100000
namespace Go.Proofs.YtmbkjhbindikkaaGreatDoor
open Go Go.Am Go.Proofs
noncomputable section
def ext102c71 : Ext := [(71, S71)]
theorem call102c71_71 : Callable Tryz.prog 71 := ⟨Tryz.f71, Tryz.func71, by kernel_rfl, by kernel_rfl⟩
theorem ext102c71Ok : ExtOk Tryz.prog ext102c71 := ⟨⟨call102c71_71, con71⟩, trivial⟩

noncomputable def b102c71 : Code := bodyOf Tryz.f102
theorem hb102c71 : Tryz.f102.body = some b102c71 := by kernel_rfl
def sig102c71 : List AT := [AT.v (Ty.sl (Ty.int IntKind.u8)), AT.fn 71 []]
def tys102c71 : List Ty := [Ty.int IntKind.i64]
def kds102c71 : List RK := []
def oks102c71 : List AT := owns sig102c71
def E102c71_2 (v8 : Int) (x0 : List Int) : Env := [(0, PV.a (Atom.sl (Ty.int IntKind.u8) x0)), (1, PV.fn 71 []), (7, PV.a (Atom.val (Value.int IntKind.i64 (↑(List.length x0) : Int)))), (8, PV.a (Atom.val (Value.int IntKind.i64 v8)))]
def L102c71_2 (v8 : Int) (x0 : List Int) : Heap := []
mutual
def R102c71 : Nat → List Int → List Dyn → Prop
  | 0, _, _ => False
  | n + 1, x0, ds => (R102c71_2 n (0) (x0) ds)
def R102c71_2 : Nat → Int → List Int → List Dyn → Prop
  | 0, _, _, _ => False
  | n + 1, v8, x0, ds => (if (Decidable.decide (v8 < (↑(List.length x0) : Int))) = true then ((0 ≤ v8) ∧ (v8 < (↑(List.length x0) : Int)) ∧ (if (g71_0 (List.getD x0 (Int.toNat v8) 0)) = true then (ds = [Dyn.mk (Ty.int IntKind.i64) v8]) else ((InR IntKind.i64 (v8 + 1)) ∧ (R102c71_2 n (v8 + 1) (x0) ds)))) else (ds = [Dyn.mk (Ty.int IntKind.i64) (-1)]))
end
theorem snd102c71 : ∀ n, (∀ (x0 : List Int) ds, R102c71 n x0 ds → ∀ K q, AtV Tryz.prog 102 (PostR kds102c71 oks102c71 ds [] [] q K) 19 K q [] [.code b102c71] (entE 0 0 sig102c71 (x0, (), ())) (entL sig102c71 (x0, (), ()))) ∧ (∀ (v8 : Int) (x0 : List Int) ds, R102c71_2 n v8 x0 ds → ∀ K q, AtV Tryz.prog 102 (PostR kds102c71 oks102c71 ds [] [] q K) 19 K q [] (cutAt b102c71 2) (E102c71_2 v8 x0) (L102c71_2 v8 x0)) := by
  intro n
  induction n with
  | zero => exact ⟨fun _ _ h => by simp only [R102c71] at h, fun _ _ _ h => by simp only [R102c71_2] at h⟩
  | succ n ih =>
  obtain ⟨ih, ih2⟩ := ih
  refine ⟨?_, ?_⟩
  · intro x0 ds h K q
    rw [R102c71] at h
    exact AtV.go tabOk ext102c71Ok mixed false [] [] [0, 1, 7, 8] [] [] trivial (ih2 _ _ _ h K q) (by kernel_rfl)

  · intro v8 x0 ds h K q
    rw [R102c71_2] at h
    by_cases b0 : (Decidable.decide (v8 < (↑(List.length x0) : Int))) = true
    · rw [if_pos b0] at h
      obtain ⟨s0, s1, h⟩ := h
      by_cases b1 : (g71_0 (List.getD x0 (Int.toNat v8) 0)) = true
      · rw [if_pos b1] at h
        subst h
        exact AtV.ret Tryz.func102 tabOk ext102c71Ok mixed false [] tys102c71 [true, true] (a1 b0 (a1 s0 (a1 s1 (a1 trivial (a1 b1 trivial))))) (by kernel_rfl)
      · rw [if_neg b1] at h
        replace b1 := Bool.eq_false_iff.2 b1
        obtain ⟨s2, h⟩ := h
        exact AtV.go tabOk ext102c71Ok mixed false [] [] [0, 1, 7, 8] [] [true, false] (a1 b0 (a1 s0 (a1 s1 (a1 trivial (a1 b1 (a1 s2 trivial)))))) (ih2 _ _ _ h K q) (by kernel_rfl)
    · rw [if_neg b0] at h
      replace b0 := Bool.eq_false_iff.2 b0
      subst h
      exact AtV.ret Tryz.func102 tabOk ext102c71Ok mixed false [] tys102c71 [false] (a1 b0 trivial) (by kernel_rfl)



def g102c71_0 (x0 : List (Int)) : Int := idx (x0.findIdx? g71_0)
def P102c71 (x0 : List (Int)) : Prop := True

theorem top102c71 (x0 : List (Int)) (hm : x0.length ≤ maxLen) : R102c71 (x0.length + 1 + 1) x0 [⟨.int .i64, g102c71_0 x0⟩] := by
  rw [R102c71]
  have key := loop_find x0 (0 : Int) g71_0 [(⟨.int .i64, -1⟩ : Dyn)] (fun k => [⟨.int .i64, k⟩]) (fun n i ds => R102c71_2 n i x0 ds) (fun n => ?_) (fun n i hi hok ds hr => ?_) (fun n i hi hok => ?_)
  · unfold g102c71_0
    cases h : x0.findIdx? g71_0 <;> rw [h] at key <;> exact key
  · rw [R102c71_2, if_neg (by simp)]
  · rw [R102c71_2, if_pos (by simp; omega)]
    simp only [Int.toNat_natCast]
    refine ⟨by omega, by omega, ?_⟩
    rw [if_neg (by rw [hok]; simp)]
    exact ⟨inR_up hm hi, hr⟩
  · rw [R102c71_2, if_pos (by simp; omega)]
    simp only [Int.toNat_natCast]
    refine ⟨by omega, by omega, ?_⟩
    rw [if_pos hok] <;> trivial

def S102c71 : Am.Spec := { sig := sig102c71, pre := fun ⟨x0, _⟩ => P102c71 x0, res := fun ⟨x0, _⟩ => [⟨Ty.int .i64, g102c71_0 x0⟩] }
theorem con102c71 : Contract Tryz.prog 102 S102c71 := contract_of Tryz.func102 hb102c71 (Nat.le_of_ble_eq_true (by kernel_rfl)) (fun ⟨x0, _⟩ h hwf K q =>
  (snd102c71 _).1 x0 _ (top102c71 x0 hwf.1.1) K q)

end
end Go.Proofs.YtmbkjhbindikkaaGreatDoor

/- Function 70 (slices.ContainsFunc[[]byte,byte]): its runs between cut points. Written by a program of this repo (gen). -/
set_option linter.unusedVariables false
set_option linter.unusedSimpArgs false
set_option maxRecDepth 100000
namespace Go.Proofs.YtmbkjhbindikkaaGreatDoor
open Go Go.Am Go.Proofs
noncomputable section
def ext70c71 : Ext := [(102, S102c71), (71, S71)]
theorem call70c71_102 : Callable Tryz.prog 102 := ⟨Tryz.f102, Tryz.func102, by kernel_rfl, by kernel_rfl⟩
theorem call70c71_71 : Callable Tryz.prog 71 := ⟨Tryz.f71, Tryz.func71, by kernel_rfl, by kernel_rfl⟩
theorem ext70c71Ok : ExtOk Tryz.prog ext70c71 := ⟨⟨call70c71_102, con102c71⟩, ⟨call70c71_71, con71⟩, trivial⟩

noncomputable def b70c71 : Code := bodyOf Tryz.f70
theorem hb70c71 : Tryz.f70.body = some b70c71 := by kernel_rfl
def sig70c71 : List AT := [AT.v (Ty.sl (Ty.int IntKind.u8)), AT.fn 71 []]
def tys70c71 : List Ty := [Ty.bool]
def kds70c71 : List RK := []
def oks70c71 : List AT := owns sig70c71
def P70c71 (x0 : List Int) : Prop := True
def g70c71_0 (x0 : List Int) : Bool := Decidable.decide (g102c71_0 x0 ≥ 0)
theorem at70c71 (x0 : List Int) (h : P70c71 x0) (K : Ctx) (q : Nat → Value) : AtV Tryz.prog 70 (PostR kds70c71 oks70c71 [⟨Ty.bool, g70c71_0 x0⟩] [] [] q K) 9 K q [] [.code b70c71] (entE 0 0 sig70c71 (x0, (), ())) (entL sig70c71 (x0, (), ())) := by
  unfold P70c71 at h
  unfold g70c71_0
  exact AtV.ret Tryz.func70 tabOk ext70c71Ok mixed false [] tys70c71 [] (a1 trivial trivial) (by kernel_rfl)

def S70c71 : Am.Spec := { sig := sig70c71, pre := fun ⟨x0, _⟩ => P70c71 x0, res := fun ⟨x0, _⟩ => [⟨Ty.bool, g70c71_0 x0⟩], kds := kds70c71 }
theorem con70c71 : Contract Tryz.prog 70 S70c71 := contract_of Tryz.func70 hb70c71 (Nat.le_of_ble_eq_true (by kernel_rfl)) (fun ⟨x0, _⟩ h _ K q => at70c71 x0 h K q)


end
end Go.Proofs.YtmbkjhbindikkaaGreatDoor

/- Function 69 (impl.areCells$1): its runs between cut points. Written by a program of this repo (gen). -/
set_option linter.unusedVariables false
set_option linter.unusedSimpArgs false
set_option maxRecDepth 100000
namespace Go.Proofs.YtmbkjhbindikkaaGreatDoor
open Go Go.Am Go.Proofs
noncomputable section
def ext69 : Ext := [(70, S70c71)]
theorem call69_70 : Callable Tryz.prog 70 := ⟨Tryz.f70, Tryz.func70, by kernel_rfl, by kernel_rfl⟩
theorem ext69Ok : ExtOk Tryz.prog ext69 := ⟨⟨call69_70, con70c71⟩, trivial⟩

noncomputable def b69 : Code := bodyOf Tryz.f69
theorem hb69 : Tryz.f69.body = some b69 := by kernel_rfl
def sig69 : List AT := [AT.v (Ty.str)]
def tys69 : List Ty := [Ty.bool]
def kds69 : List RK := []
def oks69 : List AT := owns sig69
def P69 (x0 : ByteArray) : Prop := True
def g69_0 (x0 : ByteArray) : Bool := g70c71_0 (bytesOf x0)
theorem at69 (x0 : ByteArray) (h : P69 x0) (K : Ctx) (q : Nat → Value) : AtV Tryz.prog 69 (PostR kds69 oks69 [⟨Ty.bool, g69_0 x0⟩] [] [] q K) 6 K q [] [.code b69] (entE 0 0 sig69 (x0, ())) (entL sig69 (x0, ())) := by
  unfold P69 at h
  unfold g69_0
  exact AtV.ret Tryz.func69 tabOk ext69Ok mixed false [] tys69 [] (a1 trivial trivial) (by kernel_rfl)

def S69 : Am.Spec := { sig := sig69, pre := fun ⟨x0, _⟩ => P69 x0, res := fun ⟨x0, _⟩ => [⟨Ty.bool, g69_0 x0⟩], kds := kds69 }
theorem con69 : Contract Tryz.prog 69 S69 := contract_of Tryz.func69 hb69 (Nat.le_of_ble_eq_true (by kernel_rfl)) (fun ⟨x0, _⟩ h _ K q => at69 x0 h K q)


end
end Go.Proofs.YtmbkjhbindikkaaGreatDoor

/- Function 83 (slices.IndexFunc[[]string,string]): its runs between cut points. Written by a program of this repo (gen). -/
set_option linter.unusedVariables false
set_option linter.unusedSimpArgs false
set_option maxRecDepth 100000
namespace Go.Proofs.YtmbkjhbindikkaaGreatDoor
open Go Go.Am Go.Proofs
noncomputable section
def ext83c69 : Ext := [(69, S69)]
theorem call83c69_69 : Callable Tryz.prog 69 := ⟨Tryz.f69, Tryz.func69, by kernel_rfl, by kernel_rfl⟩
theorem ext83c69Ok : ExtOk Tryz.prog ext83c69 := ⟨⟨call83c69_69, con69⟩, trivial⟩

noncomputable def b83c69 : Code := bodyOf Tryz.f83
theorem hb83c69 : Tryz.f83.body = some b83c69 := by kernel_rfl
def sig83c69 : List AT := [AT.v (Ty.sl Ty.str), AT.fn 69 []]
def tys83c69 : List Ty := [Ty.int IntKind.i64]
def kds83c69 : List RK := []
def oks83c69 : List AT := owns sig83c69
def E83c69_2 (v8 : Int) (x0 : List ByteArray) : Env := [(0, PV.a (Atom.sl Ty.str x0)), (1, PV.fn 69 []), (7, PV.a (Atom.val (Value.int IntKind.i64 (↑(List.length x0) : Int)))), (8, PV.a (Atom.val (Value.int IntKind.i64 v8)))]
def L83c69_2 (v8 : Int) (x0 : List ByteArray) : Heap := []
mutual
def R83c69 : Nat → List ByteArray → List Dyn → Prop
  | 0, _, _ => False
  | n + 1, x0, ds => (R83c69_2 n (0) (x0) ds)
def R83c69_2 : Nat → Int → List ByteArray → List Dyn → Prop
  | 0, _, _, _ => False
  | n + 1, v8, x0, ds => (if (Decidable.decide (v8 < (↑(List.length x0) : Int))) = true then ((0 ≤ v8) ∧ (v8 < (↑(List.length x0) : Int)) ∧ (if (g69_0 (List.getD x0 (Int.toNat v8) ByteArray.empty)) = true then (ds = [Dyn.mk (Ty.int IntKind.i64) v8]) else ((InR IntKind.i64 (v8 + 1)) ∧ (R83c69_2 n (v8 + 1) (x0) ds)))) else (ds = [Dyn.mk (Ty.int IntKind.i64) (-1)]))
end
theorem snd83c69 : ∀ n, (∀ (x0 : List ByteArray) ds, R83c69 n x0 ds → ∀ K q, AtV Tryz.prog 83 (PostR kds83c69 oks83c69 ds [] [] q K) 19 K q [] [.code b83c69] (entE 0 0 sig83c69 (x0, (), ())) (entL sig83c69 (x0, (), ()))) ∧ (∀ (v8 : Int) (x0 : List ByteArray) ds, R83c69_2 n v8 x0 ds → ∀ K q, AtV Tryz.prog 83 (PostR kds83c69 oks83c69 ds [] [] q K) 19 K q [] (cutAt b83c69 2) (E83c69_2 v8 x0) (L83c69_2 v8 x0)) := by
  intro n
  induction n with
  | zero => exact ⟨fun _ _ h => by simp only [R83c69] at h, fun _ _ _ h => by simp only [R83c69_2] at h⟩
  | succ n ih =>
  obtain ⟨ih, ih2⟩ := ih
  refine ⟨?_, ?_⟩
  · intro x0 ds h K q
    rw [R83c69] at h
    exact AtV.go tabOk ext83c69Ok mixed false [] [] [0, 1, 7, 8] [] [] trivial (ih2 _ _ _ h K q) (by kernel_rfl)

  · intro v8 x0 ds h K q
    rw [R83c69_2] at h
    by_cases b0 : (Decidable.decide (v8 < (↑(List.length x0) : Int))) = true
    · rw [if_pos b0] at h
      obtain ⟨s0, s1, h⟩ := h
      by_cases b1 : (g69_0 (List.getD x0 (Int.toNat v8) ByteArray.empty)) = true
      · rw [if_pos b1] at h
        subst h
        exact AtV.ret Tryz.func83 tabOk ext83c69Ok mixed false [] tys83c69 [true, true] (a1 b0 (a1 s0 (a1 s1 (a1 trivial (a1 b1 trivial))))) (by kernel_rfl)
      · rw [if_neg b1] at h
        replace b1 := Bool.eq_false_iff.2 b1
        obtain ⟨s2, h⟩ := h
        exact AtV.go tabOk ext83c69Ok mixed false [] [] [0, 1, 7, 8] [] [true, false] (a1 b0 (a1 s0 (a1 s1 (a1 trivial (a1 b1 (a1 s2 trivial)))))) (ih2 _ _ _ h K q) (by kernel_rfl)
    · rw [if_neg b0] at h
      replace b0 := Bool.eq_false_iff.2 b0
      subst h
      exact AtV.ret Tryz.func83 tabOk ext83c69Ok mixed false [] tys83c69 [false] (a1 b0 trivial) (by kernel_rfl)



def g83c69_0 (x0 : List (ByteArray)) : Int := idx (x0.findIdx? g69_0)
def P83c69 (x0 : List (ByteArray)) : Prop := True

theorem top83c69 (x0 : List (ByteArray)) (hm : x0.length ≤ maxLen) : R83c69 (x0.length + 1 + 1) x0 [⟨.int .i64, g83c69_0 x0⟩] := by
  rw [R83c69]
  have key := loop_find x0 ByteArray.empty g69_0 [(⟨.int .i64, -1⟩ : Dyn)] (fun k => [⟨.int .i64, k⟩]) (fun n i ds => R83c69_2 n i x0 ds) (fun n => ?_) (fun n i hi hok ds hr => ?_) (fun n i hi hok => ?_)
  · unfold g83c69_0
    cases h : x0.findIdx? g69_0 <;> rw [h] at key <;> exact key
  · rw [R83c69_2, if_neg (by simp)]
  · rw [R83c69_2, if_pos (by simp; omega)]
    simp only [Int.toNat_natCast]
    refine ⟨by omega, by omega, ?_⟩
    rw [if_neg (by rw [hok]; simp)]
    exact ⟨inR_up hm hi, hr⟩
  · rw [R83c69_2, if_pos (by simp; omega)]
    simp only [Int.toNat_natCast]
    refine ⟨by omega, by omega, ?_⟩
    rw [if_pos hok] <;> trivial

def S83c69 : Am.Spec := { sig := sig83c69, pre := fun ⟨x0, _⟩ => P83c69 x0, res := fun ⟨x0, _⟩ => [⟨Ty.int .i64, g83c69_0 x0⟩] }
theorem con83c69 : Contract Tryz.prog 83 S83c69 := contract_of Tryz.func83 hb83c69 (Nat.le_of_ble_eq_true (by kernel_rfl)) (fun ⟨x0, _⟩ h hwf K q =>
  (snd83c69 _).1 x0 _ (top83c69 x0 hwf.1.1) K q)

end
end Go.Proofs.YtmbkjhbindikkaaGreatDoor

/- Function 58 (slices.ContainsFunc[[]string,string]): its runs between cut points. Written by a program of this repo (gen). -/
set_option linter.unusedVariables false
set_option linter.unusedSimpArgs false
set_option maxRecDepth 100000
namespace Go.Proofs.YtmbkjhbindikkaaGreatDoor
open Go Go.Am Go.Proofs
noncomputable section
def ext58c69 : Ext := [(83, S83c69), (69, S69)]
theorem call58c69_83 : Callable Tryz.prog 83 := ⟨Tryz.f83, Tryz.func83, by kernel_rfl, by kernel_rfl⟩
theorem call58c69_69 : Callable Tryz.prog 69 := ⟨Tryz.f69, Tryz.func69, by kernel_rfl, by kernel_rfl⟩
theorem ext58c69Ok : ExtOk Tryz.prog ext58c69 := ⟨⟨call58c69_83, con83c69⟩, ⟨call58c69_69, con69⟩, trivial⟩

noncomputable def b58c69 : Code := bodyOf Tryz.f58
theorem hb58c69 : Tryz.f58.body = some b58c69 := by kernel_rfl
def sig58c69 : List AT := [AT.v (Ty.sl Ty.str), AT.fn 69 []]
def tys58c69 : List Ty := [Ty.bool]
def kds58c69 : List RK := []
def oks58c69 : List AT := owns sig58c69
def P58c69 (x0 : List ByteArray) : Prop := True
def g58c69_0 (x0 : List ByteArray) : Bool := Decidable.decide (g83c69_0 x0 ≥ 0)
theorem at58c69 (x0 : List ByteArray) (h : P58c69 x0) (K : Ctx) (q : Nat → Value) : AtV Tryz.prog 58 (PostR kds58c69 oks58c69 [⟨Ty.bool, g58c69_0 x0⟩] [] [] q K) 9 K q [] [.code b58c69] (entE 0 0 sig58c69 (x0, (), ())) (entL sig58c69 (x0, (), ())) := by
  unfold P58c69 at h
  unfold g58c69_0
  exact AtV.ret Tryz.func58 tabOk ext58c69Ok mixed false [] tys58c69 [] (a1 trivial trivial) (by kernel_rfl)

def S58c69 : Am.Spec := { sig := sig58c69, pre := fun ⟨x0, _⟩ => P58c69 x0, res := fun ⟨x0, _⟩ => [⟨Ty.bool, g58c69_0 x0⟩], kds := kds58c69 }
theorem con58c69 : Contract Tryz.prog 58 S58c69 := contract_of Tryz.func58 hb58c69 (Nat.le_of_ble_eq_true (by kernel_rfl)) (fun ⟨x0, _⟩ h _ K q => at58c69 x0 h K q)


end
end Go.Proofs.YtmbkjhbindikkaaGreatDoor

/- Function 46 (impl.areCells): its runs between cut points. Written by a program of this repo (gen). -/
set_option linter.unusedVariables false
set_option linter.unusedSimpArgs false
set_option maxRecDepth 100000
namespace Go.Proofs.YtmbkjhbindikkaaGreatDoor
open Go Go.Am Go.Proofs
noncomputable section
def ext46 : Ext := [(58, S58c69)]
theorem call46_58 : Callable Tryz.prog 58 := ⟨Tryz.f58, Tryz.func58, by kernel_rfl, by kernel_rfl⟩
theorem ext46Ok : ExtOk Tryz.prog ext46 := ⟨⟨call46_58, con58c69⟩, trivial⟩

noncomputable def b46 : Code := bodyOf Tryz.f46
theorem hb46 : Tryz.f46.body = some b46 := by kernel_rfl
def sig46 : List AT := [AT.v (Ty.sl Ty.str)]
def tys46 : List Ty := [Ty.bool]
def kds46 : List RK := []
def oks46 : List AT := owns sig46
def P46 (x0 : List ByteArray) : Prop := True
def g46_0 (x0 : List ByteArray) : Bool := (if (Decidable.decide ((↑(List.length x0) : Int) ≤ 12)) = true then !g58c69_0 x0 else Bool.false)
theorem at46 (x0 : List ByteArray) (h : P46 x0) (K : Ctx) (q : Nat → Value) : AtV Tryz.prog 46 (PostR kds46 oks46 [⟨Ty.bool, g46_0 x0⟩] [] [] q K) 11 K q [] [.code b46] (entE 0 0 sig46 (x0, ())) (entL sig46 (x0, ())) := by
  unfold P46 at h
  unfold g46_0
  by_cases b0 : (Decidable.decide ((↑(List.length x0) : Int) ≤ 12)) = true
  · try simp only [if_pos b0] at h ⊢
    exact AtV.ret Tryz.func46 tabOk ext46Ok mixed false [] tys46 [true] (a1 b0 (a1 trivial trivial)) (by kernel_rfl)
  · try simp only [if_neg b0] at h ⊢
    replace b0 := Bool.eq_false_iff.2 b0
    exact AtV.ret Tryz.func46 tabOk ext46Ok mixed false [] tys46 [false] (a1 b0 trivial) (by kernel_rfl)

def S46 : Am.Spec := { sig := sig46, pre := fun ⟨x0, _⟩ => P46 x0, res := fun ⟨x0, _⟩ => [⟨Ty.bool, g46_0 x0⟩], kds := kds46 }
theorem con46 : Contract Tryz.prog 46 S46 := contract_of Tryz.func46 hb46 (Nat.le_of_ble_eq_true (by kernel_rfl)) (fun ⟨x0, _⟩ h _ K q => at46 x0 h K q)


end
end Go.Proofs.YtmbkjhbindikkaaGreatDoor

/- Function 45 (impl.TableLines$1): its runs between cut points. Written by a program of this repo (gen). -/
set_option linter.unusedVariables false
set_option linter.unusedSimpArgs false
set_option maxRecDepth 100000
namespace Go.Proofs.YtmbkjhbindikkaaGreatDoor
open Go Go.Am Go.Proofs
noncomputable section
def ext45 : Ext := [(46, S46)]
theorem call45_46 : Callable Tryz.prog 46 := ⟨Tryz.f46, Tryz.func46, by kernel_rfl, by kernel_rfl⟩
theorem ext45Ok : ExtOk Tryz.prog ext45 := ⟨⟨call45_46, con46⟩, trivial⟩

noncomputable def b45 : Code := bodyOf Tryz.f45
theorem hb45 : Tryz.f45.body = some b45 := by kernel_rfl
def sig45 : List AT := [AT.v (Ty.sl Ty.str)]
def tys45 : List Ty := [Ty.bool]
def kds45 : List RK := []
def oks45 : List AT := owns sig45
def P45 (x0 : List ByteArray) : Prop := True
def g45_0 (x0 : List ByteArray) : Bool := !g46_0 x0
theorem at45 (x0 : List ByteArray) (h : P45 x0) (K : Ctx) (q : Nat → Value) : AtV Tryz.prog 45 (PostR kds45 oks45 [⟨Ty.bool, g45_0 x0⟩] [] [] q K) 6 K q [] [.code b45] (entE 0 0 sig45 (x0, ())) (entL sig45 (x0, ())) := by
  unfold P45 at h
  unfold g45_0
  exact AtV.ret Tryz.func45 tabOk ext45Ok mixed false [] tys45 [] (a1 trivial trivial) (by kernel_rfl)

def S45 : Am.Spec := { sig := sig45, pre := fun ⟨x0, _⟩ => P45 x0, res := fun ⟨x0, _⟩ => [⟨Ty.bool, g45_0 x0⟩], kds := kds45 }
theorem con45 : Contract Tryz.prog 45 S45 := contract_of Tryz.func45 hb45 (Nat.le_of_ble_eq_true (by kernel_rfl)) (fun ⟨x0, _⟩ h _ K q => at45 x0 h K q)


end
end Go.Proofs.YtmbkjhbindikkaaGreatDoor

/- Function 68 (slices.IndexFunc[[][]string,[]string]): its runs between cut points. Written by a program of this repo (gen). -/
set_option linter.unusedVariables false
set_option linter.unusedSimpArgs false
set_option maxRecDepth 100000
namespace Go.Proofs.YtmbkjhbindikkaaGreatDoor
open Go Go.Am Go.Proofs
noncomputable section
def ext68c45 : Ext := [(45, S45)]
theorem call68c45_45 : Callable Tryz.prog 45 := ⟨Tryz.f45, Tryz.func45, by kernel_rfl, by kernel_rfl⟩
theorem ext68c45Ok : ExtOk Tryz.prog ext68c45 := ⟨⟨call68c45_45, con45⟩, trivial⟩

noncomputable def b68c45 : Code := bodyOf Tryz.f68
theorem hb68c45 : Tryz.f68.body = some b68c45 := by kernel_rfl
def sig68c45 : List AT := [AT.v (Ty.sl (Ty.sl Ty.str)), AT.fn 45 []]
def tys68c45 : List Ty := [Ty.int IntKind.i64]
def kds68c45 : List RK := []
def oks68c45 : List AT := owns sig68c45
def E68c45_2 (v8 : Int) (x0 : List (List ByteArray)) : Env := [(0, PV.a (Atom.sl (Ty.sl Ty.str) x0)), (1, PV.fn 45 []), (7, PV.a (Atom.val (Value.int IntKind.i64 (↑(List.length x0) : Int)))), (8, PV.a (Atom.val (Value.int IntKind.i64 v8)))]
def L68c45_2 (v8 : Int) (x0 : List (List ByteArray)) : Heap := []
mutual
def R68c45 : Nat → List (List ByteArray) → List Dyn → Prop
  | 0, _, _ => False
  | n + 1, x0, ds => (R68c45_2 n (0) (x0) ds)
def R68c45_2 : Nat → Int → List (List ByteArray) → List Dyn → Prop
  | 0, _, _, _ => False
  | n + 1, v8, x0, ds => (if (Decidable.decide (v8 < (↑(List.length x0) : Int))) = true then ((0 ≤ v8) ∧ (v8 < (↑(List.length x0) : Int)) ∧ (if (g45_0 (List.getD x0 (Int.toNat v8) [])) = true then (ds = [Dyn.mk (Ty.int IntKind.i64) v8]) else ((InR IntKind.i64 (v8 + 1)) ∧ (R68c45_2 n (v8 + 1) (x0) ds)))) else (ds = [Dyn.mk (Ty.int IntKind.i64) (-1)]))
end
theorem snd68c45 : ∀ n, (∀ (x0 : List (List ByteArray)) ds, R68c45 n x0 ds → ∀ K q, AtV Tryz.prog 68 (PostR kds68c45 oks68c45 ds [] [] q K) 19 K q [] [.code b68c45] (entE 0 0 sig68c45 (x0, (), ())) (entL sig68c45 (x0, (), ()))) ∧ (∀ (v8 : Int) (x0 : List (List ByteArray)) ds, R68c45_2 n v8 x0 ds → ∀ K q, AtV Tryz.prog 68 (PostR kds68c45 oks68c45 ds [] [] q K) 19 K q [] (cutAt b68c45 2) (E68c45_2 v8 x0) (L68c45_2 v8 x0)) := by
  intro n
  induction n with
  | zero => exact ⟨fun _ _ h => by simp only [R68c45] at h, fun _ _ _ h => by simp only [R68c45_2] at h⟩
  | succ n ih =>
  obtain ⟨ih, ih2⟩ := ih
  refine ⟨?_, ?_⟩
  · intro x0 ds h K q
    rw [R68c45] at h
    exact AtV.go tabOk ext68c45Ok mixed false [] [] [0, 1, 7, 8] [] [] trivial (ih2 _ _ _ h K q) (by kernel_rfl)

  · intro v8 x0 ds h K q
    rw [R68c45_2] at h
    by_cases b0 : (Decidable.decide (v8 < (↑(List.length x0) : Int))) = true
    · rw [if_pos b0] at h
      obtain ⟨s0, s1, h⟩ := h
      by_cases b1 : (g45_0 (List.getD x0 (Int.toNat v8) [])) = true
      · rw [if_pos b1] at h
        subst h
        exact AtV.ret Tryz.func68 tabOk ext68c45Ok mixed false [] tys68c45 [true, true] (a1 b0 (a1 s0 (a1 s1 (a1 trivial (a1 b1 trivial))))) (by kernel_rfl)
      · rw [if_neg b1] at h
        replace b1 := Bool.eq_false_iff.2 b1
        obtain ⟨s2, h⟩ := h
        exact AtV.go tabOk ext68c45Ok mixed false [] [] [0, 1, 7, 8] [] [true, false] (a1 b0 (a1 s0 (a1 s1 (a1 trivial (a1 b1 (a1 s2 trivial)))))) (ih2 _ _ _ h K q) (by kernel_rfl)
    · rw [if_neg b0] at h
      replace b0 := Bool.eq_false_iff.2 b0
      subst h
      exact AtV.ret Tryz.func68 tabOk ext68c45Ok mixed false [] tys68c45 [false] (a1 b0 trivial) (by kernel_rfl)



def g68c45_0 (x0 : List (List (ByteArray))) : Int := idx (x0.findIdx? g45_0)
def P68c45 (x0 : List (List (ByteArray))) : Prop := True

theorem top68c45 (x0 : List (List (ByteArray))) (hm : x0.length ≤ maxLen) : R68c45 (x0.length + 1 + 1) x0 [⟨.int .i64, g68c45_0 x0⟩] := by
  rw [R68c45]
  have key := loop_find x0 [] g45_0 [(⟨.int .i64, -1⟩ : Dyn)] (fun k => [⟨.int .i64, k⟩]) (fun n i ds => R68c45_2 n i x0 ds) (fun n => ?_) (fun n i hi hok ds hr => ?_) (fun n i hi hok => ?_)
  · unfold g68c45_0
    cases h : x0.findIdx? g45_0 <;> rw [h] at key <;> exact key
  · rw [R68c45_2, if_neg (by simp)]
  · rw [R68c45_2, if_pos (by simp; omega)]
    simp only [Int.toNat_natCast]
    refine ⟨by omega, by omega, ?_⟩
    rw [if_neg (by rw [hok]; simp)]
    exact ⟨inR_up hm hi, hr⟩
  · rw [R68c45_2, if_pos (by simp; omega)]
    simp only [Int.toNat_natCast]
    refine ⟨by omega, by omega, ?_⟩
    rw [if_pos hok] <;> trivial

def S68c45 : Am.Spec := { sig := sig68c45, pre := fun ⟨x0, _⟩ => P68c45 x0, res := fun ⟨x0, _⟩ => [⟨Ty.int .i64, g68c45_0 x0⟩] }
theorem con68c45 : Contract Tryz.prog 68 S68c45 := contract_of Tryz.func68 hb68c45 (Nat.le_of_ble_eq_true (by kernel_rfl)) (fun ⟨x0, _⟩ h hwf K q =>
  (snd68c45 _).1 x0 _ (top68c45 x0 hwf.1.1) K q)

end
end Go.Proofs.YtmbkjhbindikkaaGreatDoor

/- Function 44 (slices.ContainsFunc[[][]string,[]string]): its runs between cut points. Written by a program of this repo (gen). -/
set_option linter.unusedVariables false
set_option linter.unusedSimpArgs false
set_option maxRecDepth 100000
namespace Go.Proofs.YtmbkjhbindikkaaGreatDoor
open Go Go.Am Go.Proofs
noncomputable section
def ext44c45 : Ext := [(68, S68c45), (45, S45)]
theorem call44c45_68 : Callable Tryz.prog 68 := ⟨Tryz.f68, Tryz.func68, by kernel_rfl, by kernel_rfl⟩
theorem call44c45_45 : Callable Tryz.prog 45 := ⟨Tryz.f45, Tryz.func45, by kernel_rfl, by kernel_rfl⟩
theorem ext44c45Ok : ExtOk Tryz.prog ext44c45 := ⟨⟨call44c45_68, con68c45⟩, ⟨call44c45_45, con45⟩, trivial⟩

noncomputable def b44c45 : Code := bodyOf Tryz.f44
theorem hb44c45 : Tryz.f44.body = some b44c45 := by kernel_rfl
def sig44c45 : List AT := [AT.v (Ty.sl (Ty.sl Ty.str)), AT.fn 45 []]
def tys44c45 : List Ty := [Ty.bool]
def kds44c45 : List RK := []
def oks44c45 : List AT := owns sig44c45
def P44c45 (x0 : List (List ByteArray)) : Prop := True
def g44c45_0 (x0 : List (List ByteArray)) : Bool := Decidable.decide (g68c45_0 x0 ≥ 0)
theorem at44c45 (x0 : List (List ByteArray)) (h : P44c45 x0) (K : Ctx) (q : Nat → Value) : AtV Tryz.prog 44 (PostR kds44c45 oks44c45 [⟨Ty.bool, g44c45_0 x0⟩] [] [] q K) 9 K q [] [.code b44c45] (entE 0 0 sig44c45 (x0, (), ())) (entL sig44c45 (x0, (), ())) := by
  unfold P44c45 at h
  unfold g44c45_0
  exact AtV.ret Tryz.func44 tabOk ext44c45Ok mixed false [] tys44c45 [] (a1 trivial trivial) (by kernel_rfl)

def S44c45 : Am.Spec := { sig := sig44c45, pre := fun ⟨x0, _⟩ => P44c45 x0, res := fun ⟨x0, _⟩ => [⟨Ty.bool, g44c45_0 x0⟩], kds := kds44c45 }
theorem con44c45 : Contract Tryz.prog 44 S44c45 := contract_of Tryz.func44 hb44c45 (Nat.le_of_ble_eq_true (by kernel_rfl)) (fun ⟨x0, _⟩ h _ K q => at44c45 x0 h K q)


end
end Go.Proofs.YtmbkjhbindikkaaGreatDoor

/- Function 21 (impl.TableLines): its runs between cut points. Written by a program of this repo (gen). -/
set_option linter.unusedVariables false
set_option linter.unusedSimpArgs false
set_option maxRecDepth 100000
namespace Go.Proofs.YtmbkjhbindikkaaGreatDoor
open Go Go.Am Go.Proofs
noncomputable section
def ext21 : Ext := [(47, S47), (49, S49), (48, S48), (50, S50), (44, S44c45)]
theorem call21_47 : Callable Tryz.prog 47 := ⟨Tryz.f47, Tryz.func47, by kernel_rfl, by kernel_rfl⟩
theorem call21_49 : Callable Tryz.prog 49 := ⟨Tryz.f49, Tryz.func49, by kernel_rfl, by kernel_rfl⟩
theorem call21_48 : Callable Tryz.prog 48 := ⟨Tryz.f48, Tryz.func48, by kernel_rfl, by kernel_rfl⟩
theorem call21_50 : Callable Tryz.prog 50 := ⟨Tryz.f50, Tryz.func50, by kernel_rfl, by kernel_rfl⟩
theorem call21_44 : Callable Tryz.prog 44 := ⟨Tryz.f44, Tryz.func44, by kernel_rfl, by kernel_rfl⟩
theorem ext21Ok : ExtOk Tryz.prog ext21 := ⟨⟨call21_47, con47⟩, ⟨call21_49, con49⟩, ⟨call21_48, con48⟩, ⟨call21_50, con50⟩, ⟨call21_44, con44c45⟩, trivial⟩

noncomputable def b21 : Code := bodyOf Tryz.f21
theorem hb21 : Tryz.f21.body = some b21 := by kernel_rfl
def sig21 : List AT := [AT.v (Ty.sl (Ty.sl Ty.str))]
def tys21 : List Ty := [Ty.sl Ty.str, Ty.int IntKind.i64]
def kds21 : List RK := []
def oks21 : List AT := owns sig21
def E21_5 (v20 : Int) (h0 : List Int) (x0 : List (List ByteArray)) : Env := [(0, PV.a (Atom.sl (Ty.sl Ty.str) x0)), (4, PV.a (Atom.osl 0 Option.none)), (18, PV.a (Atom.sl (Ty.sl Ty.str) x0)), (19, PV.a (Atom.val (Value.int IntKind.i64 (↑(List.length x0) : Int)))), (20, PV.a (Atom.val (Value.int IntKind.i64 v20)))]
def L21_5 (v20 : Int) (h0 : List Int) (x0 : List (List ByteArray)) : Heap := [Option.some (Arr.mk (Ty.int IntKind.i64) h0 Bool.false Option.none Option.none)]
def E21_8 (v26 : Int) (h0 : List Int) (x0 : List (List ByteArray)) (v20 : Int) : Env := [(0, PV.a (Atom.sl (Ty.sl Ty.str) x0)), (4, PV.a (Atom.osl 0 Option.none)), (18, PV.a (Atom.sl (Ty.sl Ty.str) x0)), (19, PV.a (Atom.val (Value.int IntKind.i64 (↑(List.length x0) : Int)))), (20, PV.a (Atom.val (Value.int IntKind.i64 v20))), (24, PV.a (Atom.sl Ty.str (List.getD x0 (Int.toNat v20) []))), (25, PV.a (Atom.val (Value.int IntKind.i64 (↑(List.length (List.getD x0 (Int.toNat v20) [])) : Int)))), (26, PV.a (Atom.val (Value.int IntKind.i64 v26)))]
def L21_8 (v26 : Int) (h0 : List Int) (x0 : List (List ByteArray)) (v20 : Int) : Heap := [Option.some (Arr.mk (Ty.int IntKind.i64) h0 Bool.false Option.none Option.none)]
def E21_15 (v45 : Int) (h1 : List ByteArray) (x0 : List (List ByteArray)) (h0 : List Int) : Env := [(4, PV.a (Atom.osl 0 Option.none)), (9, PV.a (Atom.osl 1 Option.none)), (43, PV.a (Atom.sl (Ty.sl Ty.str) x0)), (44, PV.a (Atom.val (Value.int IntKind.i64 (↑(List.length x0) : Int)))), (45, PV.a (Atom.val (Value.int IntKind.i64 v45)))]
def L21_15 (v45 : Int) (h1 : List ByteArray) (x0 : List (List ByteArray)) (h0 : List Int) : Heap := [Option.some (Arr.mk (Ty.int IntKind.i64) h0 Bool.false Option.none Option.none), Option.some (Arr.mk Ty.str h1 Bool.false Option.none Option.none)]
def E21_19 (v51 : Int) (h2 : List ByteArray) (x0 : List (List ByteArray)) (v45 : Int) (h0 : List Int) (h1 : List ByteArray) : Env := [(4, PV.a (Atom.osl 0 Option.none)), (9, PV.a (Atom.osl 1 Option.none)), (12, PV.a (Atom.osl 2 Option.none)), (43, PV.a (Atom.sl (Ty.sl Ty.str) x0)), (44, PV.a (Atom.val (Value.int IntKind.i64 (↑(List.length x0) : Int)))), (45, PV.a (Atom.val (Value.int IntKind.i64 v45))), (49, PV.a (Atom.sl Ty.str (List.getD x0 (Int.toNat v45) []))), (50, PV.a (Atom.val (Value.int IntKind.i64 (↑(List.length (List.getD x0 (Int.toNat v45) [])) : Int)))), (51, PV.a (Atom.val (Value.int IntKind.i64 v51)))]
def L21_19 (v51 : Int) (h2 : List ByteArray) (x0 : List (List ByteArray)) (v45 : Int) (h0 : List Int) (h1 : List ByteArray) : Heap := [Option.some (Arr.mk (Ty.int IntKind.i64) h0 Bool.false Option.none Option.none), Option.some (Arr.mk Ty.str h1 Bool.false Option.none Option.none), Option.some (Arr.mk Ty.str h2 Bool.false Option.none Option.none)]
mutual
def R21 : Nat → List (List ByteArray) → List Dyn → Prop
  | 0, _, _ => False
  | n + 1, x0, ds => (if (g44c45_0 x0) = true then (ds = [Dyn.mk (Ty.sl Ty.str) [], Dyn.mk (Ty.int IntKind.i64) 2]) else (R21_5 n (0) ([0, 0, 0, 0, 0, 0, 0, 0, 0, 0, 0, 0]) (x0) ds))
def R21_5 : Nat → Int → List Int → List (List ByteArray) → List Dyn → Prop
  | 0, _, _, _, _ => False
  | n + 1, v20, h0, x0, ds => (if (Decidable.decide (v20 < (↑(List.length x0) : Int))) = true then ((0 ≤ v20) ∧ (v20 < (↑(List.length x0) : Int)) ∧ (R21_8 n (0) (h0) (x0) (v20) ds)) else (R21_15 n (0) ([]) (x0) (h0) ds))
def R21_8 : Nat → Int → List Int → List (List ByteArray) → Int → List Dyn → Prop
  | 0, _, _, _, _, _ => False
  | n + 1, v26, h0, x0, v20, ds => (if (Decidable.decide (v26 < (↑(List.length (List.getD x0 (Int.toNat v20) [])) : Int))) = true then ((0 ≤ v26) ∧ (v26 < (↑(List.length (List.getD x0 (Int.toNat v20) [])) : Int)) ∧ ((0 ≤ v26) ∧ (v26 < (↑(List.length h0) : Int)) ∧ ((0 ≤ v26) ∧ (v26 < (↑(List.length h0) : Int)) ∧ ((InR IntKind.i64 (v26 + 1)) ∧ (R21_8 n (v26 + 1) (List.set h0 (Int.toNat v26) (if List.getD h0 (Int.toNat v26) 0 < (↑(ByteArray.size (List.getD (List.getD x0 (Int.toNat v20) []) (Int.toNat v26) ByteArray.empty)) : Int) then (↑(ByteArray.size (List.getD (List.getD x0 (Int.toNat v20) []) (Int.toNat v26) ByteArray.empty)) : Int) else List.getD h0 (Int.toNat v26) 0)) (x0) (v20) ds))))) else ((InR IntKind.i64 (v20 + 1)) ∧ (R21_5 n (v20 + 1) (h0) (x0) ds)))
def R21_15 : Nat → Int → List ByteArray → List (List ByteArray) → List Int → List Dyn → Prop
  | 0, _, _, _, _, _ => False
  | n + 1, v45, h1, x0, h0, ds => (if (Decidable.decide (v45 < (↑(List.length x0) : Int))) = true then ((0 ≤ v45) ∧ (v45 < (↑(List.length x0) : Int)) ∧ (R21_19 n (0) ([]) (x0) (v45) (h0) (h1) ds)) else (ds = [Dyn.mk (Ty.sl Ty.str) (g50_0 h1), Dyn.mk (Ty.int IntKind.i64) (g50_1 h1)]))
def R21_19 : Nat → Int → List ByteArray → List (List ByteArray) → Int → List Int → List ByteArray → List Dyn → Prop
  | 0, _, _, _, _, _, _, _ => False
  | n + 1, v51, h2, x0, v45, h0, h1, ds => (if (Decidable.decide (v51 < (↑(List.length (List.getD x0 (Int.toNat v45) [])) : Int))) = true then ((0 ≤ v51) ∧ (v51 < (↑(List.length (List.getD x0 (Int.toNat v45) [])) : Int)) ∧ ((0 ≤ v51) ∧ (v51 < (↑(List.length h0) : Int)) ∧ ((InR IntKind.i64 (List.getD h0 (Int.toNat v51) 0 - (↑(ByteArray.size (List.getD (List.getD x0 (Int.toNat v45) []) (Int.toNat v51) ByteArray.empty)) : Int))) ∧ ((P47 (ByteArray.mk #[32]) (List.getD h0 (Int.toNat v51) 0 - (↑(ByteArray.size (List.getD (List.getD x0 (Int.toNat v45) []) (Int.toNat v51) ByteArray.empty)) : Int))) ∧ ((ByteArray.size (List.getD (List.getD x0 (Int.toNat v45) []) (Int.toNat v51) ByteArray.empty) + ByteArray.size (g47_0 (ByteArray.mk #[32]) (List.getD h0 (Int.toNat v51) 0 - (↑(ByteArray.size (List.getD (List.getD x0 (Int.toNat v45) []) (Int.toNat v51) ByteArray.empty)) : Int))) ≤ 9223372036854775807) ∧ (((List.length h2 + 1) * 16 ≤ 140737488355328) ∧ ((InR IntKind.i64 (v51 + 1)) ∧ (R21_19 n (v51 + 1) (h2 ++ [List.getD (List.getD x0 (Int.toNat v45) []) (Int.toNat v51) ByteArray.empty ++ g47_0 (ByteArray.mk #[32]) (List.getD h0 (Int.toNat v51) 0 - (↑(ByteArray.size (List.getD (List.getD x0 (Int.toNat v45) []) (Int.toNat v51) ByteArray.empty)) : Int))]) (x0) (v45) (h0) (h1) ds)))))))) else ((P49 h2 (ByteArray.mk #[32, 32])) ∧ ((P48 (g49_0 h2 (ByteArray.mk #[32, 32])) (ByteArray.mk #[32])) ∧ (((List.length h1 + 1) * 16 ≤ 140737488355328) ∧ ((InR IntKind.i64 (v45 + 1)) ∧ (R21_15 n (v45 + 1) (h1 ++ [g48_0 (g49_0 h2 (ByteArray.mk #[32, 32])) (ByteArray.mk #[32])]) (x0) (h0) ds))))))
end
theorem snd21 : ∀ n, (∀ (x0 : List (List ByteArray)) ds, R21 n x0 ds → ∀ K q, AtV Tryz.prog 21 (PostR kds21 oks21 ds [] [] q K) 81 K q [] [.code b21] (entE 0 0 sig21 (x0, ())) (entL sig21 (x0, ()))) ∧ (∀ (v20 : Int) (h0 : List Int) (x0 : List (List ByteArray)) ds, R21_5 n v20 h0 x0 ds → ∀ K q, AtV Tryz.prog 21 (PostR kds21 oks21 ds [] [] q K) 81 K q [] (cutAt b21 5) (E21_5 v20 h0 x0) (L21_5 v20 h0 x0)) ∧ (∀ (v26 : Int) (h0 : List Int) (x0 : List (List ByteArray)) (v20 : Int) ds, R21_8 n v26 h0 x0 v20 ds → ∀ K q, AtV Tryz.prog 21 (PostR kds21 oks21 ds [] [] q K) 81 K q [] (cutAt b21 8) (E21_8 v26 h0 x0 v20) (L21_8 v26 h0 x0 v20)) ∧ (∀ (v45 : Int) (h1 : List ByteArray) (x0 : List (List ByteArray)) (h0 : List Int) ds, R21_15 n v45 h1 x0 h0 ds → ∀ K q, AtV Tryz.prog 21 (PostR kds21 oks21 ds [] [] q K) 81 K q [] (cutAt b21 15) (E21_15 v45 h1 x0 h0) (L21_15 v45 h1 x0 h0)) ∧ (∀ (v51 : Int) (h2 : List ByteArray) (x0 : List (List ByteArray)) (v45 : Int) (h0 : List Int) (h1 : List ByteArray) ds, R21_19 n v51 h2 x0 v45 h0 h1 ds → ∀ K q, AtV Tryz.prog 21 (PostR kds21 oks21 ds [] [] q K) 81 K q [] (cutAt b21 19) (E21_19 v51 h2 x0 v45 h0 h1) (L21_19 v51 h2 x0 v45 h0 h1)) := by
  intro n
  induction n with
  | zero => exact ⟨fun _ _ h => by simp only [R21] at h, fun _ _ _ _ h => by simp only [R21_5] at h, fun _ _ _ _ _ h => by simp only [R21_8] at h, fun _ _ _ _ _ h => by simp only [R21_15] at h, fun _ _ _ _ _ _ _ h => by simp only [R21_19] at h⟩
  | succ n ih =>
  obtain ⟨ih, ih5, ih8, ih15, ih19⟩ := ih
  refine ⟨?_, ?_, ?_, ?_, ?_⟩
  · intro x0 ds h K q
    rw [R21] at h
    by_cases b0 : (g44c45_0 x0) = true
    · rw [if_pos b0] at h
      subst h
      exact AtV.ret Tryz.func21 tabOk ext21Ok mixed false [] tys21 [true] (a1 trivial (a1 b0 trivial)) (by kernel_rfl)
    · rw [if_neg b0] at h
      replace b0 := Bool.eq_false_iff.2 b0
      exact AtV.go tabOk ext21Ok mixed false [] [] [0, 4, 18, 19, 20] [0] [false] (a1 trivial (a1 b0 (a1 ((by decide) : (0 : Int) ≤ (12 : Int)) (a1 ((by decide) : (12 : Int) ≤ (12 : Int)) (a1 ((by decide) : (96 : Int) ≤ (281474976710656 : Int)) trivial))))) (ih5 _ _ _ _ h K q) (by kernel_rfl)

  · intro v20 h0 x0 ds h K q
    rw [R21_5] at h
    by_cases b0 : (Decidable.decide (v20 < (↑(List.length x0) : Int))) = true
    · rw [if_pos b0] at h
      obtain ⟨s0, s1, h⟩ := h
      exact AtV.go tabOk ext21Ok mixed false [] [] [0, 4, 18, 19, 20, 24, 25, 26] [0] [true] (a1 b0 (a1 s0 (a1 s1 trivial))) (ih8 _ _ _ _ _ h K q) (by kernel_rfl)
    · rw [if_neg b0] at h
      replace b0 := Bool.eq_false_iff.2 b0
      exact AtV.go tabOk ext21Ok mixed false [] [(9, Ty.str)] [4, 9, 43, 44, 45] [0, 1] [false] (a1 b0 trivial) (ih15 _ _ _ _ _ h K q) (by kernel_rfl)

  · intro v26 h0 x0 v20 ds h K q
    rw [R21_8] at h
    by_cases b0 : (Decidable.decide (v26 < (↑(List.length (List.getD x0 (Int.toNat v20) [])) : Int))) = true
    · rw [if_pos b0] at h
      obtain ⟨s0, s1, h⟩ := h
      obtain ⟨s2, s3, h⟩ := h
      obtain ⟨s4, s5, h⟩ := h
      obtain ⟨s6, h⟩ := h
      exact AtV.go tabOk ext21Ok mixed false [] [] [0, 4, 18, 19, 20, 24, 25, 26] [0] [true] (a1 b0 (a1 s0 (a1 s1 (a1 s2 (a1 s3 (a1 s4 (a1 s5 (a1 s6 trivial)))))))) (ih8 _ _ _ _ _ h K q) (by kernel_rfl)
    · rw [if_neg b0] at h
      replace b0 := Bool.eq_false_iff.2 b0
      obtain ⟨s0, h⟩ := h
      exact AtV.go tabOk ext21Ok mixed false [] [] [0, 4, 18, 19, 20] [0] [false] (a1 b0 (a1 s0 trivial)) (ih5 _ _ _ _ h K q) (by kernel_rfl)

  · intro v45 h1 x0 h0 ds h K q
    rw [R21_15] at h
    by_cases b0 : (Decidable.decide (v45 < (↑(List.length x0) : Int))) = true
    · rw [if_pos b0] at h
      obtain ⟨s0, s1, h⟩ := h
      exact AtV.go tabOk ext21Ok mixed false [] [(12, Ty.str)] [4, 9, 12, 43, 44, 45, 49, 50, 51] [0, 1, 2] [true] (a1 b0 (a1 s0 (a1 s1 trivial))) (ih19 _ _ _ _ _ _ _ h K q) (by kernel_rfl)
    · rw [if_neg b0] at h
      replace b0 := Bool.eq_false_iff.2 b0
      subst h
      exact AtV.ret Tryz.func21 tabOk ext21Ok mixed false [] tys21 [false] (a1 b0 (a1 trivial trivial)) (by kernel_rfl)

  · intro v51 h2 x0 v45 h0 h1 ds h K q
    rw [R21_19] at h
    by_cases b0 : (Decidable.decide (v51 < (↑(List.length (List.getD x0 (Int.toNat v45) [])) : Int))) = true
    · rw [if_pos b0] at h
      obtain ⟨s0, s1, h⟩ := h
      obtain ⟨s2, s3, h⟩ := h
      obtain ⟨s4, h⟩ := h
      obtain ⟨s5, h⟩ := h
      obtain ⟨s6, h⟩ := h
      obtain ⟨s7, h⟩ := h
      obtain ⟨s8, h⟩ := h
      exact AtV.go tabOk ext21Ok mixed false [] [(12, Ty.str)] [4, 9, 12, 43, 44, 45, 49, 50, 51] [0, 1, 2] [true] (a1 b0 (a1 s0 (a1 s1 (a1 s2 (a1 s3 (a1 s4 (a1 s5 (a1 s6 (a1 s7 (a1 s8 trivial)))))))))) (ih19 _ _ _ _ _ _ _ h K q) (by kernel_rfl)
    · rw [if_neg b0] at h
      replace b0 := Bool.eq_false_iff.2 b0
      obtain ⟨s0, h⟩ := h
      obtain ⟨s1, h⟩ := h
      obtain ⟨s2, h⟩ := h
      obtain ⟨s3, h⟩ := h
      exact AtV.go tabOk ext21Ok mixed false [] [(9, Ty.str)] [4, 9, 43, 44, 45] [0, 1] [false] (a1 b0 (a1 s0 (a1 s1 (a1 s2 (a1 s3 trivial))))) (ih15 _ _ _ _ _ h K q) (by kernel_rfl)



def up21 (h : List Int) (k : Nat) (c : ByteArray) : List Int := h.set k (if h.getD k 0 < ((c.size : Nat) : Int) then ((c.size : Nat) : Int) else h.getD k 0)
def row21 : Nat → List ByteArray → List Int → List Int
  | _, [], h => h
  | k, c :: r, h => row21 (k + 1) r (up21 h k c)
def wide21 (x0 : List (List ByteArray)) : List Int := x0.foldl (fun h r => row21 0 r h) [0, 0, 0, 0, 0, 0, 0, 0, 0, 0, 0, 0]
def wd21 (h : List Int) (k : Nat) (c : ByteArray) : ByteArray := c ++ g47_0 (ByteArray.mk #[32]) (h.getD k 0 - ((c.size : Nat) : Int))
def words21 (h : List Int) : Nat → List ByteArray → List ByteArray
  | _, [] => []
  | k, c :: r => wd21 h k c :: words21 h (k + 1) r
def fin21 (w : List ByteArray) : ByteArray := g48_0 (g49_0 w (ByteArray.mk #[32, 32])) (ByteArray.mk #[32])
def line21 (h : List Int) (r : List ByteArray) : ByteArray := fin21 (words21 h 0 r)

def P21 (x0 : List (List ByteArray)) : Prop := x0.length ≤ 1000000 ∧ ∀ r ∈ x0, r.length ≤ 12 ∧ ∀ c ∈ r, c.size ≤ 4000000
def g21_0 (x0 : List (List ByteArray)) : List ByteArray := if g44c45_0 x0 = true then [] else g50_0 (x0.map (line21 (wide21 x0)))
def g21_1 (x0 : List (List ByteArray)) : Int := if g44c45_0 x0 = true then 2 else g50_1 (x0.map (line21 (wide21 x0)))

def Wid21 (h : List Int) : Prop := h.length = 12 ∧ ∀ c ∈ h, 0 ≤ c ∧ c ≤ 4000000
theorem wget21 {h : List Int} (hw : Wid21 h) (k : Nat) : 0 ≤ h.getD k 0 ∧ h.getD k 0 ≤ 4000000 := by
  by_cases hk : k < h.length
  · exact hw.2 _ (mem_getD h k 0 hk)
  · rw [List.getD_eq_getElem?_getD, List.getElem?_eq_none (by omega)]
    exact ⟨Int.le_refl _, by decide⟩
theorem wup21 {h : List Int} (hw : Wid21 h) (k : Nat) {c : ByteArray} (hc : c.size ≤ 4000000) : Wid21 (up21 h k c) := by
  have hg := wget21 hw k
  refine ⟨by unfold up21; rw [List.length_set]; exact hw.1, fun y hy => ?_⟩
  unfold up21 at hy
  rcases List.mem_or_eq_of_mem_set hy with hy | rfl
  · exact hw.2 y hy
  · split <;> omega
theorem wrow21 : ∀ (r : List ByteArray) (k : Nat) (h : List Int), Wid21 h → (∀ c ∈ r, c.size ≤ 4000000) → Wid21 (row21 k r h)
  | [], _, _, hw, _ => hw
  | c :: r, k, h, hw, hc => wrow21 r (k + 1) _ (wup21 hw k (hc c (List.mem_cons_self ..))) (fun d hd => hc d (List.mem_cons_of_mem _ hd))

theorem upget21 (h : List Int) (k : Nat) (c : ByteArray) (j : Nat) : h.getD j 0 ≤ (up21 h k c).getD j 0 ∧ (k < h.length → ((c.size : Nat) : Int) ≤ (up21 h k c).getD k 0) := by
  unfold up21
  constructor
  · rw [List.getD_eq_getElem?_getD, List.getD_eq_getElem?_getD, List.getElem?_set]
    by_cases hjk : k = j
    · subst hjk
      by_cases hk : k < h.length
      · rw [if_pos rfl, if_pos hk, List.getD_eq_getElem?_getD]
        simp only [Option.getD_some]
        split <;> omega
      · rw [if_pos rfl, if_neg hk, List.getElem?_eq_none (by omega)]
        exact Int.le_refl _
    · rw [if_neg hjk]; exact Int.le_refl _
  · intro hk
    rw [List.getD_eq_getElem?_getD, List.getElem?_set, if_pos rfl, if_pos hk]
    simp only [Option.getD_some]
    split <;> omega

theorem rowmono21 : ∀ (r : List ByteArray) (k : Nat) (h : List Int) (j : Nat), h.getD j 0 ≤ (row21 k r h).getD j 0
  | [], _, _, _ => Int.le_refl _
  | c :: r, k, h, j => Int.le_trans (upget21 h k c j).1 (rowmono21 r (k + 1) _ j)

theorem rowcov21 : ∀ (r : List ByteArray) (k : Nat) (h : List Int), k + r.length ≤ h.length → ∀ j, j < r.length → (((r.getD j ByteArray.empty).size : Nat) : Int) ≤ (row21 k r h).getD (k + j) 0
  | [], _, _, _, j, hj => by cases hj
  | c :: r, k, h, hl, j, hj => by
    have hk : k < h.length := by simp at hl; omega
    cases j with
    | zero => exact Int.le_trans ((upget21 h k c k).2 hk) (rowmono21 r (k + 1) _ k)
    | succ j =>
      have := rowcov21 r (k + 1) (up21 h k c) (by unfold up21; rw [List.length_set]; simp at hl; omega) j (by simpa using hj)
      rw [show k + (j + 1) = k + 1 + j by omega]
      simpa [row21] using this

theorem foldmono21 : ∀ (l : List (List ByteArray)) (h : List Int) (j : Nat), h.getD j 0 ≤ (l.foldl (fun h r => row21 0 r h) h).getD j 0
  | [], _, _ => Int.le_refl _
  | r :: l, h, j => Int.le_trans (rowmono21 r 0 h j) (foldmono21 l _ j)

theorem foldcov21 : ∀ (l : List (List ByteArray)) (h : List Int), Wid21 h → (∀ r ∈ l, r.length ≤ 12 ∧ ∀ c ∈ r, c.size ≤ 4000000) → Wid21 (l.foldl (fun h r => row21 0 r h) h) ∧ ∀ r ∈ l, ∀ j, j < r.length → (((r.getD j ByteArray.empty).size : Nat) : Int) ≤ (l.foldl (fun h r => row21 0 r h) h).getD j 0
  | [], h, hw, _ => ⟨hw, fun r hr => by cases hr⟩
  | q :: l, h, hw, hr => by
    obtain ⟨q1, q2⟩ := hr q (List.mem_cons_self ..)
    obtain ⟨i1, i2⟩ := foldcov21 l (row21 0 q h) (wrow21 q 0 h hw q2) (fun r h => hr r (List.mem_cons_of_mem _ h))
    refine ⟨i1, fun r hm j hj => ?_⟩
    rcases List.mem_cons.1 hm with rfl | hm
    · have := rowcov21 r 0 h (by rw [hw.1]; omega) j hj
      rw [Nat.zero_add] at this
      exact Int.le_trans this (foldmono21 l _ j)
    · exact i2 r hm j hj

theorem wdsize21 {h : List Int} (hw : Wid21 h) {k : Nat} {c : ByteArray} (hc : ((c.size : Nat) : Int) ≤ h.getD k 0) : (wd21 h k c).size ≤ 4000000 := by
  have hg := wget21 hw k
  unfold wd21 g47_0
  rw [ByteArray.size_append]
  have : (ByteArray.mk (Lib.repeatL (ByteArray.mk #[32]).data.toList (h.getD k 0 - ((c.size : Nat) : Int)).toNat).toArray).size = (h.getD k 0 - ((c.size : Nat) : Int)).toNat * 1 := by
    show (List.toArray _).size = _
    rw [List.size_toArray, Lib.repeatL_length]
    rfl
  rw [this]
  omega

theorem joinlen21 : ∀ (w : List (List UInt8)), (∀ x ∈ w, x.length ≤ 4000000) → (Lib.joinTail [32, 32] w).length ≤ w.length * 4000002
  | [], _ => by simp [Lib.joinTail]
  | x :: r, h => by
    have := joinlen21 r (fun y hy => h y (List.mem_cons_of_mem _ hy))
    have hx := h x (List.mem_cons_self ..)
    simp only [Lib.joinTail, List.map_cons, List.flatten_cons, List.length_append, List.length_cons, List.length_nil] at this ⊢
    omega

theorem finpre21 {w : List ByteArray} (hl : w.length ≤ 12) (hw : ∀ x ∈ w, x.size ≤ 4000000) : P49 w (ByteArray.mk #[32, 32]) ∧ P48 (g49_0 w (ByteArray.mk #[32, 32])) (ByteArray.mk #[32]) := by
  refine ⟨⟨by omega, ?_⟩, ⟨32, rfl, by decide⟩⟩
  cases w with
  | nil => exact Nat.zero_le _
  | cons x r =>
    have e : (ByteArray.mk #[32, 32]).data.toList = [32, 32] := rfl
    rw [e, List.map_cons, Lib.join_cons, List.length_append]
    have h1 : x.data.toList.length ≤ 4000000 := hw x (List.mem_cons_self ..)
    have h2 := joinlen21 (r.map fun x => x.data.toList) (fun y hy => by
      obtain ⟨z, hz, rfl⟩ := List.mem_map.1 hy
      exact hw z (List.mem_cons_of_mem _ hz))
    rw [List.length_map] at h2
    simp only [List.length_cons] at hl
    omega

section
variable {x0 : List (List ByteArray)} {ds : List Dyn}

theorem l1921 {v45 : Nat} {h0 : List Int} {h1 : List ByteArray} (hw : Wid21 h0) (hr : (x0.getD v45 []).length ≤ 12) (hc : ∀ c ∈ x0.getD v45 [], c.size ≤ 4000000) (hcov : ∀ j, j < (x0.getD v45 []).length → ((((x0.getD v45 []).getD j ByteArray.empty).size : Nat) : Int) ≤ h0.getD j 0) (hv : v45 < 1000000) (hl : h1.length ≤ 1000000) :
    ∀ (k v51 : Nat) (h2 : List ByteArray), v51 + k = (x0.getD v45 []).length → h2.length = v51 → (∀ x ∈ h2, x.size ≤ 4000000) → (∃ n, R21_15 n ((v45 : Int) + 1) (h1 ++ [fin21 (h2 ++ words21 h0 v51 ((x0.getD v45 []).drop v51))]) x0 h0 ds) → ∃ n, R21_19 n (v51 : Int) h2 x0 (v45 : Int) h0 h1 ds := by
  intro k
  induction k with
  | zero =>
    intro v51 h2 hk h2l h2s ⟨n, hn⟩
    rw [drop_end _ v51 (by omega)] at hn
    simp only [words21, List.append_nil] at hn
    obtain ⟨p1, p2⟩ := finpre21 (w := h2) (by omega) h2s
    refine ⟨n + 1, ?_⟩
    rw [R21_19]
    simp only [Int.toNat_natCast]
    rw [if_neg (by simp only [decide_eq_true_eq]; omega)]
    exact ⟨p1, p2, by omega, by rw [i64_iff]; omega, hn⟩
  | succ k ih =>
    intro v51 h2 hk h2l h2s hn
    have h5 : v51 < (x0.getD v45 []).length := by omega
    have hcell := hcov v51 h5
    have hg := wget21 hw v51
    rw [drop_get _ v51 ByteArray.empty h5] at hn
    simp only [words21] at hn
    have hsz := wdsize21 hw hcell
    obtain ⟨n, hn⟩ := ih (v51 + 1) (h2 ++ [wd21 h0 v51 ((x0.getD v45 []).getD v51 ByteArray.empty)]) (by omega) (by rw [List.length_append, h2l]; rfl) (fun x hx => by
      rcases List.mem_append.1 hx with hx | hx
      · exact h2s x hx
      · rw [List.mem_singleton.1 hx]; exact hsz) (by rw [List.append_assoc, List.singleton_append]; exact hn)
    have hsz2 : ((x0.getD v45 []).getD v51 ByteArray.empty).size + (g47_0 (ByteArray.mk #[32]) (h0.getD v51 0 - ((((x0.getD v45 []).getD v51 ByteArray.empty).size : Nat) : Int))).size ≤ 4000000 := by
      have := hsz
      unfold wd21 at this
      rwa [ByteArray.size_append] at this
    have s1 : (ByteArray.mk #[32]).size = 1 := rfl
    have hlen := hw.1
    refine ⟨n + 1, ?_⟩
    rw [R21_19]
    simp only [Int.toNat_natCast]
    rw [if_pos (by simp only [decide_eq_true_eq]; omega)]
    exact ⟨by omega, by omega, by omega, by omega, by rw [i64_iff]; omega, ⟨by omega, by rw [s1]; omega⟩, by omega, by omega, by rw [i64_iff]; omega, hn⟩

theorem l1521 {h0 : List Int} (hw : Wid21 h0) (hx : x0.length ≤ 1000000) (hr : ∀ r ∈ x0, r.length ≤ 12 ∧ ∀ c ∈ r, c.size ≤ 4000000) (hcov : ∀ r ∈ x0, ∀ j, j < r.length → (((r.getD j ByteArray.empty).size : Nat) : Int) ≤ h0.getD j 0) : ∀ (k v45 : Nat) (h1 : List ByteArray), v45 + k = x0.length → h1.length = v45 →
    ∃ n, R21_15 n (v45 : Int) h1 x0 h0 [⟨.sl .str, g50_0 (h1 ++ (x0.drop v45).map (line21 h0))⟩, ⟨.int .i64, g50_1 (h1 ++ (x0.drop v45).map (line21 h0))⟩] := by
  intro k
  induction k with
  | zero =>
    intro v45 h1 hk hl
    refine ⟨1, ?_⟩
    rw [R21_15, if_neg (by simp only [decide_eq_true_eq]; omega), drop_end _ v45 (by omega)]
    simp
  | succ k ih =>
    intro v45 h1 hk hl
    have h7 : v45 < x0.length := by omega
    have hm := mem_getD x0 v45 [] h7
    obtain ⟨r1, r2⟩ := hr _ hm
    obtain ⟨n, hn⟩ := ih (v45 + 1) (h1 ++ [line21 h0 (x0.getD v45 [])]) (by omega) (by rw [List.length_append, hl]; rfl)
    have e : h1 ++ [line21 h0 (x0.getD v45 [])] ++ List.map (line21 h0) (x0.drop (v45 + 1)) = h1 ++ List.map (line21 h0) (x0.drop v45) := by
      rw [drop_get x0 v45 [] h7]; simp
    have e1 : (((v45 + 1 : Nat)) : Int) = (v45 : Int) + 1 := by omega
    rw [e, e1] at hn
    obtain ⟨n', hn'⟩ := l1921 (h1 := h1) (v45 := v45) hw r1 r2 (hcov _ hm) (by omega) (by omega) (x0.getD v45 []).length 0 [] (by omega) rfl (fun x hx => by cases hx) ⟨n, hn⟩
    refine ⟨n' + 1, ?_⟩
    rw [R21_15, if_pos (by simp only [decide_eq_true_eq]; omega)]
    exact ⟨by omega, by omega, hn'⟩

theorem l821 {v20 : Nat} (hr : (x0.getD v20 []).length ≤ 12) (hc : ∀ c ∈ x0.getD v20 [], c.size ≤ 4000000) (hv : v20 < 1000000) :
    ∀ (k v26 : Nat) (h0 : List Int), v26 + k = (x0.getD v20 []).length → Wid21 h0 → (∃ n, R21_5 n ((v20 : Int) + 1) (row21 v26 ((x0.getD v20 []).drop v26) h0) x0 ds) → ∃ n, R21_8 n (v26 : Int) h0 x0 (v20 : Int) ds := by
  intro k
  induction k with
  | zero =>
    intro v26 h0 hk hw ⟨n, hn⟩
    rw [drop_end _ v26 (by omega)] at hn
    refine ⟨n + 1, ?_⟩
    rw [R21_8]
    simp only [Int.toNat_natCast]
    rw [if_neg (by simp only [decide_eq_true_eq]; omega)]
    exact ⟨by rw [i64_iff]; omega, hn⟩
  | succ k ih =>
    intro v26 h0 hk hw hn
    have h5 : v26 < (x0.getD v20 []).length := by omega
    have hcell := hc _ (mem_getD (x0.getD v20 []) v26 ByteArray.empty h5)
    have hlen := hw.1
    rw [drop_get _ v26 ByteArray.empty h5] at hn
    simp only [row21] at hn
    obtain ⟨n, hn⟩ := ih (v26 + 1) _ (by omega) (wup21 hw v26 hcell) hn
    refine ⟨n + 1, ?_⟩
    rw [R21_8]
    simp only [Int.toNat_natCast]
    rw [if_pos (by simp only [decide_eq_true_eq]; omega)]
    exact ⟨by omega, by omega, by omega, by omega, by omega, by omega, by rw [i64_iff]; omega, hn⟩

theorem l521 (hx : x0.length ≤ 1000000) (hr : ∀ r ∈ x0, r.length ≤ 12 ∧ ∀ c ∈ r, c.size ≤ 4000000) : ∀ (k v20 : Nat) (h0 : List Int), v20 + k = x0.length → Wid21 h0 → (∃ n, R21_15 n 0 [] x0 ((x0.drop v20).foldl (fun h r => row21 0 r h) h0) ds) → ∃ n, R21_5 n (v20 : Int) h0 x0 ds := by
  intro k
  induction k with
  | zero =>
    intro v20 h0 hk hw ⟨n, hn⟩
    rw [drop_end _ v20 (by omega)] at hn
    refine ⟨n + 1, ?_⟩
    rw [R21_5, if_neg (by simp only [decide_eq_true_eq]; omega)]
    exact hn
  | succ k ih =>
    intro v20 h0 hk hw hn
    have h4 : v20 < x0.length := by omega
    obtain ⟨r1, r2⟩ := hr _ (mem_getD x0 v20 [] h4)
    rw [drop_get x0 v20 [] h4, List.foldl_cons] at hn
    obtain ⟨n, hn⟩ := ih (v20 + 1) (row21 0 (x0.getD v20 []) h0) (by omega) (wrow21 _ 0 h0 hw r2) hn
    have e1 : (((v20 + 1 : Nat)) : Int) = (v20 : Int) + 1 := by omega
    rw [e1] at hn
    obtain ⟨n', hn'⟩ := l821 (x0 := x0) r1 r2 (by omega) (x0.getD v20 []).length 0 h0 (by omega) hw ⟨n, hn⟩
    refine ⟨n' + 1, ?_⟩
    rw [R21_5, if_pos (by simp only [decide_eq_true_eq]; omega)]
    exact ⟨by omega, by omega, hn'⟩
end

theorem w021 : Wid21 [0, 0, 0, 0, 0, 0, 0, 0, 0, 0, 0, 0] := ⟨rfl, by decide⟩

theorem top21 (x0 : List (List ByteArray)) (h : P21 x0) : ∃ n, R21 n x0 [⟨.sl .str, g21_0 x0⟩, ⟨.int .i64, g21_1 x0⟩] := by
  unfold g21_0 g21_1
  by_cases hc : g44c45_0 x0 = true
  · refine ⟨1, ?_⟩
    rw [R21, if_pos hc, if_pos hc, if_pos hc]
  · obtain ⟨i1, i2⟩ := foldcov21 x0 _ w021 h.2
    obtain ⟨n, hn⟩ := l1521 (x0 := x0) (h0 := wide21 x0) i1 h.1 h.2 i2 x0.length 0 [] (by omega) rfl
    obtain ⟨n', hn'⟩ := l521 (x0 := x0) h.1 h.2 x0.length 0 [0, 0, 0, 0, 0, 0, 0, 0, 0, 0, 0, 0] (by omega) w021 ⟨n, hn⟩
    refine ⟨n' + 1, ?_⟩
    rw [R21, if_neg hc, if_neg hc, if_neg hc]
    exact hn'

def S21 : Am.Spec := { sig := sig21, pre := fun ⟨x0, _⟩ => P21 x0, res := fun ⟨x0, _⟩ => [⟨.sl .str, g21_0 x0⟩, ⟨.int .i64, g21_1 x0⟩] }
theorem con21 : Contract Tryz.prog 21 S21 := contract_of Tryz.func21 hb21 (Nat.le_of_ble_eq_true (by kernel_rfl)) (fun ⟨x0, _⟩ h hwf K q =>
  let ⟨n, hn⟩ := top21 x0 h
  (snd21 n).1 x0 _ hn K q)

end
end Go.Proofs.YtmbkjhbindikkaaGreatDoor

/- Function 6 (impl.FareReport): its runs between cut points. Written by a program of this repo (gen). -/
set_option linter.unusedVariables false
set_option linter.unusedSimpArgs false
set_option maxRecDepth 100000
namespace Go.Proofs.YtmbkjhbindikkaaGreatDoor
open Go Go.Am Go.Proofs
noncomputable section
def ext6 : Ext := [(18, S18), (19, S19), (20, S20), (21, S21)]
theorem call6_18 : Callable Tryz.prog 18 := ⟨Tryz.f18, Tryz.func18, by kernel_rfl, by kernel_rfl⟩
theorem call6_19 : Callable Tryz.prog 19 := ⟨Tryz.f19, Tryz.func19, by kernel_rfl, by kernel_rfl⟩
theorem call6_20 : Callable Tryz.prog 20 := ⟨Tryz.f20, Tryz.func20, by kernel_rfl, by kernel_rfl⟩
theorem call6_21 : Callable Tryz.prog 21 := ⟨Tryz.f21, Tryz.func21, by kernel_rfl, by kernel_rfl⟩
theorem ext6Ok : ExtOk Tryz.prog ext6 := ⟨⟨call6_18, con18⟩, ⟨call6_19, con19⟩, ⟨call6_20, con20⟩, ⟨call6_21, con21⟩, trivial⟩

noncomputable def b6 : Code := bodyOf Tryz.f6
theorem hb6 : Tryz.f6.body = some b6 := by kernel_rfl
def sig6 : List AT := [AT.v (Ty.sl (Ty.cons Ty.str (Ty.cons (Ty.int IntKind.i64) (Ty.cons (Ty.int IntKind.i64) (Ty.cons (Ty.int IntKind.i64) Ty.unit)))))]
def tys6 : List Ty := [Ty.sl Ty.str, Ty.int IntKind.i64]
def kds6 : List RK := []
def oks6 : List AT := owns sig6
def E6_5 (v14 : Int) (h0 : List (List ByteArray)) (x0 : List (ByteArray × Int × Int × Int × Unit)) : Env := [(4, PV.a (Atom.osl 0 Option.none)), (12, PV.a (Atom.sl (Ty.cons Ty.str (Ty.cons (Ty.int IntKind.i64) (Ty.cons (Ty.int IntKind.i64) (Ty.cons (Ty.int IntKind.i64) Ty.unit)))) x0)), (13, PV.a (Atom.val (Value.int IntKind.i64 (↑(List.length x0) : Int)))), (14, PV.a (Atom.val (Value.int IntKind.i64 v14)))]
def L6_5 (v14 : Int) (h0 : List (List ByteArray)) (x0 : List (ByteArray × Int × Int × Int × Unit)) : Heap := [Option.some (Arr.mk (Ty.sl Ty.str) h0 Bool.true Option.none Option.none)]
mutual
def R6 : Nat → List (ByteArray × Int × Int × Int × Unit) → List Dyn → Prop
  | 0, _, _ => False
  | n + 1, x0, ds => (if (!g18_0 x0) = true then (ds = [Dyn.mk (Ty.sl Ty.str) [], Dyn.mk (Ty.int IntKind.i64) 1]) else (R6_5 n (0) ([[ByteArray.mk #[102, 97, 114, 101], ByteArray.mk #[112, 114, 105, 99, 101], ByteArray.mk #[114, 105, 100, 101, 115], ByteArray.mk #[100, 97, 121, 115]]]) (x0) ds))
def R6_5 : Nat → Int → List (List ByteArray) → List (ByteArray × Int × Int × Int × Unit) → List Dyn → Prop
  | 0, _, _, _, _ => False
  | n + 1, v14, h0, x0, ds => (if (Decidable.decide (v14 < (↑(List.length x0) : Int))) = true then ((0 ≤ v14) ∧ (v14 < (↑(List.length x0) : Int)) ∧ ((P20 (Prod.fst (Prod.snd (Prod.snd (List.getD x0 (Int.toNat v14) (ByteArray.empty, 0, 0, 0, ())))))) ∧ ((P20 (Prod.fst (Prod.snd (Prod.snd (Prod.snd (List.getD x0 (Int.toNat v14) (ByteArray.empty, 0, 0, 0, ()))))))) ∧ (((List.length h0 + 1) * 24 ≤ 140737488355328) ∧ ((InR IntKind.i64 (v14 + 1)) ∧ (R6_5 n (v14 + 1) (h0 ++ [[Prod.fst (List.getD x0 (Int.toNat v14) (ByteArray.empty, 0, 0, 0, ())), g19_0 (Prod.fst (Prod.snd (List.getD x0 (Int.toNat v14) (ByteArray.empty, 0, 0, 0, ())))) 2, g20_0 (Prod.fst (Prod.snd (Prod.snd (List.getD x0 (Int.toNat v14) (ByteArray.empty, 0, 0, 0, ()))))), g20_0 (Prod.fst (Prod.snd (Prod.snd (Prod.snd (List.getD x0 (Int.toNat v14) (ByteArray.empty, 0, 0, 0, ()))))))]]) (x0) ds)))))) else ((P21 h0) ∧ (ds = [Dyn.mk (Ty.sl Ty.str) (g21_0 h0), Dyn.mk (Ty.int IntKind.i64) (g21_1 h0)])))
end
theorem snd6 : ∀ n, (∀ (x0 : List (ByteArray × Int × Int × Int × Unit)) ds, R6 n x0 ds → ∀ K q, AtV Tryz.prog 6 (PostR kds6 oks6 ds [] [] q K) 38 K q [] [.code b6] (entE 0 0 sig6 (x0, ())) (entL sig6 (x0, ()))) ∧ (∀ (v14 : Int) (h0 : List (List ByteArray)) (x0 : List (ByteArray × Int × Int × Int × Unit)) ds, R6_5 n v14 h0 x0 ds → ∀ K q, AtV Tryz.prog 6 (PostR kds6 oks6 ds [] [] q K) 38 K q [] (cutAt b6 5) (E6_5 v14 h0 x0) (L6_5 v14 h0 x0)) := by
  intro n
  induction n with
  | zero => exact ⟨fun _ _ h => by simp only [R6] at h, fun _ _ _ _ h => by simp only [R6_5] at h⟩
  | succ n ih =>
  obtain ⟨ih, ih5⟩ := ih
  refine ⟨?_, ?_⟩
  · intro x0 ds h K q
    rw [R6] at h
    by_cases b0 : (!g18_0 x0) = true
    · rw [if_pos b0] at h
      subst h
      exact AtV.ret Tryz.func6 tabOk ext6Ok mixed false [] tys6 [true] (a1 trivial (a1 b0 trivial)) (by kernel_rfl)
    · rw [if_neg b0] at h
      replace b0 := Bool.eq_false_iff.2 b0
      exact AtV.go tabOk ext6Ok mixed false [] [] [4, 12, 13, 14] [1] [false] (a1 trivial (a1 b0 trivial)) (ih5 _ _ _ _ h K q) (by kernel_rfl)

  · intro v14 h0 x0 ds h K q
    rw [R6_5] at h
    by_cases b0 : (Decidable.decide (v14 < (↑(List.length x0) : Int))) = true
    · rw [if_pos b0] at h
      obtain ⟨s0, s1, h⟩ := h
      obtain ⟨s2, h⟩ := h
      obtain ⟨s3, h⟩ := h
      obtain ⟨s4, h⟩ := h
      obtain ⟨s5, h⟩ := h
      exact AtV.go tabOk ext6Ok mixed false [] [] [4, 12, 13, 14] [0] [true] (a1 b0 (a1 s0 (a1 s1 (a1 trivial (a1 s2 (a1 s3 (a1 s4 (a1 s5 trivial)))))))) (ih5 _ _ _ _ h K q) (by kernel_rfl)
    · rw [if_neg b0] at h
      replace b0 := Bool.eq_false_iff.2 b0
      obtain ⟨s0, h⟩ := h
      subst h
      exact AtV.ret Tryz.func6 tabOk ext6Ok mixed false [] tys6 [false] (a1 b0 (a1 s0 trivial)) (by kernel_rfl)



def hd6 : List ByteArray := [ByteArray.mk #[102, 97, 114, 101], ByteArray.mk #[112, 114, 105, 99, 101], ByteArray.mk #[114, 105, 100, 101, 115], ByteArray.mk #[100, 97, 121, 115]]
def rw6 (f : ByteArray × Int × Int × Int × Unit) : List ByteArray := [f.1, g19_0 f.2.1 2, g20_0 f.2.2.1, g20_0 f.2.2.2.1]
def P6 (x0 : List (ByteArray × Int × Int × Int × Unit)) : Prop := g18_0 x0 = true → x0.length ≤ 1000 ∧ ∀ f ∈ x0, P20 f.2.2.1 ∧ P20 f.2.2.2.1 ∧ ∀ c ∈ rw6 f, c.size ≤ 4000000
def g6_0 (x0 : List (ByteArray × Int × Int × Int × Unit)) : List ByteArray := if g18_0 x0 = true then g21_0 (hd6 :: x0.map rw6) else []
def g6_1 (x0 : List (ByteArray × Int × Int × Int × Unit)) : Int := if g18_0 x0 = true then g21_1 (hd6 :: x0.map rw6) else 1

theorem pre6 {x0 : List (ByteArray × Int × Int × Int × Unit)} (hl : x0.length ≤ 1000) (hc : ∀ f ∈ x0, ∀ c ∈ rw6 f, c.size ≤ 4000000) : P21 (hd6 :: x0.map rw6) := by
  refine ⟨by simp only [List.length_cons, List.length_map]; omega, fun r hr => ?_⟩
  rcases List.mem_cons.1 hr with rfl | hr
  · exact ⟨by decide, by decide⟩
  · obtain ⟨f, hf, rfl⟩ := List.mem_map.1 hr
    exact ⟨by show 4 ≤ 12; decide, hc f hf⟩

theorem run6 (x0 : List (ByteArray × Int × Int × Int × Unit)) (hl : x0.length ≤ 1000) (hc : ∀ f ∈ x0, P20 f.2.2.1 ∧ P20 f.2.2.2.1 ∧ ∀ c ∈ rw6 f, c.size ≤ 4000000) : ∀ (k i : Nat), i + k = x0.length →
    R6_5 (k + 1) (i : Int) (hd6 :: (x0.take i).map rw6) x0 [⟨.sl .str, g21_0 (hd6 :: x0.map rw6)⟩, ⟨.int .i64, g21_1 (hd6 :: x0.map rw6)⟩] := by
  intro k
  induction k with
  | zero =>
    intro i hi
    rw [R6_5, if_neg (by simp only [decide_eq_true_eq]; omega), List.take_of_length_le (by omega)]
    exact ⟨pre6 hl (fun f hf => (hc f hf).2.2), rfl⟩
  | succ k ih =>
    intro i hi
    have hlt : i < x0.length := by omega
    have h := ih (i + 1) (by omega)
    have e1 : (((i + 1 : Nat)) : Int) = (i : Int) + 1 := by omega
    rw [e1] at h
    have hm := mem_getD x0 i (ByteArray.empty, (0 : Int), (0 : Int), (0 : Int), ()) hlt
    rw [R6_5, if_pos (by simp only [decide_eq_true_eq]; omega)]
    simp only [Int.toNat_natCast]
    refine ⟨by omega, by omega, (hc _ hm).1, (hc _ hm).2.1, ?_, by rw [i64_iff]; omega, ?_⟩
    · simp only [List.length_cons, List.length_map, List.length_take]; omega
    · have e : x0.take (i + 1) = x0.take i ++ [x0.getD i (ByteArray.empty, (0 : Int), (0 : Int), (0 : Int), ())] := by
        rw [getD_lt x0 i _ hlt, List.take_append_getElem hlt]
      rw [e, List.map_append] at h
      exact h

theorem top6 (x0 : List (ByteArray × Int × Int × Int × Unit)) (h : P6 x0) : ∃ n, R6 n x0 [⟨.sl .str, g6_0 x0⟩, ⟨.int .i64, g6_1 x0⟩] := by
  unfold g6_0 g6_1
  cases hv : g18_0 x0 with
  | false =>
    refine ⟨1, ?_⟩
    rw [R6, if_pos (by rw [hv]; rfl)]
    rfl
  | true =>
    obtain ⟨hl, hc⟩ := h hv
    refine ⟨x0.length + 1 + 1, ?_⟩
    rw [R6, if_neg (by rw [hv]; simp)]
    simp only [if_true]
    exact run6 x0 hl hc x0.length 0 (by omega)

def S6 : Am.Spec := { sig := sig6, pre := fun ⟨x0, _⟩ => P6 x0, res := fun ⟨x0, _⟩ => [⟨.sl .str, g6_0 x0⟩, ⟨.int .i64, g6_1 x0⟩] }
theorem con6 : Contract Tryz.prog 6 S6 := contract_of Tryz.func6 hb6 (Nat.le_of_ble_eq_true (by kernel_rfl)) (fun ⟨x0, _⟩ h hwf K q =>
  let ⟨n, hn⟩ := top6 x0 h
  (snd6 n).1 x0 _ hn K q)

end
end Go.Proofs.YtmbkjhbindikkaaGreatDoor

/- Function 51 (spec.l30Line): its runs between cut points. Written by a program of this repo (gen). -/
set_option linter.unusedVariables false
set_option linter.unusedSimpArgs false
set_option maxRecDepth 100000
namespace Go.Proofs.YtmbkjhbindikkaaGreatDoor
open Go Go.Am Go.Proofs
noncomputable section
def ext51 : Ext := []
theorem ext51Ok : ExtOk Tryz.prog ext51 := trivial

noncomputable def b51 : Code := bodyOf Tryz.f51
theorem hb51 : Tryz.f51.body = some b51 := by kernel_rfl
def sig51 : List AT := [AT.v (Ty.str)]
def tys51 : List Ty := [Ty.bool]
def kds51 : List RK := []
def oks51 : List AT := owns sig51
def E51_2 (v3 : Int) (x0 : ByteArray) : Env := [(0, PV.a (Atom.val (Value.string x0))), (3, PV.a (Atom.val (Value.int IntKind.i64 v3)))]
def L51_2 (v3 : Int) (x0 : ByteArray) : Heap := []
mutual
def R51 : Nat → ByteArray → List Dyn → Prop
  | 0, _, _ => False
  | n + 1, x0, ds => (R51_2 n (0) (x0) ds)
def R51_2 : Nat → Int → ByteArray → List Dyn → Prop
  | 0, _, _, _ => False
  | n + 1, v3, x0, ds => (if (Decidable.decide (v3 < (↑(ByteArray.size x0) : Int))) = true then ((0 ≤ v3) ∧ (v3 < (↑(ByteArray.size x0) : Int)) ∧ (if (Decidable.decide ((↑(UInt8.toNat (List.getD (Array.toList (ByteArray.data x0)) (Int.toNat v3) 0)) : Int) < 32)) = true then (ds = [Dyn.mk Ty.bool Bool.false]) else ((0 ≤ v3) ∧ (v3 < (↑(ByteArray.size x0) : Int)) ∧ (if (Decidable.decide ((↑(UInt8.toNat (List.getD (Array.toList (ByteArray.data x0)) (Int.toNat v3) 0)) : Int) > 126)) = true then (ds = [Dyn.mk Ty.bool Bool.false]) else ((InR IntKind.i64 (v3 + 1)) ∧ (R51_2 n (v3 + 1) (x0) ds)))))) else (ds = [Dyn.mk Ty.bool (Decidable.decide ((↑(ByteArray.size x0) : Int) ≤ 100))]))
end
theorem snd51 : ∀ n, (∀ (x0 : ByteArray) ds, R51 n x0 ds → ∀ K q, AtV Tryz.prog 51 (PostR kds51 oks51 ds [] [] q K) 23 K q [] [.code b51] (entE 0 0 sig51 (x0, ())) (entL sig51 (x0, ()))) ∧ (∀ (v3 : Int) (x0 : ByteArray) ds, R51_2 n v3 x0 ds → ∀ K q, AtV Tryz.prog 51 (PostR kds51 oks51 ds [] [] q K) 23 K q [] (cutAt b51 2) (E51_2 v3 x0) (L51_2 v3 x0)) := by
  intro n
  induction n with
  | zero => exact ⟨fun _ _ h => by simp only [R51] at h, fun _ _ _ h => by simp only [R51_2] at h⟩
  | succ n ih =>
  obtain ⟨ih, ih2⟩ := ih
  refine ⟨?_, ?_⟩
  · intro x0 ds h K q
    rw [R51] at h
    exact AtV.go tabOk ext51Ok mixed false [] [] [0, 3] [] [] trivial (ih2 _ _ _ h K q) (by kernel_rfl)

  · intro v3 x0 ds h K q
    rw [R51_2] at h
    by_cases b0 : (Decidable.decide (v3 < (↑(ByteArray.size x0) : Int))) = true
    · rw [if_pos b0] at h
      obtain ⟨s0, s1, h⟩ := h
      by_cases b1 : (Decidable.decide ((↑(UInt8.toNat (List.getD (Array.toList (ByteArray.data x0)) (Int.toNat v3) 0)) : Int) < 32)) = true
      · rw [if_pos b1] at h
        subst h
        exact AtV.ret Tryz.func51 tabOk ext51Ok mixed false [] tys51 [true, true, true] (a1 b0 (a1 s0 (a1 s1 (a1 b1 (a1 (rfl : Bool.true = Bool.true) trivial))))) (by kernel_rfl)
      · rw [if_neg b1] at h
        replace b1 := Bool.eq_false_iff.2 b1
        obtain ⟨s2, s3, h⟩ := h
        by_cases b2 : (Decidable.decide ((↑(UInt8.toNat (List.getD (Array.toList (ByteArray.data x0)) (Int.toNat v3) 0)) : Int) > 126)) = true
        · rw [if_pos b2] at h
          subst h
          exact AtV.ret Tryz.func51 tabOk ext51Ok mixed false [] tys51 [true, false, true] (a1 b0 (a1 s0 (a1 s1 (a1 b1 (a1 s2 (a1 s3 (a1 b2 trivial))))))) (by kernel_rfl)
        · rw [if_neg b2] at h
          replace b2 := Bool.eq_false_iff.2 b2
          obtain ⟨s4, h⟩ := h
          exact AtV.go tabOk ext51Ok mixed false [] [] [0, 3] [] [true, false, false] (a1 b0 (a1 s0 (a1 s1 (a1 b1 (a1 s2 (a1 s3 (a1 b2 (a1 s4 trivial)))))))) (ih2 _ _ _ h K q) (by kernel_rfl)
    · rw [if_neg b0] at h
      replace b0 := Bool.eq_false_iff.2 b0
      subst h
      exact AtV.ret Tryz.func51 tabOk ext51Ok mixed false [] tys51 [false] (a1 b0 trivial) (by kernel_rfl)



def ok51 (b : Int) : Bool := decide (32 ≤ b) && decide (b ≤ 126)
def g51_0 (x0 : ByteArray) : Bool := (bytesOf x0).all ok51 && decide (x0.size ≤ 100)
def P51 (x0 : ByteArray) : Prop := True

theorem top51 (x0 : ByteArray) (hw : Wf .str x0) : R51 (x0.size + 1 + 1) x0 [⟨.bool, g51_0 x0⟩] := by
  have hl := bytesOf_length x0
  rw [R51]
  have key := loop_test (bytesOf x0) 0 ok51 [(⟨.bool, false⟩ : Dyn)] [⟨.bool, decide (x0.size ≤ 100)⟩] (fun n i ds => R51_2 n i x0 ds) (fun n => ?_) (fun n i hi hok ds hr => ?_) (fun n i hi hok => ?_)
  · rw [hl] at key
    unfold g51_0
    cases h : (bytesOf x0).all ok51 <;> rw [h] at key <;> simpa using key
  · show R51_2 (n + 1) ((bytesOf x0).length : Int) x0 _
    rw [R51_2, hl, if_neg (by simp)]
    simp only [Dyn.mk.injEq, heq_eq_eq, true_and, List.cons.injEq, and_true]
    congr 1
    exact propext ⟨fun h => by omega, fun h => by omega⟩
  · simp only [ok51, Bool.and_eq_true, decide_eq_true_eq] at hok
    rw [R51_2, if_pos (by simp; omega)]
    simp only [Int.toNat_natCast, byte_get]
    generalize (bytesOf x0).getD i 0 = c at *
    refine ⟨by omega, by omega, ?_⟩
    rw [if_neg (by simp only [decide_eq_true_eq]; omega)]
    refine ⟨by omega, by omega, ?_⟩
    rw [if_neg (by simp only [decide_eq_true_eq]; omega)]
    exact ⟨inR_up (xs := bytesOf x0) (by rw [hl]; exact hw) hi, hr⟩
  · simp only [ok51, Bool.and_eq_false_iff, decide_eq_false_iff_not] at hok
    rw [R51_2, if_pos (by simp; omega)]
    simp only [Int.toNat_natCast, byte_get]
    generalize (bytesOf x0).getD i 0 = c at *
    refine ⟨by omega, by omega, ?_⟩
    by_cases h1 : c < 32
    · rw [if_pos (by simpa using h1)] <;> trivial
    · rw [if_neg (by simpa using h1)]
      refine ⟨by omega, by omega, ?_⟩
      rw [if_pos (by simp only [decide_eq_true_eq]; omega)] <;> trivial

def S51 : Am.Spec := { sig := sig51, pre := fun ⟨x0, _⟩ => P51 x0, res := fun ⟨x0, _⟩ => [⟨Ty.bool, g51_0 x0⟩] }
theorem con51 : Contract Tryz.prog 51 S51 := contract_of Tryz.func51 hb51 (Nat.le_of_ble_eq_true (by kernel_rfl)) (fun ⟨x0, _⟩ h hwf K q =>
  (snd51 _).1 x0 _ (top51 x0 hwf.1) K q)

end
end Go.Proofs.YtmbkjhbindikkaaGreatDoor

/- Function 22 (spec.l30Ok): its runs between cut points. Written by a program of this repo (gen). -/
set_option linter.unusedVariables false
set_option linter.unusedSimpArgs false
set_option maxRecDepth 100000
namespace Go.Proofs.YtmbkjhbindikkaaGreatDoor
open Go Go.Am Go.Proofs
noncomputable section
def ext22 : Ext := [(51, S51)]
theorem call22_51 : Callable Tryz.prog 51 := ⟨Tryz.f51, Tryz.func51, by kernel_rfl, by kernel_rfl⟩
theorem ext22Ok : ExtOk Tryz.prog ext22 := ⟨⟨call22_51, con51⟩, trivial⟩

noncomputable def b22 : Code := bodyOf Tryz.f22
theorem hb22 : Tryz.f22.body = some b22 := by kernel_rfl
def sig22 : List AT := [AT.v (Ty.sl Ty.str)]
def tys22 : List Ty := [Ty.bool]
def kds22 : List RK := []
def oks22 : List AT := owns sig22
def E22_2 (v3 : Int) (x0 : List ByteArray) : Env := [(0, PV.a (Atom.sl Ty.str x0)), (3, PV.a (Atom.val (Value.int IntKind.i64 v3)))]
def L22_2 (v3 : Int) (x0 : List ByteArray) : Heap := []
mutual
def R22 : Nat → List ByteArray → List Dyn → Prop
  | 0, _, _ => False
  | n + 1, x0, ds => (R22_2 n (0) (x0) ds)
def R22_2 : Nat → Int → List ByteArray → List Dyn → Prop
  | 0, _, _, _ => False
  | n + 1, v3, x0, ds => (if (Decidable.decide (v3 < (↑(List.length x0) : Int))) = true then ((0 ≤ v3) ∧ (v3 < (↑(List.length x0) : Int)) ∧ (if (!g51_0 (List.getD x0 (Int.toNat v3) ByteArray.empty)) = true then (ds = [Dyn.mk Ty.bool Bool.false]) else ((InR IntKind.i64 (v3 + 1)) ∧ (R22_2 n (v3 + 1) (x0) ds)))) else (ds = [Dyn.mk Ty.bool (Decidable.decide ((↑(List.length x0) : Int) ≤ 200))]))
end
theorem snd22 : ∀ n, (∀ (x0 : List ByteArray) ds, R22 n x0 ds → ∀ K q, AtV Tryz.prog 22 (PostR kds22 oks22 ds [] [] q K) 19 K q [] [.code b22] (entE 0 0 sig22 (x0, ())) (entL sig22 (x0, ()))) ∧ (∀ (v3 : Int) (x0 : List ByteArray) ds, R22_2 n v3 x0 ds → ∀ K q, AtV Tryz.prog 22 (PostR kds22 oks22 ds [] [] q K) 19 K q [] (cutAt b22 2) (E22_2 v3 x0) (L22_2 v3 x0)) := by
  intro n
  induction n with
  | zero => exact ⟨fun _ _ h => by simp only [R22] at h, fun _ _ _ h => by simp only [R22_2] at h⟩
  | succ n ih =>
  obtain ⟨ih, ih2⟩ := ih
  refine ⟨?_, ?_⟩
  · intro x0 ds h K q
    rw [R22] at h
    exact AtV.go tabOk ext22Ok mixed false [] [] [0, 3] [] [] trivial (ih2 _ _ _ h K q) (by kernel_rfl)

  · intro v3 x0 ds h K q
    rw [R22_2] at h
    by_cases b0 : (Decidable.decide (v3 < (↑(List.length x0) : Int))) = true
    · rw [if_pos b0] at h
      obtain ⟨s0, s1, h⟩ := h
      by_cases b1 : (!g51_0 (List.getD x0 (Int.toNat v3) ByteArray.empty)) = true
      · rw [if_pos b1] at h
        subst h
        exact AtV.ret Tryz.func22 tabOk ext22Ok mixed false [] tys22 [true, true] (a1 b0 (a1 s0 (a1 s1 (a1 trivial (a1 b1 trivial))))) (by kernel_rfl)
      · rw [if_neg b1] at h
        replace b1 := Bool.eq_false_iff.2 b1
        obtain ⟨s2, h⟩ := h
        exact AtV.go tabOk ext22Ok mixed false [] [] [0, 3] [] [true, false] (a1 b0 (a1 s0 (a1 s1 (a1 trivial (a1 b1 (a1 s2 trivial)))))) (ih2 _ _ _ h K q) (by kernel_rfl)
    · rw [if_neg b0] at h
      replace b0 := Bool.eq_false_iff.2 b0
      subst h
      exact AtV.ret Tryz.func22 tabOk ext22Ok mixed false [] tys22 [false] (a1 b0 trivial) (by kernel_rfl)



def g22_0 (x0 : List ByteArray) : Bool := x0.all g51_0 && decide (x0.length ≤ 200)
def P22 (x0 : List ByteArray) : Prop := True

theorem top22 (x0 : List ByteArray) (hw : Wf (.sl .str) x0) : R22 (x0.length + 1 + 1) x0 [⟨.bool, g22_0 x0⟩] := by
  rw [R22]
  have key := loop_test x0 ByteArray.empty g51_0 [(⟨.bool, false⟩ : Dyn)] [⟨.bool, decide (x0.length ≤ 200)⟩] (fun n i ds => R22_2 n i x0 ds) (fun n => ?_) (fun n i hi hok ds hr => ?_) (fun n i hi hok => ?_)
  · unfold g22_0
    cases h : x0.all g51_0 <;> rw [h] at key <;> simpa using key
  · rw [R22_2, if_neg (by simp)]
    simp only [Dyn.mk.injEq, heq_eq_eq, true_and, List.cons.injEq, and_true]
    congr 1
    exact propext ⟨fun h => by omega, fun h => by omega⟩
  · rw [R22_2, if_pos (by simp; omega)]
    simp only [Int.toNat_natCast]
    refine ⟨by omega, by omega, ?_⟩
    rw [if_neg (by rw [hok]; simp)]
    exact ⟨inR_up hw.1 hi, hr⟩
  · rw [R22_2, if_pos (by simp; omega)]
    simp only [Int.toNat_natCast]
    refine ⟨by omega, by omega, ?_⟩
    rw [if_pos (by rw [hok]; simp)] <;> trivial

def S22 : Am.Spec := { sig := sig22, pre := fun ⟨x0, _⟩ => P22 x0, res := fun ⟨x0, _⟩ => [⟨Ty.bool, g22_0 x0⟩] }
theorem con22 : Contract Tryz.prog 22 S22 := contract_of Tryz.func22 hb22 (Nat.le_of_ble_eq_true (by kernel_rfl)) (fun ⟨x0, _⟩ h hwf K q =>
  (snd22 _).1 x0 _ (top22 x0 hwf.1) K q)

end
end Go.Proofs.YtmbkjhbindikkaaGreatDoor

/- Function 7 (spec.ValidReport): its runs between cut points. Written by a program of this repo (gen). -/
set_option linter.unusedVariables false
set_option linter.unusedSimpArgs false
set_option maxRecDepth 100000
namespace Go.Proofs.YtmbkjhbindikkaaGreatDoor
open Go Go.Am Go.Proofs
noncomputable section
def ext7 : Ext := [(22, S22)]
theorem call7_22 : Callable Tryz.prog 22 := ⟨Tryz.f22, Tryz.func22, by kernel_rfl, by kernel_rfl⟩
theorem ext7Ok : ExtOk Tryz.prog ext7 := ⟨⟨call7_22, con22⟩, trivial⟩

noncomputable def b7 : Code := bodyOf Tryz.f7
theorem hb7 : Tryz.f7.body = some b7 := by kernel_rfl
def sig7 : List AT := [AT.v (Ty.sl Ty.str)]
def tys7 : List Ty := [Ty.bool]
def kds7 : List RK := []
def oks7 : List AT := owns sig7
def P7 (x0 : List ByteArray) : Prop := True
def g7_0 (x0 : List ByteArray) : Bool := g22_0 x0
theorem at7 (x0 : List ByteArray) (h : P7 x0) (K : Ctx) (q : Nat → Value) : AtV Tryz.prog 7 (PostR kds7 oks7 [⟨Ty.bool, g7_0 x0⟩] [] [] q K) 5 K q [] [.code b7] (entE 0 0 sig7 (x0, ())) (entL sig7 (x0, ())) := by
  unfold P7 at h
  unfold g7_0
  exact AtV.ret Tryz.func7 tabOk ext7Ok mixed false [] tys7 [] (a1 trivial trivial) (by kernel_rfl)

def S7 : Am.Spec := { sig := sig7, pre := fun ⟨x0, _⟩ => P7 x0, res := fun ⟨x0, _⟩ => [⟨Ty.bool, g7_0 x0⟩], kds := kds7 }
theorem con7 : Contract Tryz.prog 7 S7 := contract_of Tryz.func7 hb7 (Nat.le_of_ble_eq_true (by kernel_rfl)) (fun ⟨x0, _⟩ h _ K q => at7 x0 h K q)


end
end Go.Proofs.YtmbkjhbindikkaaGreatDoor

/- Function 80 (spec.l00Min): its runs between cut points. Written by a program of this repo (gen). -/
set_option linter.unusedVariables false
set_option linter.unusedSimpArgs false
set_option maxRecDepth 100000
namespace Go.Proofs.YtmbkjhbindikkaaGreatDoor
open Go Go.Am Go.Proofs
noncomputable section
def ext80 : Ext := []
theorem ext80Ok : ExtOk Tryz.prog ext80 := trivial

noncomputable def b80 : Code := bodyOf Tryz.f80
theorem hb80 : Tryz.f80.body = some b80 := by kernel_rfl
def sig80 : List AT := [AT.v (Ty.int IntKind.i64), AT.v (Ty.int IntKind.i64)]
def tys80 : List Ty := [Ty.int IntKind.i64]
def kds80 : List RK := []
def oks80 : List AT := owns sig80
def P80 (x0 : Int) (x1 : Int) : Prop := True
def g80_0 (x0 : Int) (x1 : Int) : Int := (if (Decidable.decide (x0 < x1)) = true then x0 else x1)
theorem at80 (x0 : Int) (x1 : Int) (h : P80 x0 x1) (K : Ctx) (q : Nat → Value) : AtV Tryz.prog 80 (PostR kds80 oks80 [⟨Ty.int IntKind.i64, g80_0 x0 x1⟩] [] [] q K) 10 K q [] [.code b80] (entE 0 0 sig80 (x0, x1, ())) (entL sig80 (x0, x1, ())) := by
  unfold P80 at h
  unfold g80_0
  by_cases b0 : (Decidable.decide (x0 < x1)) = true
  · try simp only [if_pos b0] at h ⊢
    exact AtV.ret Tryz.func80 tabOk ext80Ok mixed false [] tys80 [true] (a1 b0 trivial) (by kernel_rfl)
  · try simp only [if_neg b0] at h ⊢
    replace b0 := Bool.eq_false_iff.2 b0
    exact AtV.ret Tryz.func80 tabOk ext80Ok mixed false [] tys80 [false] (a1 b0 trivial) (by kernel_rfl)

def S80 : Am.Spec := { sig := sig80, pre := fun ⟨x0, x1, _⟩ => P80 x0 x1, res := fun ⟨x0, x1, _⟩ => [⟨Ty.int IntKind.i64, g80_0 x0 x1⟩], kds := kds80 }
theorem con80 : Contract Tryz.prog 80 S80 := contract_of Tryz.func80 hb80 (Nat.le_of_ble_eq_true (by kernel_rfl)) (fun ⟨x0, x1, _⟩ h _ K q => at80 x0 x1 h K q)


end
end Go.Proofs.YtmbkjhbindikkaaGreatDoor

/- Function 52 (spec.l22DrawOne): its runs between cut points. Written by a program of this repo (gen). -/
set_option linter.unusedVariables false
set_option linter.unusedSimpArgs false
set_option maxRecDepth 100000
namespace Go.Proofs.YtmbkjhbindikkaaGreatDoor
open Go Go.Am Go.Proofs
noncomputable section
def ext52 : Ext := [(35, S35), (80, S80)]
theorem call52_35 : Callable Tryz.prog 35 := ⟨Tryz.f35, Tryz.func35, by kernel_rfl, by kernel_rfl⟩
theorem call52_80 : Callable Tryz.prog 80 := ⟨Tryz.f80, Tryz.func80, by kernel_rfl, by kernel_rfl⟩
theorem ext52Ok : ExtOk Tryz.prog ext52 := ⟨⟨call52_35, con35⟩, ⟨call52_80, con80⟩, trivial⟩

noncomputable def b52 : Code := bodyOf Tryz.f52
theorem hb52 : Tryz.f52.body = some b52 := by kernel_rfl
def sig52 : List AT := [AT.pb (Ty.cons (Ty.sl (Ty.int IntKind.u8)) (Ty.cons (Ty.int IntKind.i64) (Ty.cons (Ty.int IntKind.u64) Ty.unit))), AT.v (Ty.int IntKind.i64), AT.v (Ty.int IntKind.i64), AT.v (Ty.int IntKind.i64)]
def tys52 : List Ty := [Ty.cons (Ty.int IntKind.i64) (Ty.cons (Ty.int IntKind.i64) (Ty.cons (Ty.int IntKind.i64) Ty.unit))]
def kds52 : List RK := []
def oks52 : List AT := owns sig52
def P52 (x0 : List Int × Int × Int × Unit) (x1 : Int) (x2 : Int) (x3 : Int) : Prop := ((P35 x0 12) ∧ ((InR IntKind.i64 (30 * g35_0 x0 12)) ∧ ((InR IntKind.i64 (x1 + 30 * g35_0 x0 12)) ∧ ((P35 (u35_0 x0 12) 9) ∧ ((InR IntKind.i64 (x2 + g35_0 (u35_0 x0 12) 9)) ∧ ((P35 (u35_0 (u35_0 x0 12) 9) 20) ∧ ((InR IntKind.i64 (x3 + g35_0 (u35_0 (u35_0 x0 12) 9) 20)) ∧ True)))))))
def g52_0 (x0 : List Int × Int × Int × Unit) (x1 : Int) (x2 : Int) (x3 : Int) : Int × Int × Int × Unit := (x1 + 30 * g35_0 x0 12, x2 + g35_0 (u35_0 x0 12) 9, g80_0 1000 (x3 + g35_0 (u35_0 (u35_0 x0 12) 9) 20), ())
def u52_0 (x0 : List Int × Int × Int × Unit) (x1 : Int) (x2 : Int) (x3 : Int) : List Int × Int × Int × Unit := u35_0 (u35_0 (u35_0 x0 12) 9) 20
theorem at52 (x0 : List Int × Int × Int × Unit) (x1 : Int) (x2 : Int) (x3 : Int) (h : P52 x0 x1 x2 x3) (K : Ctx) (q : Nat → Value) : AtV Tryz.prog 52 (PostR kds52 oks52 [⟨Ty.cons (Ty.int IntKind.i64) (Ty.cons (Ty.int IntKind.i64) (Ty.cons (Ty.int IntKind.i64) Ty.unit)), g52_0 x0 x1 x2 x3⟩] [some ⟨Ty.cons (Ty.sl (Ty.int IntKind.u8)) (Ty.cons (Ty.int IntKind.i64) (Ty.cons (Ty.int IntKind.u64) Ty.unit)), [u52_0 x0 x1 x2 x3]⟩] [0] q K) 27 K q [0] [.code b52] (entE 0 0 sig52 (x0, x1, x2, x3, ())) (entL sig52 (x0, x1, x2, x3, ())) := by
  unfold P52 at h
  unfold g52_0 u52_0
  obtain ⟨s0, h⟩ := h
  obtain ⟨s1, h⟩ := h
  obtain ⟨s2, h⟩ := h
  obtain ⟨s3, h⟩ := h
  obtain ⟨s4, h⟩ := h
  obtain ⟨s5, h⟩ := h
  obtain ⟨s6, h⟩ := h
  exact AtV.weak (AtV.ret (us := [Option.some (Lst.mk (Ty.cons (Ty.sl (Ty.int IntKind.u8)) (Ty.cons (Ty.int IntKind.i64) (Ty.cons (Ty.int IntKind.u64) Ty.unit))) [u35_0 (u35_0 (u35_0 x0 12) 9) 20])]) Tryz.func52 tabOk ext52Ok mixed false [] tys52 [] (a1 s0 (a1 s1 (a1 s2 (a1 s3 (a1 s4 (a1 s5 (a1 s6 (a1 trivial trivial)))))))) (by kernel_rfl)) ⟨.inl rfl, trivial⟩

def S52 : Am.Spec := { sig := sig52, pre := fun ⟨x0, x1, x2, x3, _⟩ => P52 x0 x1 x2 x3, upd := fun ⟨x0, x1, x2, x3, _⟩ => [some ⟨Ty.cons (Ty.sl (Ty.int IntKind.u8)) (Ty.cons (Ty.int IntKind.i64) (Ty.cons (Ty.int IntKind.u64) Ty.unit)), [u52_0 x0 x1 x2 x3]⟩], res := fun ⟨x0, x1, x2, x3, _⟩ => [⟨Ty.cons (Ty.int IntKind.i64) (Ty.cons (Ty.int IntKind.i64) (Ty.cons (Ty.int IntKind.i64) Ty.unit)), g52_0 x0 x1 x2 x3⟩], kds := kds52 }
theorem con52 : Contract Tryz.prog 52 S52 := contract_of Tryz.func52 hb52 (Nat.le_of_ble_eq_true (by kernel_rfl)) (fun ⟨x0, x1, x2, x3, _⟩ h _ K q => at52 x0 x1 x2 x3 h K q)


end
end Go.Proofs.YtmbkjhbindikkaaGreatDoor

/- A law that says how functions of the program and of the specification hang together. -/
set_option linter.unusedVariables false
set_option linter.unusedSimpArgs false
set_option maxRecDepth 100000
namespace Go.Proofs.YtmbkjhbindikkaaGreatDoor
open Go Go.Am Go.Proofs

theorem draw_test {n : Int} {s : (List Int × Int × Int × Unit)} (h : SrcOk n s) (hn : n ≤ 4000000000000000000) {a b c : Int} (ha : 0 ≤ a ∧ a ≤ 1000000) (hb : 0 ≤ b ∧ b ≤ 1000000) (hc : 0 ≤ c ∧ c ≤ 1000) :
    P52 s a b c ∧ SrcOk (n + 6) (u52_0 s a b c) ∧
    (a ≤ a + 30 * g35_0 s 12 ∧ a + 30 * g35_0 s 12 ≤ a + 330) ∧ (b ≤ b + g35_0 (u35_0 s 12) 9 ∧ b + g35_0 (u35_0 s 12) 9 ≤ b + 8) ∧
    (0 ≤ g80_0 1000 (c + g35_0 (u35_0 (u35_0 s 12) 9) 20) ∧ g80_0 1000 (c + g35_0 (u35_0 (u35_0 s 12) 9) 20) ≤ 1000) := by
  obtain ⟨p1, s1, a1, b1, _⟩ := pick_ok h 12 (by omega)
  have b1 := b1 (by decide)
  obtain ⟨p2, s2, a2, b2, _⟩ := pick_ok s1 9 (by omega)
  have b2 := b2 (by decide)
  obtain ⟨p3, s3, a3, b3, _⟩ := pick_ok s2 20 (by omega)
  have b3 := b3 (by decide)
  refine ⟨⟨p1, by rw [i64_iff]; omega, by rw [i64_iff]; omega, p2, by rw [i64_iff]; omega, p3, by rw [i64_iff]; omega, trivial⟩, s3.up (by omega), ⟨by omega, by omega⟩, ⟨by omega, by omega⟩, ?_⟩
  unfold g80_0
  split
  · exact ⟨by omega, by omega⟩
  · rename_i hc2
    simp only [decide_eq_true_eq] at hc2
    exact ⟨by omega, by omega⟩

end Go.Proofs.YtmbkjhbindikkaaGreatDoor

/- Function 23 (spec.l22Draw): its runs between cut points. Written by a program of this repo (gen). -/
set_option linter.unusedVariables false
set_option linter.unusedSimpArgs false
set_option maxRecDepth 100000
namespace Go.Proofs.YtmbkjhbindikkaaGreatDoor
open Go Go.Am Go.Proofs
noncomputable section
def ext23 : Ext := [(35, S35), (52, S52), (37, S37)]
theorem call23_35 : Callable Tryz.prog 35 := ⟨Tryz.f35, Tryz.func35, by kernel_rfl, by kernel_rfl⟩
theorem call23_52 : Callable Tryz.prog 52 := ⟨Tryz.f52, Tryz.func52, by kernel_rfl, by kernel_rfl⟩
theorem call23_37 : Callable Tryz.prog 37 := ⟨Tryz.f37, Tryz.func37, by kernel_rfl, by kernel_rfl⟩
theorem ext23Ok : ExtOk Tryz.prog ext23 := ⟨⟨call23_35, con35⟩, ⟨call23_52, con52⟩, ⟨call23_37, con37⟩, trivial⟩

noncomputable def b23 : Code := bodyOf Tryz.f23
theorem hb23 : Tryz.f23.body = some b23 := by kernel_rfl
def sig23 : List AT := [AT.pb (Ty.cons (Ty.sl (Ty.int IntKind.u8)) (Ty.cons (Ty.int IntKind.i64) (Ty.cons (Ty.int IntKind.u64) Ty.unit)))]
def tys23 : List Ty := [Ty.sl (Ty.cons (Ty.int IntKind.i64) (Ty.cons (Ty.int IntKind.i64) (Ty.cons (Ty.int IntKind.i64) Ty.unit)))]
def kds23 : List RK := []
def oks23 : List AT := owns sig23
def E23_4 (v5 : Int) (h0 : List Int × Int × Int × Unit) (h1 : List (Int × Int × Int × Unit)) (h2 : Int × Int × Int × Unit) : Env := [(0, PV.a (Atom.optr 0 0 [])), (3, PV.a (Atom.osl 1 Option.none)), (4, PV.a (Atom.optr 2 0 [])), (5, PV.a (Atom.val (Value.int IntKind.i64 v5)))]
def L23_4 (v5 : Int) (h0 : List Int × Int × Int × Unit) (h1 : List (Int × Int × Int × Unit)) (h2 : Int × Int × Int × Unit) : Heap := [Option.some (Arr.mk (Ty.cons (Ty.sl (Ty.int IntKind.u8)) (Ty.cons (Ty.int IntKind.i64) (Ty.cons (Ty.int IntKind.u64) Ty.unit))) [h0] Bool.true Option.none (Option.some Bool.true)), Option.some (Arr.mk (Ty.cons (Ty.int IntKind.i64) (Ty.cons (Ty.int IntKind.i64) (Ty.cons (Ty.int IntKind.i64) Ty.unit))) h1 Bool.false Option.none Option.none), Option.some (Arr.mk (Ty.cons (Ty.int IntKind.i64) (Ty.cons (Ty.int IntKind.i64) (Ty.cons (Ty.int IntKind.i64) Ty.unit))) [h2] Bool.true Option.none (Option.some Bool.false))]
def E23_16 (v8 : Int) (h1 : List (Int × Int × Int × Unit)) (h0 : List Int × Int × Int × Unit) : Env := [(0, PV.a (Atom.optr 0 0 [])), (3, PV.a (Atom.osl 1 Option.none)), (7, PV.a (Atom.val (Value.int IntKind.i64 (g37_0 (u35_0 h0 20) [24, 25])))), (8, PV.a (Atom.val (Value.int IntKind.i64 v8)))]
def L23_16 (v8 : Int) (h1 : List (Int × Int × Int × Unit)) (h0 : List Int × Int × Int × Unit) : Heap := [Option.some (Arr.mk (Ty.cons (Ty.sl (Ty.int IntKind.u8)) (Ty.cons (Ty.int IntKind.i64) (Ty.cons (Ty.int IntKind.u64) Ty.unit))) [u37_0 (u35_0 h0 20) [24, 25]] Bool.true Option.none (Option.some Bool.true)), Option.some (Arr.mk (Ty.cons (Ty.int IntKind.i64) (Ty.cons (Ty.int IntKind.i64) (Ty.cons (Ty.int IntKind.i64) Ty.unit))) h1 Bool.false Option.none Option.none)]
mutual
def R23 : Nat → List Int × Int × Int × Unit → List Dyn → List (Option Lst) → Prop
  | 0, _, _, _ => False
  | n + 1, x0, ds, us => ((P35 x0 7) ∧ (R23_4 n (g35_0 x0 7) (u35_0 x0 7) ([]) ((8000, 0, 0, ())) ds us))
def R23_4 : Nat → Int → List Int × Int × Int × Unit → List (Int × Int × Int × Unit) → Int × Int × Int × Unit → List Dyn → List (Option Lst) → Prop
  | 0, _, _, _, _, _, _ => False
  | n + 1, v5, h0, h1, h2, ds, us => (if (Decidable.decide (v5 > 0)) = true then ((InR IntKind.i64 (Prod.fst h2 + 1)) ∧ ((P52 h0 (Prod.fst h2 + 1) (Prod.fst (Prod.snd h2)) (Prod.fst (Prod.snd (Prod.snd h2)))) ∧ (((List.length h1 + 1) * 24 ≤ 140737488355328) ∧ ((InR IntKind.i64 (v5 - 1)) ∧ (R23_4 n (v5 - 1) (u52_0 h0 (Prod.fst h2 + 1) (Prod.fst (Prod.snd h2)) (Prod.fst (Prod.snd (Prod.snd h2)))) (h1 ++ [(Prod.fst h2 + 1 + 30 * g35_0 h0 12, Prod.fst (Prod.snd h2) + g35_0 (u35_0 h0 12) 9, g80_0 1000 (Prod.fst (Prod.snd (Prod.snd h2)) + g35_0 (u35_0 (u35_0 h0 12) 9) 20), ())]) ((Prod.fst h2 + 1 + 30 * g35_0 h0 12, Prod.fst (Prod.snd h2) + g35_0 (u35_0 h0 12) 9, g80_0 1000 (Prod.fst (Prod.snd (Prod.snd h2)) + g35_0 (u35_0 (u35_0 h0 12) 9) 20), ())) ds us))))) else ((P35 h0 20) ∧ (if (g35_0 h0 20 == 0) = true then ((P37 (u35_0 h0 20) [-1, 36524, 36525]) ∧ ((P37 (u37_0 (u35_0 h0 20) [-1, 36524, 36525]) [24000, 24001]) ∧ (((List.length h1 + 1) * 24 ≤ 140737488355328) ∧ (ds = [Dyn.mk (Ty.sl (Ty.cons (Ty.int IntKind.i64) (Ty.cons (Ty.int IntKind.i64) (Ty.cons (Ty.int IntKind.i64) Ty.unit)))) (h1 ++ [(g37_0 (u35_0 h0 20) [-1, 36524, 36525], g37_0 (u37_0 (u35_0 h0 20) [-1, 36524, 36525]) [24000, 24001], 0, ())])] ∧ us = [Option.some (Lst.mk (Ty.cons (Ty.sl (Ty.int IntKind.u8)) (Ty.cons (Ty.int IntKind.i64) (Ty.cons (Ty.int IntKind.u64) Ty.unit))) [u37_0 (u37_0 (u35_0 h0 20) [-1, 36524, 36525]) [24000, 24001]])])))) else (if (g35_0 h0 20 == 1) = true then ((P37 (u35_0 h0 20) [24, 25]) ∧ (R23_16 n (0) ([]) (h0) ds us)) else (ds = [Dyn.mk (Ty.sl (Ty.cons (Ty.int IntKind.i64) (Ty.cons (Ty.int IntKind.i64) (Ty.cons (Ty.int IntKind.i64) Ty.unit)))) h1] ∧ us = [Option.some (Lst.mk (Ty.cons (Ty.sl (Ty.int IntKind.u8)) (Ty.cons (Ty.int IntKind.i64) (Ty.cons (Ty.int IntKind.u64) Ty.unit))) [u35_0 h0 20])])))))
def R23_16 : Nat → Int → List (Int × Int × Int × Unit) → List Int × Int × Int × Unit → List Dyn → List (Option Lst) → Prop
  | 0, _, _, _, _, _ => False
  | n + 1, v8, h1, h0, ds, us => (if (Decidable.decide (v8 < g37_0 (u35_0 h0 20) [24, 25])) = true then ((InR IntKind.i64 (10 * v8)) ∧ ((InR IntKind.i64 (8000 + 10 * v8)) ∧ (((List.length h1 + 1) * 24 ≤ 140737488355328) ∧ ((InR IntKind.i64 (v8 + 1)) ∧ (R23_16 n (v8 + 1) (h1 ++ [(8000 + 10 * v8, v8, 0, ())]) (h0) ds us))))) else (ds = [Dyn.mk (Ty.sl (Ty.cons (Ty.int IntKind.i64) (Ty.cons (Ty.int IntKind.i64) (Ty.cons (Ty.int IntKind.i64) Ty.unit)))) h1] ∧ us = [Option.some (Lst.mk (Ty.cons (Ty.sl (Ty.int IntKind.u8)) (Ty.cons (Ty.int IntKind.i64) (Ty.cons (Ty.int IntKind.u64) Ty.unit))) [u37_0 (u35_0 h0 20) [24, 25]])]))
end
theorem snd23 : ∀ n, (∀ (x0 : List Int × Int × Int × Unit) ds us, R23 n x0 ds us → ∀ K q, AtV Tryz.prog 23 (PostR kds23 oks23 ds us [0] q K) 65 K q [0] [.code b23] (entE 0 0 sig23 (x0, ())) (entL sig23 (x0, ()))) ∧ (∀ (v5 : Int) (h0 : List Int × Int × Int × Unit) (h1 : List (Int × Int × Int × Unit)) (h2 : Int × Int × Int × Unit) ds us, R23_4 n v5 h0 h1 h2 ds us → ∀ K q, AtV Tryz.prog 23 (PostR kds23 oks23 ds us [0] q K) 65 K q [0] (cutAt b23 4) (E23_4 v5 h0 h1 h2) (L23_4 v5 h0 h1 h2)) ∧ (∀ (v8 : Int) (h1 : List (Int × Int × Int × Unit)) (h0 : List Int × Int × Int × Unit) ds us, R23_16 n v8 h1 h0 ds us → ∀ K q, AtV Tryz.prog 23 (PostR kds23 oks23 ds us [0] q K) 65 K q [0] (cutAt b23 16) (E23_16 v8 h1 h0) (L23_16 v8 h1 h0)) := by
  intro n
  induction n with
  | zero => exact ⟨fun _ _ _ h => by simp only [R23] at h, fun _ _ _ _ _ _ h => by simp only [R23_4] at h, fun _ _ _ _ _ h => by simp only [R23_16] at h⟩
  | succ n ih =>
  obtain ⟨ih, ih4, ih16⟩ := ih
  refine ⟨?_, ?_, ?_⟩
  · intro x0 ds us h K q
    rw [R23] at h
    obtain ⟨s0, h⟩ := h
    exact AtV.go tabOk ext23Ok mixed false [] [] [0, 3, 4, 5] [0, 1, 2] [] (a1 s0 trivial) (ih4 _ _ _ _ _ _ h K q) (by kernel_rfl)

  · intro v5 h0 h1 h2 ds us h K q
    rw [R23_4] at h
    by_cases b0 : (Decidable.decide (v5 > 0)) = true
    · rw [if_pos b0] at h
      obtain ⟨s0, h⟩ := h
      obtain ⟨s1, h⟩ := h
      obtain ⟨s2, h⟩ := h
      obtain ⟨s3, h⟩ := h
      exact AtV.go tabOk ext23Ok mixed false [] [] [0, 3, 4, 5] [0, 1, 2] [true] (a1 b0 (a1 s0 (a1 s1 (a1 s2 (a1 s3 trivial))))) (ih4 _ _ _ _ _ _ h K q) (by kernel_rfl)
    · rw [if_neg b0] at h
      replace b0 := Bool.eq_false_iff.2 b0
      obtain ⟨s0, h⟩ := h
      by_cases b1 : (g35_0 h0 20 == 0) = true
      · rw [if_pos b1] at h
        obtain ⟨s1, h⟩ := h
        obtain ⟨s2, h⟩ := h
        obtain ⟨s3, h⟩ := h
        obtain ⟨h, h'⟩ := h; subst h; subst h'
        exact AtV.ret Tryz.func23 tabOk ext23Ok mixed false [] tys23 [false, true] (a1 b0 (a1 s0 (a1 b1 (a1 s1 (a1 s2 (a1 s3 trivial)))))) (by kernel_rfl)
      · rw [if_neg b1] at h
        replace b1 := Bool.eq_false_iff.2 b1
        by_cases b2 : (g35_0 h0 20 == 1) = true
        · rw [if_pos b2] at h
          obtain ⟨s1, h⟩ := h
          exact AtV.go tabOk ext23Ok mixed false [] [] [0, 3, 7, 8] [0, 4] [false, false, true] (a1 b0 (a1 s0 (a1 b1 (a1 b2 (a1 s1 trivial))))) (ih16 _ _ _ _ _ h K q) (by kernel_rfl)
        · rw [if_neg b2] at h
          replace b2 := Bool.eq_false_iff.2 b2
          obtain ⟨h, h'⟩ := h; subst h; subst h'
          exact AtV.ret Tryz.func23 tabOk ext23Ok mixed false [] tys23 [false, false, false] (a1 b0 (a1 s0 (a1 b1 (a1 b2 trivial)))) (by kernel_rfl)

  · intro v8 h1 h0 ds us h K q
    rw [R23_16] at h
    by_cases b0 : (Decidable.decide (v8 < g37_0 (u35_0 h0 20) [24, 25])) = true
    · rw [if_pos b0] at h
      obtain ⟨s0, h⟩ := h
      obtain ⟨s1, h⟩ := h
      obtain ⟨s2, h⟩ := h
      obtain ⟨s3, h⟩ := h
      exact AtV.go tabOk ext23Ok mixed false [] [] [0, 3, 7, 8] [0, 1] [true] (a1 b0 (a1 s0 (a1 s1 (a1 s2 (a1 s3 trivial))))) (ih16 _ _ _ _ _ h K q) (by kernel_rfl)
    · rw [if_neg b0] at h
      replace b0 := Bool.eq_false_iff.2 b0
      obtain ⟨h, h'⟩ := h; subst h; subst h'
      exact AtV.ret Tryz.func23 tabOk ext23Ok mixed false [] tys23 [false] (a1 b0 trivial) (by kernel_rfl)



abbrev TT23 := Int × Int × Int × Unit
def P23 (x0 : (List Int × Int × Int × Unit)) : Prop := SrcOk 800000000 x0
def bnd23 (t : TT23) : Prop := (-1 ≤ t.1 ∧ t.1 ≤ 200000) ∧ (0 ≤ t.2.1 ∧ t.2.1 ≤ 200000) ∧ (0 ≤ t.2.2.1 ∧ t.2.2.1 ≤ 1000)
theorem bnd_add23 {h : List TT23} {t : TT23} (hb : ∀ x ∈ h, bnd23 x) (ht : bnd23 t) : ∀ x ∈ h ++ [t], bnd23 x := fun x hx => by
  rcases List.mem_append.1 hx with hx | hx
  · exact hb x hx
  · rw [List.mem_singleton.1 hx]; exact ht
def Q23 (x0 : (List Int × Int × Int × Unit)) (y : List TT23) (s : (List Int × Int × Int × Unit)) : Prop := SrcOk (x0.2.1 + 1000) s ∧ (y.length ≤ 30 ∧ ∀ x ∈ y, bnd23 x) ∧ ∃ n, R23 n x0 [⟨.sl (.cons (.int .i64) (.cons (.int .i64) (.cons (.int .i64) .unit))), y⟩] [some ⟨(.cons (.sl (.int .u8)) (.cons (.int .i64) (.cons (.int .u64) .unit))), [s]⟩]

theorem many23 (x0 : (List Int × Int × Int × Unit)) (M : Nat) (hM : g37_0 (u35_0 x0 20) [24, 25] = (M : Int)) (hM2 : M ≤ 25) : ∀ (k i : Nat) (h : List TT23), i + k = M → h.length = i → (∀ x ∈ h, bnd23 x) →
    ∃ (n : Nat) (y : List TT23), (y.length ≤ 30 ∧ ∀ x ∈ y, bnd23 x) ∧ R23_16 n (i : Int) h x0 [⟨.sl (.cons (.int .i64) (.cons (.int .i64) (.cons (.int .i64) .unit))), y⟩] [some ⟨(.cons (.sl (.int .u8)) (.cons (.int .i64) (.cons (.int .u64) .unit))), [u37_0 (u35_0 x0 20) [24, 25]]⟩] := by
  intro k
  induction k with
  | zero =>
    intro i h hi hl hb
    refine ⟨1, h, ⟨by omega, hb⟩, ?_⟩
    rw [R23_16, hM, if_neg (by simp only [decide_eq_true_eq]; omega)]
    exact ⟨rfl, rfl⟩
  | succ k ih =>
    intro i h hi hl hb
    obtain ⟨n, y, a1, a2⟩ := ih (i + 1) (h ++ [(8000 + 10 * (i : Int), (i : Int), 0, ())]) (by omega) (by rw [List.length_append, List.length_singleton]; omega) (bnd_add23 hb ⟨⟨by show (-1 : Int) ≤ 8000 + 10 * (i : Int); omega, by show 8000 + 10 * (i : Int) ≤ 200000; omega⟩, ⟨by show (0 : Int) ≤ (i : Int); omega, by show (i : Int) ≤ 200000; omega⟩, ⟨by show (0 : Int) ≤ 0; decide, by show (0 : Int) ≤ 1000; decide⟩⟩)
    have e : (i : Int) + 1 = ((i + 1 : Nat) : Int) := by omega
    refine ⟨n + 1, y, a1, ?_⟩
    rw [R23_16, hM, if_pos (by simp only [decide_eq_true_eq]; omega), e]
    exact ⟨by rw [i64_iff]; omega, by rw [i64_iff]; omega, by omega, by rw [i64_iff]; omega, a2⟩

theorem run23 : ∀ (k : Nat) (v : Int) (s : (List Int × Int × Int × Unit)) (h : List TT23) (t : TT23) (m : Int), v = (k : Int) → SrcOk m s → m + 8 * (k : Int) ≤ 900000000 → h.length + k ≤ 20 → (0 ≤ t.1 ∧ t.1 + 400 * (k : Int) ≤ 100000) → (0 ≤ t.2.1 ∧ t.2.1 + 10 * (k : Int) ≤ 100000) → (0 ≤ t.2.2.1 ∧ t.2.2.1 ≤ 1000) → (∀ x ∈ h, bnd23 x) →
    ∃ (n : Nat) (y : List TT23) (z : (List Int × Int × Int × Unit)), SrcOk (m + 8 * (k : Int) + 100) z ∧ (y.length ≤ 30 ∧ ∀ x ∈ y, bnd23 x) ∧ R23_4 n v s h t [⟨.sl (.cons (.int .i64) (.cons (.int .i64) (.cons (.int .i64) .unit))), y⟩] [some ⟨(.cons (.sl (.int .u8)) (.cons (.int .i64) (.cons (.int .u64) .unit))), [z]⟩] := by
  intro k
  induction k with
  | zero =>
    intro v s h t m hv hs hm hl _ _ _ hbd
    obtain ⟨p1, s1, _⟩ := pick_ok hs 20 (by omega)
    by_cases c0 : (g35_0 s 20 == 0) = true
    · obtain ⟨p2, s2, hm2⟩ := among_ok s1 [-1, 36524, 36525] (by decide) (by omega)
      obtain ⟨p3, s3, hm3⟩ := among_ok s2 [24000, 24001] (by decide) (by omega)
      have hq : bnd23 (g37_0 (u35_0 s 20) [-1, 36524, 36525], g37_0 (u37_0 (u35_0 s 20) [-1, 36524, 36525]) [24000, 24001], 0, ()) := by
        simp only [List.mem_cons, List.mem_nil_iff, or_false] at hm2 hm3
        refine ⟨?_, ?_, ⟨by show (0 : Int) ≤ 0; decide, by show (0 : Int) ≤ 1000; decide⟩⟩
        · show -1 ≤ g37_0 (u35_0 s 20) [-1, 36524, 36525] ∧ g37_0 (u35_0 s 20) [-1, 36524, 36525] ≤ 200000
          omega
        · show 0 ≤ g37_0 (u37_0 (u35_0 s 20) [-1, 36524, 36525]) [24000, 24001] ∧ g37_0 (u37_0 (u35_0 s 20) [-1, 36524, 36525]) [24000, 24001] ≤ 200000
          omega
      refine ⟨1, h ++ [(g37_0 (u35_0 s 20) [-1, 36524, 36525], g37_0 (u37_0 (u35_0 s 20) [-1, 36524, 36525]) [24000, 24001], 0, ())], _, s3.up (by omega), ⟨by simp; omega, bnd_add23 hbd hq⟩, ?_⟩
      rw [R23_4, if_neg (by simp only [decide_eq_true_eq]; omega), if_pos c0]
      exact ⟨p1, p2, p3, by omega, rfl, rfl⟩
    · by_cases c1 : (g35_0 s 20 == 1) = true
      · obtain ⟨p2, s2, hm2⟩ := among_ok s1 [24, 25] (by decide) (by omega)
        have hM : ∃ j : Nat, g37_0 (u35_0 s 20) [24, 25] = (j : Int) ∧ j ≤ 25 := by
          simp only [List.mem_cons, List.mem_nil_iff, or_false] at hm2
          rcases hm2 with e | e
          · exact ⟨24, e, by decide⟩
          · exact ⟨25, e, by decide⟩
        obtain ⟨j, hj, hj2⟩ := hM
        obtain ⟨n, y, a1, a2⟩ := many23 s j hj hj2 j 0 [] (by omega) rfl (fun x hx => by cases hx)
        refine ⟨n + 1, y, _, s2.up (by omega), a1, ?_⟩
        rw [R23_4, if_neg (by simp only [decide_eq_true_eq]; omega), if_neg c0, if_pos c1]
        exact ⟨p1, p2, a2⟩
      · refine ⟨1, h, _, s1.up (by omega), ⟨by omega, hbd⟩, ?_⟩
        rw [R23_4, if_neg (by simp only [decide_eq_true_eq]; omega), if_neg c0, if_neg c1]
        exact ⟨p1, rfl, rfl⟩
  | succ k ih =>
    intro v s h t m hv hs hm hl ht hb hw hbd
    obtain ⟨p1, s1, d1, d2, d3⟩ := draw_test hs (by omega) (a := t.1 + 1) (b := t.2.1) (c := t.2.2.1) ⟨by omega, by omega⟩ ⟨by omega, by omega⟩ hw
    obtain ⟨n, y, z, e1, e2, e3⟩ := ih (v - 1) _ (h ++ [(t.1 + 1 + 30 * g35_0 s 12, t.2.1 + g35_0 (u35_0 s 12) 9, g80_0 1000 (t.2.2.1 + g35_0 (u35_0 (u35_0 s 12) 9) 20), ())]) (t.1 + 1 + 30 * g35_0 s 12, t.2.1 + g35_0 (u35_0 s 12) 9, g80_0 1000 (t.2.2.1 + g35_0 (u35_0 (u35_0 s 12) 9) 20), ()) (m + 8) (by omega) (s1.up (by omega)) (by omega) (by rw [List.length_append, List.length_singleton]; omega) ⟨by show (0 : Int) ≤ t.1 + 1 + 30 * _; omega, by show t.1 + 1 + 30 * _ + _ ≤ (100000 : Int); omega⟩ ⟨by show (0 : Int) ≤ t.2.1 + _; omega, by show t.2.1 + _ + _ ≤ (100000 : Int); omega⟩ d3 (bnd_add23 hbd ⟨⟨by show (-1 : Int) ≤ t.1 + 1 + 30 * _; omega, by show t.1 + 1 + 30 * _ ≤ (200000 : Int); omega⟩, ⟨by show (0 : Int) ≤ t.2.1 + _; omega, by show t.2.1 + _ ≤ (200000 : Int); omega⟩, d3⟩)
    refine ⟨n + 1, y, z, e1.up (by omega), e2, ?_⟩
    rw [R23_4, if_pos (by simp only [decide_eq_true_eq]; omega)]
    exact ⟨by rw [i64_iff]; omega, p1, by omega, by rw [i64_iff]; omega, e3⟩

theorem ex23 (x0 : (List Int × Int × Int × Unit)) (h : P23 x0) : ∃ y s, Q23 x0 y s := by
  have h0 : x0.2.1 ≤ 800000000 := h.2.2
  obtain ⟨p1, s1, a, b, _⟩ := pick_ok (SrcOk.self h) 7 (by omega)
  have b := b (by decide)
  obtain ⟨n, y, t, a1, a2, a3⟩ := run23 (g35_0 x0 7).toNat (g35_0 x0 7) (u35_0 x0 7) [] (8000, 0, 0, ()) _ (by omega) s1 (by omega) (by simp; omega) ⟨by decide, by show (8000 : Int) + _ ≤ 100000; omega⟩ ⟨by decide, by show (0 : Int) + _ ≤ 100000; omega⟩ ⟨by decide, by decide⟩ (fun x hx => by cases hx)
  exact ⟨y, t, a1.up (by omega), a2, n + 1, by rw [R23]; exact ⟨p1, a3⟩⟩

def g23_0 (x0 : (List Int × Int × Int × Unit)) : List TT23 := (sel2 [] x0 (Q23 x0)).1
def u23_0 (x0 : (List Int × Int × Int × Unit)) : (List Int × Int × Int × Unit) := (sel2 [] x0 (Q23 x0)).2
theorem q23 (x0 : (List Int × Int × Int × Unit)) (h : P23 x0) : Q23 x0 (g23_0 x0) (u23_0 x0) := by
  obtain ⟨y, s, hq⟩ := ex23 x0 h
  exact sel2_spec hq

def S23 : Am.Spec := { sig := sig23, pre := fun ⟨x0, _⟩ => P23 x0, upd := fun ⟨x0, _⟩ => [some ⟨(.cons (.sl (.int .u8)) (.cons (.int .i64) (.cons (.int .u64) .unit))), [u23_0 x0]⟩], res := fun ⟨x0, _⟩ => [⟨.sl (.cons (.int .i64) (.cons (.int .i64) (.cons (.int .i64) .unit))), g23_0 x0⟩], kds := kds23 }
theorem con23 : Contract Tryz.prog 23 S23 := contract_of Tryz.func23 hb23 (Nat.le_of_ble_eq_true (by kernel_rfl)) (fun ⟨x0, _⟩ h hwf K q =>
  let ⟨n, hn⟩ := (q23 x0 h).2.2
  (snd23 n).1 x0 _ _ hn K q)

end
end Go.Proofs.YtmbkjhbindikkaaGreatDoor

/- Function 8 (spec.DrawWearReport): its runs between cut points. Written by a program of this repo (gen). -/
set_option linter.unusedVariables false
set_option linter.unusedSimpArgs false
set_option maxRecDepth 100000
namespace Go.Proofs.YtmbkjhbindikkaaGreatDoor
open Go Go.Am Go.Proofs
noncomputable section
def ext8 : Ext := [(16, S16), (23, S23)]
theorem call8_16 : Callable Tryz.prog 16 := ⟨Tryz.f16, Tryz.func16, by kernel_rfl, by kernel_rfl⟩
theorem call8_23 : Callable Tryz.prog 23 := ⟨Tryz.f23, Tryz.func23, by kernel_rfl, by kernel_rfl⟩
theorem ext8Ok : ExtOk Tryz.prog ext8 := ⟨⟨call8_16, con16⟩, ⟨call8_23, con23⟩, trivial⟩

noncomputable def b8 : Code := bodyOf Tryz.f8
theorem hb8 : Tryz.f8.body = some b8 := by kernel_rfl
def sig8 : List AT := [AT.v (Ty.sl (Ty.int IntKind.u8))]
def tys8 : List Ty := [Ty.sl (Ty.cons (Ty.int IntKind.i64) (Ty.cons (Ty.int IntKind.i64) (Ty.cons (Ty.int IntKind.i64) Ty.unit)))]
def kds8 : List RK := []
def oks8 : List AT := owns sig8
def P8 (x0 : List Int) : Prop := ((P23 (g16_0 x0)) ∧ True)
def g8_0 (x0 : List Int) : List (Int × Int × Int × Unit) := g23_0 (g16_0 x0)
theorem at8 (x0 : List Int) (h : P8 x0) (K : Ctx) (q : Nat → Value) : AtV Tryz.prog 8 (PostR kds8 oks8 [⟨Ty.sl (Ty.cons (Ty.int IntKind.i64) (Ty.cons (Ty.int IntKind.i64) (Ty.cons (Ty.int IntKind.i64) Ty.unit))), g8_0 x0⟩] [] [] q K) 8 K q [] [.code b8] (entE 0 0 sig8 (x0, ())) (entL sig8 (x0, ())) := by
  unfold P8 at h
  unfold g8_0
  obtain ⟨s0, h⟩ := h
  exact AtV.ret Tryz.func8 tabOk ext8Ok mixed false [] tys8 [] (a1 trivial (a1 s0 trivial)) (by kernel_rfl)

def S8 : Am.Spec := { sig := sig8, pre := fun ⟨x0, _⟩ => P8 x0, res := fun ⟨x0, _⟩ => [⟨Ty.sl (Ty.cons (Ty.int IntKind.i64) (Ty.cons (Ty.int IntKind.i64) (Ty.cons (Ty.int IntKind.i64) Ty.unit))), g8_0 x0⟩], kds := kds8 }
theorem con8 : Contract Tryz.prog 8 S8 := contract_of Tryz.func8 hb8 (Nat.le_of_ble_eq_true (by kernel_rfl)) (fun ⟨x0, _⟩ h _ K q => at8 x0 h K q)


end
end Go.Proofs.YtmbkjhbindikkaaGreatDoor

/- Function 54 (impl.isDay): its runs between cut points. Written by a program of this repo (gen). -/
set_option linter.unusedVariables false
set_option linter.unusedSimpArgs false
set_option maxRecDepth 100000
namespace Go.Proofs.YtmbkjhbindikkaaGreatDoor
open Go Go.Am Go.Proofs
noncomputable section
def ext54 : Ext := [(40, S40)]
theorem call54_40 : Callable Tryz.prog 40 := ⟨Tryz.f40, Tryz.func40, by kernel_rfl, by kernel_rfl⟩
theorem ext54Ok : ExtOk Tryz.prog ext54 := ⟨⟨call54_40, con40⟩, trivial⟩

noncomputable def b54 : Code := bodyOf Tryz.f54
theorem hb54 : Tryz.f54.body = some b54 := by kernel_rfl
def sig54 : List AT := [AT.v (Ty.int IntKind.i64)]
def tys54 : List Ty := [Ty.bool]
def kds54 : List RK := []
def oks54 : List AT := owns sig54
def P54 (x0 : Int) : Prop := True
def g54_0 (x0 : Int) : Bool := g40_0 x0 0 36524
theorem at54 (x0 : Int) (h : P54 x0) (K : Ctx) (q : Nat → Value) : AtV Tryz.prog 54 (PostR kds54 oks54 [⟨Ty.bool, g54_0 x0⟩] [] [] q K) 5 K q [] [.code b54] (entE 0 0 sig54 (x0, ())) (entL sig54 (x0, ())) := by
  unfold P54 at h
  unfold g54_0
  exact AtV.ret Tryz.func54 tabOk ext54Ok mixed false [] tys54 [] (a1 trivial trivial) (by kernel_rfl)

def S54 : Am.Spec := { sig := sig54, pre := fun ⟨x0, _⟩ => P54 x0, res := fun ⟨x0, _⟩ => [⟨Ty.bool, g54_0 x0⟩], kds := kds54 }
theorem con54 : Contract Tryz.prog 54 S54 := contract_of Tryz.func54 hb54 (Nat.le_of_ble_eq_true (by kernel_rfl)) (fun ⟨x0, _⟩ h _ K q => at54 x0 h K q)


end
end Go.Proofs.YtmbkjhbindikkaaGreatDoor
