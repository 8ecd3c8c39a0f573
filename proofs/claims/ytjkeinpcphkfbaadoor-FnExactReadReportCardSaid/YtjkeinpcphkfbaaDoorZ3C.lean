/- Several texts in one: the functions that this law reaches, and their laws. -/
import Derived.Test.YtjkeinpcphkfbaaDoorZ3A
import Derived.Test.YtjkeinpcphkfbaaDoorZ3B
import Derived.Test.YtjkeinpcphkfbaaDoorRows
import Derived.KernelRfl
import Derived.Shelf.Vars
import Derived.Lib.TrimByte
import Derived.Shelf.Utf8.RuneCount
import Derived.Shelf.Strings.Search1
import Derived.Shelf.Strings.Search2
import Derived.Shelf.Strings.Search3
import Derived.Shelf.Strings.Count
import Derived.Shelf.LaysM
import Derived.Shelf.Strings.Shaped
import Derived.Shelf.Strings.Split
import Derived.Shelf.Strings.SplitShaped
import Derived.Shelf.Unicode.Decode
import Derived.Shelf.Strings.RuneCount
import Derived.Shelf.Strings.Explode
import Derived.Shelf.Unicode.DecodeSlow
import Derived.Shelf.Unicode.DecodeAny

/- The types of this program, as the abstract machine reads them. -/
set_option linter.unusedVariables false
set_option linter.unusedSimpArgs false
set_option maxRecDepth 100000
namespace Go.Proofs.YtjkeinpcphkfbaaDoor
open Go Go.Am Go.Proofs
def tab : List TI := [TI.other,
  TI.other,
  TI.scal (Ty.int IntKind.i64),
  TI.scal (Ty.int IntKind.i64),
  TI.scal (Ty.bool),
  TI.scal (Ty.int IntKind.u8),
  TI.scal (Ty.int IntKind.u8),
  TI.struct (Ty.cons (Ty.int IntKind.i64) (Ty.cons (Ty.int IntKind.i64) (Ty.cons Ty.bool (Ty.cons (Ty.int IntKind.u8) Ty.unit)))),
  TI.struct (Ty.cons (Ty.int IntKind.i64) (Ty.cons (Ty.int IntKind.i64) (Ty.cons Ty.bool (Ty.cons (Ty.int IntKind.u8) Ty.unit)))),
  TI.scal (Ty.str),
  TI.scal (Ty.str),
  TI.scal (Ty.str),
  TI.scal (Ty.int IntKind.u64),
  TI.other,
  TI.other,
  TI.other,
  TI.other,
  TI.other,
  TI.other,
  TI.other,
  TI.other,
  TI.scal (Ty.int IntKind.i32),
  TI.slice 9 (Ty.str) 16,
  TI.other,
  TI.other,
  TI.other,
  TI.other,
  TI.other,
  TI.other,
  TI.other,
  TI.other,
  TI.other,
  TI.other,
  TI.other,
  TI.other,
  TI.slice 5 (Ty.int IntKind.u8) 1,
  TI.other,
  TI.other,
  TI.other,
  TI.other,
  TI.other,
  TI.other,
  TI.other,
  TI.other,
  TI.other,
  TI.other,
  TI.other,
  TI.other,
  TI.scal (Ty.int IntKind.u64),
  TI.other,
  TI.struct (Ty.cons (Ty.int IntKind.u8) (Ty.cons (Ty.int IntKind.u8) Ty.unit)),
  TI.struct (Ty.cons (Ty.int IntKind.u8) (Ty.cons (Ty.int IntKind.u8) Ty.unit)),
  TI.other,
  TI.scal (Ty.int IntKind.u32),
  TI.other,
  TI.other,
  TI.other,
  TI.other,
  TI.other,
  TI.other,
  TI.other,
  TI.other,
  TI.other,
  TI.scal (Ty.int IntKind.u8),
  TI.scal (Ty.int IntKind.u8),
  TI.other,
  TI.other,
  TI.scal (Ty.int IntKind.i32),
  TI.scal (Ty.int IntKind.i32)]

theorem tabOk : TabOk Tryd.prog tab := tabOk_of_check (by kernel_rfl)
theorem mixed : Tryd.prog.follows .mixedOrders = true := by kernel_rfl
theorem gv0 {W : World} (h : GInv W) : GHas W 0 (.int .i64) := h.1
theorem gcell0 (W : World) (h : W.ShapedOpen Tryd.prog) : ∃ m, W.cell? ⟨0, 0, none⟩ = some (.int .i64 m) :=
  Go.Proofs.cell_of_shapedOpen_int (zero := #[.int .i64 0]) (t := 3) h (of_decide_eq_true (by kernel_rfl)) (by kernel_rfl) rfl (by kernel_rfl) (by kernel_rfl) Tryd.underlying3
theorem maxLenG {W : World} (h : GInv W) : ∃ m, W.cell? ⟨0, 0, none⟩ = some (.int .i64 m) := gv0 h
theorem ginv (W : World) (h : W.ShapedOpen Tryd.prog)  : GInv W := ⟨gcell0 W h, trivial⟩
end Go.Proofs.YtjkeinpcphkfbaaDoor

/- Function 9 (spec.l01Split): its runs between cut points. Written by a program of this repo (gen). -/
set_option linter.unusedVariables false
set_option linter.unusedSimpArgs false
set_option maxRecDepth 100000
namespace Go.Proofs.YtjkeinpcphkfbaaDoor
open Go Go.Am Go.Proofs
def ext9 : Ext := []
theorem ext9Ok : ExtOk Tryd.prog ext9 := trivial
/-! Function 9. -/
noncomputable def b9 : Code := bodyOf Tryd.f9
theorem hb9 : Tryd.f9.body = some b9 := by kernel_rfl
def sig9 : List AT := [AT.v (Ty.str), AT.v (Ty.int IntKind.u8)]
def tys9 : List Ty := [Ty.sl Ty.str]
def E9_4 (v6 : Int) (v7 : Int) (h0 : List ByteArray) (x0 : ByteArray) (x1 : Int) : Env := [(0, PV.a (Atom.val (Value.string x0))), (1, PV.a (Atom.val (Value.int IntKind.u8 x1))), (5, PV.a (Atom.osl 0 Option.none)), (6, PV.a (Atom.val (Value.int IntKind.i64 v6))), (7, PV.a (Atom.val (Value.int IntKind.i64 v7)))]
def L9_4 (v6 : Int) (v7 : Int) (h0 : List ByteArray) (x0 : ByteArray) (x1 : Int) : Heap := [Option.some (Arr.mk Ty.str h0 Bool.false)]
mutual
def R9 : Nat → ByteArray → Int → List Dyn → Prop
  | 0, _, _, _ => False
  | n + 1, x0, x1, ds => (R9_4 n (0) (0) ([]) (x0) (x1) ds)
def R9_4 : Nat → Int → Int → List ByteArray → ByteArray → Int → List Dyn → Prop
  | 0, _, _, _, _, _, _ => False
  | n + 1, v6, v7, h0, x0, x1, ds => (if (Decidable.decide (v7 < (↑(ByteArray.size x0) : Int))) = true then ((0 ≤ v7) ∧ (v7 < (↑(ByteArray.size x0) : Int)) ∧ (if ((↑(UInt8.toNat (List.getD (Array.toList (ByteArray.data x0)) (Int.toNat v7) 0)) : Int) == x1) = true then ((0 ≤ v6) ∧ (v6 ≤ v7) ∧ (v7 ≤ (↑(ByteArray.size x0) : Int)) ∧ (((List.length h0 + 1) * 16 ≤ 140737488355328) ∧ ((InR IntKind.i64 (v7 + 1)) ∧ ((InR IntKind.i64 (v7 + 1)) ∧ (R9_4 n (v7 + 1) (v7 + 1) (h0 ++ [ByteArray.extract x0 (Int.toNat v6) (Int.toNat v7)]) (x0) (x1) ds))))) else ((InR IntKind.i64 (v7 + 1)) ∧ (R9_4 n (v6) (v7 + 1) (h0) (x0) (x1) ds)))) else ((0 ≤ v6) ∧ (v6 ≤ (↑(ByteArray.size x0) : Int)) ∧ (((List.length h0 + 1) * 16 ≤ 140737488355328) ∧ (ds = [Dyn.mk (Ty.sl Ty.str) (h0 ++ [ByteArray.extract x0 (Int.toNat v6) (Int.toNat (↑(ByteArray.size x0) : Int))])]))))
end
theorem p9_0 (x0 : ByteArray) (x1 : Int) : Am.runN tab ext9 false 35 [] 2000 [] [] [0, 1, 5, 6, 7] [0] [] [.code b9] (entE 0 0 sig9 (x0, x1, ())) (entL sig9 (x0, x1, ())) = some (cutAt b9 4, E9_4 (0) (0) ([]) (x0) (x1), L9_4 (0) (0) ([]) (x0) (x1), []) := by kernel_rfl
theorem p9_1 (v6 : Int) (v7 : Int) (h0 : List ByteArray) (x0 : ByteArray) (x1 : Int) : Am.runN tab ext9 false 35 [] 2000 [] [] [0, 1, 5, 6, 7] [0] [true, true] (cutAt b9 4) (E9_4 v6 v7 h0 x0 x1) (L9_4 v6 v7 h0 x0 x1) = some (cutAt b9 4, E9_4 (v7 + 1) (v7 + 1) (h0 ++ [ByteArray.extract x0 (Int.toNat v6) (Int.toNat v7)]) (x0) (x1), L9_4 (v7 + 1) (v7 + 1) (h0 ++ [ByteArray.extract x0 (Int.toNat v6) (Int.toNat v7)]) (x0) (x1), [Decidable.decide (v7 < (↑(ByteArray.size x0) : Int)) = Bool.true, 0 ≤ v7, v7 < (↑(ByteArray.size x0) : Int), ((↑(UInt8.toNat (List.getD (Array.toList (ByteArray.data x0)) (Int.toNat v7) 0)) : Int) == x1) = Bool.true, 0 ≤ v6, v6 ≤ v7, v7 ≤ (↑(ByteArray.size x0) : Int), (List.length h0 + 1) * 16 ≤ 140737488355328, InR IntKind.i64 (v7 + 1), InR IntKind.i64 (v7 + 1)]) := by kernel_rfl
theorem p9_2 (v6 : Int) (v7 : Int) (h0 : List ByteArray) (x0 : ByteArray) (x1 : Int) : Am.runN tab ext9 false 35 [] 2000 [] [] [0, 1, 5, 6, 7] [0] [true, false] (cutAt b9 4) (E9_4 v6 v7 h0 x0 x1) (L9_4 v6 v7 h0 x0 x1) = some (cutAt b9 4, E9_4 (v6) (v7 + 1) (h0) (x0) (x1), L9_4 (v6) (v7 + 1) (h0) (x0) (x1), [Decidable.decide (v7 < (↑(ByteArray.size x0) : Int)) = Bool.true, 0 ≤ v7, v7 < (↑(ByteArray.size x0) : Int), ((↑(UInt8.toNat (List.getD (Array.toList (ByteArray.data x0)) (Int.toNat v7) 0)) : Int) == x1) = Bool.false, InR IntKind.i64 (v7 + 1)]) := by kernel_rfl
theorem p9_3 (v6 : Int) (v7 : Int) (h0 : List ByteArray) (x0 : ByteArray) (x1 : Int) : runF tab ext9 false 35 [] 2000 [] tys9 Tryd.f9.results [false] (cutAt b9 4) (E9_4 v6 v7 h0 x0 x1) (L9_4 v6 v7 h0 x0 x1) = some ([Dyn.mk (Ty.sl Ty.str) (h0 ++ [ByteArray.extract x0 (Int.toNat v6) (Int.toNat (↑(ByteArray.size x0) : Int))])], [], [Decidable.decide (v7 < (↑(ByteArray.size x0) : Int)) = Bool.false, 0 ≤ v6, v6 ≤ (↑(ByteArray.size x0) : Int), (List.length h0 + 1) * 16 ≤ 140737488355328]) := by kernel_rfl
theorem snd9 : ∀ n, (∀ (x0 : ByteArray) (x1 : Int) ds, R9 n x0 x1 ds → ∀ w0 O q, AtV Tryd.prog 9 (PostR ds [] [] q w0 O) 35 w0 O q [] [.code b9] (entE 0 0 sig9 (x0, x1, ())) (entL sig9 (x0, x1, ()))) ∧ (∀ (v6 : Int) (v7 : Int) (h0 : List ByteArray) (x0 : ByteArray) (x1 : Int) ds, R9_4 n v6 v7 h0 x0 x1 ds → ∀ w0 O q, AtV Tryd.prog 9 (PostR ds [] [] q w0 O) 35 w0 O q [] (cutAt b9 4) (E9_4 v6 v7 h0 x0 x1) (L9_4 v6 v7 h0 x0 x1)) := by
  intro n
  induction n with
  | zero => exact ⟨fun _ _ _ h => by simp only [R9] at h, fun _ _ _ _ _ _ h => by simp only [R9_4] at h⟩
  | succ n ih =>
  obtain ⟨ih, ih4⟩ := ih
  refine ⟨?_, ?_⟩
  · intro x0 x1 ds h w0 O q
    rw [R9] at h
    exact AtV.runN tabOk ext9Ok mixed (p9_0 x0 x1) trivial (ih4 _ _ _ _ _ _ h w0 O q)

  · intro v6 v7 h0 x0 x1 ds h w0 O q
    rw [R9_4] at h
    by_cases b0 : (Decidable.decide (v7 < (↑(ByteArray.size x0) : Int))) = true
    · rw [if_pos b0] at h
      obtain ⟨s0, s1, h⟩ := h
      by_cases b1 : ((↑(UInt8.toNat (List.getD (Array.toList (ByteArray.data x0)) (Int.toNat v7) 0)) : Int) == x1) = true
      · rw [if_pos b1] at h
        obtain ⟨s2, s3, s4, h⟩ := h
        obtain ⟨s5, h⟩ := h
        obtain ⟨s6, h⟩ := h
        obtain ⟨s7, h⟩ := h
        exact AtV.runN tabOk ext9Ok mixed (p9_1 v6 v7 h0 x0 x1) ⟨b0, s0, s1, b1, s2, s3, s4, s5, s6, s7, trivial⟩ (ih4 _ _ _ _ _ _ h w0 O q)
      · rw [if_neg b1] at h
        replace b1 := Bool.eq_false_iff.2 b1
        obtain ⟨s2, h⟩ := h
        exact AtV.runN tabOk ext9Ok mixed (p9_2 v6 v7 h0 x0 x1) ⟨b0, s0, s1, b1, s2, trivial⟩ (ih4 _ _ _ _ _ _ h w0 O q)
    · rw [if_neg b0] at h
      replace b0 := Bool.eq_false_iff.2 b0
      obtain ⟨s0, s1, h⟩ := h
      obtain ⟨s2, h⟩ := h
      subst h
      exact AtV.fin Tryd.func9 tabOk ext9Ok mixed (p9_3 v6 v7 h0 x0 x1) ⟨b0, s0, s1, s2, trivial⟩



def c9 (x1 : Int) : UInt8 := UInt8.ofNat x1.toNat
def g9_0 (x0 : ByteArray) (x1 : Int) : List ByteArray := bss (splitC (c9 x1) x0.data.toList)
def P9 (x0 : ByteArray) (x1 : Int) : Prop := x0.size < 4294967281 ∧ 0 ≤ x1 ∧ x1 ≤ 255

theorem run9 (x0 : ByteArray) (x1 : Int) (hs : x0.size < 4294967281) (h0 : 0 ≤ x1) (h1 : x1 ≤ 255) : ∀ (k i frm : Nat) (h : List ByteArray), i + k = x0.size → frm ≤ i → c9 x1 ∉ (x0.data.toList.drop frm).take (i - frm) → h.length ≤ i →
    R9_4 (k + 1) (frm : Int) (i : Int) h x0 x1 [⟨.sl .str, h ++ bss (splitC (c9 x1) (x0.data.toList.drop frm))⟩] := by
  intro k
  have hll : x0.data.toList.length = x0.size := rfl
  induction k with
  | zero =>
    intro i frm h hi hf hc hl
    rw [R9_4, if_neg (by simp; omega)]
    refine ⟨by omega, by omega, by omega, ?_⟩
    have e : (x0.data.toList.drop frm).take (i - frm) = x0.data.toList.drop frm := List.take_of_length_le (by rw [List.length_drop]; omega)
    rw [e] at hc
    rw [splitC_free _ hc, Int.toNat_natCast, Int.toNat_natCast, Lib.extract_from]
    rfl
  | succ k ih =>
    intro i frm h hi hf hc hl
    have hup : InR .i64 ((i : Int) + 1) := by rw [i64_iff]; omega
    have hlt : i < x0.data.toList.length := by rw [hll]; omega
    have hcons : x0.data.toList.drop i = x0.data.toList.getD i 0 :: x0.data.toList.drop (i + 1) := drop_get _ i 0 hlt
    have hsplit : x0.data.toList.drop frm = (x0.data.toList.drop frm).take (i - frm) ++ x0.data.toList.drop i := by
      conv => lhs; rw [← List.take_append_drop (i - frm) (x0.data.toList.drop frm)]
      rw [List.drop_drop, show frm + (i - frm) = i by omega]
    rw [R9_4, if_pos (by simp; omega)]
    simp only [Int.toNat_natCast]
    refine ⟨by omega, by omega, ?_⟩
    have hb : (((x0.data.toList.getD i 0).toNat : Int) == x1) = true ↔ x0.data.toList.getD i 0 = c9 x1 := by
      have hlt' := (x0.data.toList.getD i 0).toNat_lt
      rw [beq_iff_eq, ← UInt8.toNat_inj]
      unfold c9
      have : (UInt8.ofNat x1.toNat).toNat = x1.toNat := by rw [UInt8.toNat_ofNat']; omega
      rw [this]
      omega
    by_cases he : x0.data.toList.getD i 0 = c9 x1
    · rw [if_pos (hb.2 he)]
      refine ⟨by omega, by omega, by omega, by omega, hup, hup, ?_⟩
      have := ih (i + 1) (i + 1) (h ++ [x0.extract frm i]) (by omega) (Nat.le_refl _) (by simp) (by simp; omega)
      have e2 : x0.extract frm i = ⟨((x0.data.toList.drop frm).take (i - frm)).toArray⟩ := Lib.extract_mk x0.data.toList frm i
      have e3 : splitC (c9 x1) (x0.data.toList.drop frm) = (x0.data.toList.drop frm).take (i - frm) :: splitC (c9 x1) (x0.data.toList.drop (i + 1)) := by
        conv => lhs; rw [hsplit, hcons, he]
        exact splitC_hit _ _ hc
      rw [e3, e2]
      rw [List.append_assoc, e2] at this
      exact this
    · rw [if_neg (fun hh => he (hb.1 hh))]
      refine ⟨hup, ?_⟩
      refine ih (i + 1) frm h (by omega) (by omega) (fun hm => ?_) (by omega)
      have e4 : (x0.data.toList.drop frm).take (i + 1 - frm) = (x0.data.toList.drop frm).take (i - frm) ++ [x0.data.toList.getD i 0] := by
        conv => lhs; rw [hsplit, hcons]
        rw [List.take_append, List.take_of_length_le (by rw [List.length_take, List.length_drop]; omega)]
        have : i + 1 - frm - ((x0.data.toList.drop frm).take (i - frm)).length = 1 := by rw [List.length_take, List.length_drop]; omega
        rw [this]
        rfl
      rw [e4] at hm
      rcases List.mem_append.1 hm with hm | hm
      · exact hc hm
      · exact he (List.mem_singleton.1 hm).symm

theorem top9 (x0 : ByteArray) (x1 : Int) (h : P9 x0 x1) : R9 (x0.size + 1 + 1) x0 x1 [⟨.sl .str, g9_0 x0 x1⟩] := by
  rw [R9]
  have := run9 x0 x1 h.1 h.2.1 h.2.2 x0.size 0 0 [] (by omega) (Nat.le_refl _) (by simp) (by simp)
  simpa [g9_0] using this

def S9 : Am.Spec := { sig := sig9, pre := fun ⟨x0, x1, _⟩ => P9 x0 x1, res := fun ⟨x0, x1, _⟩ => [⟨.sl .str, g9_0 x0 x1⟩] }
theorem con9 : Contract Tryd.prog 9 S9 := contract_of Tryd.func9 hb9 (Nat.le_of_ble_eq_true (by kernel_rfl)) (fun ⟨x0, x1, _⟩ h hwf w0 O q =>
  (snd9 _).1 x0 x1 _ (top9 x0 x1 h) w0 O q)

end Go.Proofs.YtjkeinpcphkfbaaDoor

/- Function 14 (spec.l30Line): its runs between cut points. Written by a program of this repo (gen). -/
set_option linter.unusedVariables false
set_option linter.unusedSimpArgs false
set_option maxRecDepth 100000
namespace Go.Proofs.YtjkeinpcphkfbaaDoor
open Go Go.Am Go.Proofs
def ext14 : Ext := []
theorem ext14Ok : ExtOk Tryd.prog ext14 := trivial
/-! Function 14. -/
noncomputable def b14 : Code := bodyOf Tryd.f14
theorem hb14 : Tryd.f14.body = some b14 := by kernel_rfl
def sig14 : List AT := [AT.v (Ty.str)]
def tys14 : List Ty := [Ty.bool]
def E14_2 (v3 : Int) (x0 : ByteArray) : Env := [(0, PV.a (Atom.val (Value.string x0))), (3, PV.a (Atom.val (Value.int IntKind.i64 v3)))]
def L14_2 (v3 : Int) (x0 : ByteArray) : Heap := []
mutual
def R14 : Nat → ByteArray → List Dyn → Prop
  | 0, _, _ => False
  | n + 1, x0, ds => (R14_2 n (0) (x0) ds)
def R14_2 : Nat → Int → ByteArray → List Dyn → Prop
  | 0, _, _, _ => False
  | n + 1, v3, x0, ds => (if (Decidable.decide (v3 < (↑(ByteArray.size x0) : Int))) = true then ((0 ≤ v3) ∧ (v3 < (↑(ByteArray.size x0) : Int)) ∧ (if (Decidable.decide ((↑(UInt8.toNat (List.getD (Array.toList (ByteArray.data x0)) (Int.toNat v3) 0)) : Int) < 32)) = true then (ds = [Dyn.mk Ty.bool Bool.false]) else ((0 ≤ v3) ∧ (v3 < (↑(ByteArray.size x0) : Int)) ∧ (if (Decidable.decide ((↑(UInt8.toNat (List.getD (Array.toList (ByteArray.data x0)) (Int.toNat v3) 0)) : Int) > 126)) = true then (ds = [Dyn.mk Ty.bool Bool.false]) else ((InR IntKind.i64 (v3 + 1)) ∧ (R14_2 n (v3 + 1) (x0) ds)))))) else (ds = [Dyn.mk Ty.bool (Decidable.decide ((↑(ByteArray.size x0) : Int) ≤ 100))]))
end
theorem p14_0 (x0 : ByteArray) : Am.runN tab ext14 false 23 [] 2000 [] [] [0, 3] [] [] [.code b14] (entE 0 0 sig14 (x0, ())) (entL sig14 (x0, ())) = some (cutAt b14 2, E14_2 (0) (x0), L14_2 (0) (x0), []) := by kernel_rfl
theorem p14_1 (v3 : Int) (x0 : ByteArray) : runF tab ext14 false 23 [] 2000 [] tys14 Tryd.f14.results [true, true, true] (cutAt b14 2) (E14_2 v3 x0) (L14_2 v3 x0) = some ([Dyn.mk Ty.bool Bool.false], [], [Decidable.decide (v3 < (↑(ByteArray.size x0) : Int)) = Bool.true, 0 ≤ v3, v3 < (↑(ByteArray.size x0) : Int), Decidable.decide ((↑(UInt8.toNat (List.getD (Array.toList (ByteArray.data x0)) (Int.toNat v3) 0)) : Int) < 32) = Bool.true, Bool.true = Bool.true]) := by kernel_rfl
theorem p14_2 (v3 : Int) (x0 : ByteArray) : runF tab ext14 false 23 [] 2000 [] tys14 Tryd.f14.results [true, false, true] (cutAt b14 2) (E14_2 v3 x0) (L14_2 v3 x0) = some ([Dyn.mk Ty.bool Bool.false], [], [Decidable.decide (v3 < (↑(ByteArray.size x0) : Int)) = Bool.true, 0 ≤ v3, v3 < (↑(ByteArray.size x0) : Int), Decidable.decide ((↑(UInt8.toNat (List.getD (Array.toList (ByteArray.data x0)) (Int.toNat v3) 0)) : Int) < 32) = Bool.false, 0 ≤ v3, v3 < (↑(ByteArray.size x0) : Int), Decidable.decide ((↑(UInt8.toNat (List.getD (Array.toList (ByteArray.data x0)) (Int.toNat v3) 0)) : Int) > 126) = Bool.true]) := by kernel_rfl
theorem p14_3 (v3 : Int) (x0 : ByteArray) : Am.runN tab ext14 false 23 [] 2000 [] [] [0, 3] [] [true, false, false] (cutAt b14 2) (E14_2 v3 x0) (L14_2 v3 x0) = some (cutAt b14 2, E14_2 (v3 + 1) (x0), L14_2 (v3 + 1) (x0), [Decidable.decide (v3 < (↑(ByteArray.size x0) : Int)) = Bool.true, 0 ≤ v3, v3 < (↑(ByteArray.size x0) : Int), Decidable.decide ((↑(UInt8.toNat (List.getD (Array.toList (ByteArray.data x0)) (Int.toNat v3) 0)) : Int) < 32) = Bool.false, 0 ≤ v3, v3 < (↑(ByteArray.size x0) : Int), Decidable.decide ((↑(UInt8.toNat (List.getD (Array.toList (ByteArray.data x0)) (Int.toNat v3) 0)) : Int) > 126) = Bool.false, InR IntKind.i64 (v3 + 1)]) := by kernel_rfl
theorem p14_4 (v3 : Int) (x0 : ByteArray) : runF tab ext14 false 23 [] 2000 [] tys14 Tryd.f14.results [false] (cutAt b14 2) (E14_2 v3 x0) (L14_2 v3 x0) = some ([Dyn.mk Ty.bool (Decidable.decide ((↑(ByteArray.size x0) : Int) ≤ 100))], [], [Decidable.decide (v3 < (↑(ByteArray.size x0) : Int)) = Bool.false]) := by kernel_rfl
theorem snd14 : ∀ n, (∀ (x0 : ByteArray) ds, R14 n x0 ds → ∀ w0 O q, AtV Tryd.prog 14 (PostR ds [] [] q w0 O) 23 w0 O q [] [.code b14] (entE 0 0 sig14 (x0, ())) (entL sig14 (x0, ()))) ∧ (∀ (v3 : Int) (x0 : ByteArray) ds, R14_2 n v3 x0 ds → ∀ w0 O q, AtV Tryd.prog 14 (PostR ds [] [] q w0 O) 23 w0 O q [] (cutAt b14 2) (E14_2 v3 x0) (L14_2 v3 x0)) := by
  intro n
  induction n with
  | zero => exact ⟨fun _ _ h => by simp only [R14] at h, fun _ _ _ h => by simp only [R14_2] at h⟩
  | succ n ih =>
  obtain ⟨ih, ih2⟩ := ih
  refine ⟨?_, ?_⟩
  · intro x0 ds h w0 O q
    rw [R14] at h
    exact AtV.runN tabOk ext14Ok mixed (p14_0 x0) trivial (ih2 _ _ _ h w0 O q)

  · intro v3 x0 ds h w0 O q
    rw [R14_2] at h
    by_cases b0 : (Decidable.decide (v3 < (↑(ByteArray.size x0) : Int))) = true
    · rw [if_pos b0] at h
      obtain ⟨s0, s1, h⟩ := h
      by_cases b1 : (Decidable.decide ((↑(UInt8.toNat (List.getD (Array.toList (ByteArray.data x0)) (Int.toNat v3) 0)) : Int) < 32)) = true
      · rw [if_pos b1] at h
        subst h
        exact AtV.fin Tryd.func14 tabOk ext14Ok mixed (p14_1 v3 x0) ⟨b0, s0, s1, b1, rfl, trivial⟩
      · rw [if_neg b1] at h
        replace b1 := Bool.eq_false_iff.2 b1
        obtain ⟨s2, s3, h⟩ := h
        by_cases b2 : (Decidable.decide ((↑(UInt8.toNat (List.getD (Array.toList (ByteArray.data x0)) (Int.toNat v3) 0)) : Int) > 126)) = true
        · rw [if_pos b2] at h
          subst h
          exact AtV.fin Tryd.func14 tabOk ext14Ok mixed (p14_2 v3 x0) ⟨b0, s0, s1, b1, s2, s3, b2, trivial⟩
        · rw [if_neg b2] at h
          replace b2 := Bool.eq_false_iff.2 b2
          obtain ⟨s4, h⟩ := h
          exact AtV.runN tabOk ext14Ok mixed (p14_3 v3 x0) ⟨b0, s0, s1, b1, s2, s3, b2, s4, trivial⟩ (ih2 _ _ _ h w0 O q)
    · rw [if_neg b0] at h
      replace b0 := Bool.eq_false_iff.2 b0
      subst h
      exact AtV.fin Tryd.func14 tabOk ext14Ok mixed (p14_4 v3 x0) ⟨b0, trivial⟩



/-- A byte of a line. -/
def ok14 (b : Int) : Bool := decide (32 ≤ b) && decide (b ≤ 126)
def g14_0 (x0 : ByteArray) : Bool := (bytesOf x0).all ok14 && decide (x0.size ≤ 100)
def P14 (x0 : ByteArray) : Prop := True

theorem top14 (x0 : ByteArray) (hw : Wf .str x0) : R14 (x0.size + 1 + 1) x0 [⟨.bool, g14_0 x0⟩] := by
  have hl := bytesOf_length x0
  rw [R14]
  have key := loop_test (bytesOf x0) 0 ok14 [(⟨.bool, false⟩ : Dyn)] [⟨.bool, decide (x0.size ≤ 100)⟩] (fun n i ds => R14_2 n i x0 ds) (fun n => ?_) (fun n i hi hok ds hr => ?_) (fun n i hi hok => ?_)
  · rw [hl] at key
    unfold g14_0
    cases h : (bytesOf x0).all ok14 <;> rw [h] at key <;> simpa using key
  · show R14_2 (n + 1) ((bytesOf x0).length : Int) x0 _
    rw [R14_2, hl, if_neg (by simp)]
    simp only [Dyn.mk.injEq, heq_eq_eq, true_and, List.cons.injEq, and_true]
    congr 1
    exact propext ⟨fun h => by omega, fun h => by omega⟩
  · simp only [ok14, Bool.and_eq_true, decide_eq_true_eq] at hok
    rw [R14_2, if_pos (by simp; omega)]
    simp only [Int.toNat_natCast, byte_get]
    generalize (bytesOf x0).getD i 0 = c at *
    refine ⟨by omega, by omega, ?_⟩
    rw [if_neg (by simp only [decide_eq_true_eq]; omega)]
    refine ⟨by omega, by omega, ?_⟩
    rw [if_neg (by simp only [decide_eq_true_eq]; omega)]
    exact ⟨inR_up (xs := bytesOf x0) (by rw [hl]; exact hw) hi, hr⟩
  · simp only [ok14, Bool.and_eq_false_iff, decide_eq_false_iff_not] at hok
    rw [R14_2, if_pos (by simp; omega)]
    simp only [Int.toNat_natCast, byte_get]
    generalize (bytesOf x0).getD i 0 = c at *
    refine ⟨by omega, by omega, ?_⟩
    by_cases h1 : c < 32
    · rw [if_pos (by simpa using h1)] <;> trivial
    · rw [if_neg (by simpa using h1)]
      refine ⟨by omega, by omega, ?_⟩
      rw [if_pos (by simp only [decide_eq_true_eq]; omega)] <;> trivial

def S14 : Am.Spec := { sig := sig14, pre := fun ⟨x0, _⟩ => P14 x0, res := fun ⟨x0, _⟩ => [⟨Ty.bool, g14_0 x0⟩] }
theorem con14 : Contract Tryd.prog 14 S14 := contract_of Tryd.func14 hb14 (Nat.le_of_ble_eq_true (by kernel_rfl)) (fun ⟨x0, _⟩ h hwf w0 O q =>
  (snd14 _).1 x0 _ (top14 x0 hwf.1) w0 O q)

end Go.Proofs.YtjkeinpcphkfbaaDoor

/- Function 10 (spec.l30Ok): its runs between cut points. Written by a program of this repo (gen). -/
set_option linter.unusedVariables false
set_option linter.unusedSimpArgs false
set_option maxRecDepth 100000
namespace Go.Proofs.YtjkeinpcphkfbaaDoor
open Go Go.Am Go.Proofs
def ext10 : Ext := [(14, S14)]
theorem call10_14 : Callable Tryd.prog 14 := ⟨Tryd.f14, Tryd.func14, by kernel_rfl, by kernel_rfl⟩
theorem ext10Ok : ExtOk Tryd.prog ext10 := ⟨⟨call10_14, con14⟩, trivial⟩
/-! Function 10. -/
noncomputable def b10 : Code := bodyOf Tryd.f10
theorem hb10 : Tryd.f10.body = some b10 := by kernel_rfl
def sig10 : List AT := [AT.v (Ty.sl Ty.str)]
def tys10 : List Ty := [Ty.bool]
def E10_2 (v3 : Int) (x0 : List ByteArray) : Env := [(0, PV.a (Atom.sl Ty.str x0)), (3, PV.a (Atom.val (Value.int IntKind.i64 v3)))]
def L10_2 (v3 : Int) (x0 : List ByteArray) : Heap := []
mutual
def R10 : Nat → List ByteArray → List Dyn → Prop
  | 0, _, _ => False
  | n + 1, x0, ds => (R10_2 n (0) (x0) ds)
def R10_2 : Nat → Int → List ByteArray → List Dyn → Prop
  | 0, _, _, _ => False
  | n + 1, v3, x0, ds => (if (Decidable.decide (v3 < (↑(List.length x0) : Int))) = true then ((0 ≤ v3) ∧ (v3 < (↑(List.length x0) : Int)) ∧ (if (!g14_0 (List.getD x0 (Int.toNat v3) ByteArray.empty)) = true then (ds = [Dyn.mk Ty.bool Bool.false]) else ((InR IntKind.i64 (v3 + 1)) ∧ (R10_2 n (v3 + 1) (x0) ds)))) else (ds = [Dyn.mk Ty.bool (Decidable.decide ((↑(List.length x0) : Int) ≤ 200))]))
end
theorem p10_0 (x0 : List ByteArray) : Am.runN tab ext10 false 19 [] 2000 [] [] [0, 3] [] [] [.code b10] (entE 0 0 sig10 (x0, ())) (entL sig10 (x0, ())) = some (cutAt b10 2, E10_2 (0) (x0), L10_2 (0) (x0), []) := by kernel_rfl
theorem p10_1 (v3 : Int) (x0 : List ByteArray) : runF tab ext10 false 19 [] 2000 [] tys10 Tryd.f10.results [true, true] (cutAt b10 2) (E10_2 v3 x0) (L10_2 v3 x0) = some ([Dyn.mk Ty.bool Bool.false], [], [Decidable.decide (v3 < (↑(List.length x0) : Int)) = Bool.true, 0 ≤ v3, v3 < (↑(List.length x0) : Int), True, (!g14_0 (List.getD x0 (Int.toNat v3) ByteArray.empty)) = Bool.true]) := by kernel_rfl
theorem p10_2 (v3 : Int) (x0 : List ByteArray) : Am.runN tab ext10 false 19 [] 2000 [] [] [0, 3] [] [true, false] (cutAt b10 2) (E10_2 v3 x0) (L10_2 v3 x0) = some (cutAt b10 2, E10_2 (v3 + 1) (x0), L10_2 (v3 + 1) (x0), [Decidable.decide (v3 < (↑(List.length x0) : Int)) = Bool.true, 0 ≤ v3, v3 < (↑(List.length x0) : Int), True, (!g14_0 (List.getD x0 (Int.toNat v3) ByteArray.empty)) = Bool.false, InR IntKind.i64 (v3 + 1)]) := by kernel_rfl
theorem p10_3 (v3 : Int) (x0 : List ByteArray) : runF tab ext10 false 19 [] 2000 [] tys10 Tryd.f10.results [false] (cutAt b10 2) (E10_2 v3 x0) (L10_2 v3 x0) = some ([Dyn.mk Ty.bool (Decidable.decide ((↑(List.length x0) : Int) ≤ 200))], [], [Decidable.decide (v3 < (↑(List.length x0) : Int)) = Bool.false]) := by kernel_rfl
theorem snd10 : ∀ n, (∀ (x0 : List ByteArray) ds, R10 n x0 ds → ∀ w0 O q, AtV Tryd.prog 10 (PostR ds [] [] q w0 O) 19 w0 O q [] [.code b10] (entE 0 0 sig10 (x0, ())) (entL sig10 (x0, ()))) ∧ (∀ (v3 : Int) (x0 : List ByteArray) ds, R10_2 n v3 x0 ds → ∀ w0 O q, AtV Tryd.prog 10 (PostR ds [] [] q w0 O) 19 w0 O q [] (cutAt b10 2) (E10_2 v3 x0) (L10_2 v3 x0)) := by
  intro n
  induction n with
  | zero => exact ⟨fun _ _ h => by simp only [R10] at h, fun _ _ _ h => by simp only [R10_2] at h⟩
  | succ n ih =>
  obtain ⟨ih, ih2⟩ := ih
  refine ⟨?_, ?_⟩
  · intro x0 ds h w0 O q
    rw [R10] at h
    exact AtV.runN tabOk ext10Ok mixed (p10_0 x0) trivial (ih2 _ _ _ h w0 O q)

  · intro v3 x0 ds h w0 O q
    rw [R10_2] at h
    by_cases b0 : (Decidable.decide (v3 < (↑(List.length x0) : Int))) = true
    · rw [if_pos b0] at h
      obtain ⟨s0, s1, h⟩ := h
      by_cases b1 : (!g14_0 (List.getD x0 (Int.toNat v3) ByteArray.empty)) = true
      · rw [if_pos b1] at h
        subst h
        exact AtV.fin Tryd.func10 tabOk ext10Ok mixed (p10_1 v3 x0) ⟨b0, s0, s1, trivial, b1, trivial⟩
      · rw [if_neg b1] at h
        replace b1 := Bool.eq_false_iff.2 b1
        obtain ⟨s2, h⟩ := h
        exact AtV.runN tabOk ext10Ok mixed (p10_2 v3 x0) ⟨b0, s0, s1, trivial, b1, s2, trivial⟩ (ih2 _ _ _ h w0 O q)
    · rw [if_neg b0] at h
      replace b0 := Bool.eq_false_iff.2 b0
      subst h
      exact AtV.fin Tryd.func10 tabOk ext10Ok mixed (p10_3 v3 x0) ⟨b0, trivial⟩



def g10_0 (x0 : List ByteArray) : Bool := x0.all g14_0 && decide (x0.length ≤ 200)
def P10 (x0 : List ByteArray) : Prop := True

theorem top10 (x0 : List ByteArray) (hw : Wf (.sl .str) x0) : R10 (x0.length + 1 + 1) x0 [⟨.bool, g10_0 x0⟩] := by
  rw [R10]
  have key := loop_test x0 ByteArray.empty g14_0 [(⟨.bool, false⟩ : Dyn)] [⟨.bool, decide (x0.length ≤ 200)⟩] (fun n i ds => R10_2 n i x0 ds) (fun n => ?_) (fun n i hi hok ds hr => ?_) (fun n i hi hok => ?_)
  · unfold g10_0
    cases h : x0.all g14_0 <;> rw [h] at key <;> simpa using key
  · rw [R10_2, if_neg (by simp)]
    simp only [Dyn.mk.injEq, heq_eq_eq, true_and, List.cons.injEq, and_true]
    congr 1
    exact propext ⟨fun h => by omega, fun h => by omega⟩
  · rw [R10_2, if_pos (by simp; omega)]
    simp only [Int.toNat_natCast]
    refine ⟨by omega, by omega, ?_⟩
    rw [if_neg (by rw [hok]; simp)]
    exact ⟨inR_up hw.1 hi, hr⟩
  · rw [R10_2, if_pos (by simp; omega)]
    simp only [Int.toNat_natCast]
    refine ⟨by omega, by omega, ?_⟩
    rw [if_pos (by rw [hok]; simp)] <;> trivial

def S10 : Am.Spec := { sig := sig10, pre := fun ⟨x0, _⟩ => P10 x0, res := fun ⟨x0, _⟩ => [⟨Ty.bool, g10_0 x0⟩] }
theorem con10 : Contract Tryd.prog 10 S10 := contract_of Tryd.func10 hb10 (Nat.le_of_ble_eq_true (by kernel_rfl)) (fun ⟨x0, _⟩ h hwf w0 O q =>
  (snd10 _).1 x0 _ (top10 x0 hwf.1) w0 O q)

end Go.Proofs.YtjkeinpcphkfbaaDoor

/- Function 4 (spec.ReadReport): its runs between cut points. Written by a program of this repo (gen). -/
set_option linter.unusedVariables false
set_option linter.unusedSimpArgs false
set_option maxRecDepth 100000
namespace Go.Proofs.YtjkeinpcphkfbaaDoor
open Go Go.Am Go.Proofs
def ext4 : Ext := [(9, S9), (10, S10)]
theorem call4_9 : Callable Tryd.prog 9 := ⟨Tryd.f9, Tryd.func9, by kernel_rfl, by kernel_rfl⟩
theorem call4_10 : Callable Tryd.prog 10 := ⟨Tryd.f10, Tryd.func10, by kernel_rfl, by kernel_rfl⟩
theorem ext4Ok : ExtOk Tryd.prog ext4 := ⟨⟨call4_9, con9⟩, ⟨call4_10, con10⟩, trivial⟩
/-! Function 4. -/
noncomputable def b4 : Code := bodyOf Tryd.f4
theorem hb4 : Tryd.f4.body = some b4 := by kernel_rfl
def sig4 : List AT := [AT.v (Ty.str)]
def tys4 : List Ty := [Ty.sl Ty.str, Ty.bool]
def P4 (x0 : ByteArray) : Prop := ((P9 x0 10) ∧ ((InR IntKind.i64 ((↑(List.length (g9_0 x0 10)) : Int) - 1)) ∧ ((0 ≤ (↑(List.length (g9_0 x0 10)) : Int) - 1) ∧ ((↑(List.length (g9_0 x0 10)) : Int) - 1 < (↑(List.length (g9_0 x0 10)) : Int)) ∧ (if (!ByteArray.toList (List.getD (g9_0 x0 10) (Int.toNat ((↑(List.length (g9_0 x0 10)) : Int) - 1)) ByteArray.empty) == ByteArray.toList (ByteArray.mk #[])) = true then True else ((InR IntKind.i64 ((↑(List.length (g9_0 x0 10)) : Int) - 1)) ∧ ((0 ≤ (↑(List.length (g9_0 x0 10)) : Int) - 1) ∧ ((↑(List.length (g9_0 x0 10)) : Int) - 1 ≤ (↑(List.length (g9_0 x0 10) - 0) : Int)) ∧ (if (!g10_0 (List.drop 0 (List.take (0 + Int.toNat ((↑(List.length (g9_0 x0 10)) : Int) - 1)) (g9_0 x0 10)))) = true then True else ((InR IntKind.i64 ((↑(List.length (g9_0 x0 10)) : Int) - 1)) ∧ ((0 ≤ (↑(List.length (g9_0 x0 10)) : Int) - 1) ∧ ((↑(List.length (g9_0 x0 10)) : Int) - 1 ≤ (↑(List.length (g9_0 x0 10) - 0) : Int)) ∧ (((0 + List.length (List.drop 0 (List.take (0 + Int.toNat ((↑(List.length (g9_0 x0 10)) : Int) - 1)) (g9_0 x0 10)))) * 16 ≤ 140737488355328) ∧ True))))))))))
def g4_0 (x0 : ByteArray) : List ByteArray := (if (!ByteArray.toList (List.getD (g9_0 x0 10) (Int.toNat ((↑(List.length (g9_0 x0 10)) : Int) - 1)) ByteArray.empty) == ByteArray.toList (ByteArray.mk #[])) = true then [] else (if (!g10_0 (List.drop 0 (List.take (0 + Int.toNat ((↑(List.length (g9_0 x0 10)) : Int) - 1)) (g9_0 x0 10)))) = true then [] else [] ++ List.drop 0 (List.take (0 + Int.toNat ((↑(List.length (g9_0 x0 10)) : Int) - 1)) (g9_0 x0 10))))
def g4_1 (x0 : ByteArray) : Bool := (if (!ByteArray.toList (List.getD (g9_0 x0 10) (Int.toNat ((↑(List.length (g9_0 x0 10)) : Int) - 1)) ByteArray.empty) == ByteArray.toList (ByteArray.mk #[])) = true then Bool.false else (if (!g10_0 (List.drop 0 (List.take (0 + Int.toNat ((↑(List.length (g9_0 x0 10)) : Int) - 1)) (g9_0 x0 10)))) = true then Bool.false else Bool.true))
theorem p4_0 (x0 : ByteArray) : runF tab ext4 false 30 [] 2000 [] tys4 Tryd.f4.results [true, true] [.code b4] (entE 0 0 sig4 (x0, ())) (entL sig4 (x0, ())) = some ([Dyn.mk (Ty.sl Ty.str) [], Dyn.mk Ty.bool Bool.false], [], [P9 x0 10, InR IntKind.i64 ((↑(List.length (g9_0 x0 10)) : Int) - 1), 0 ≤ (↑(List.length (g9_0 x0 10)) : Int) - 1, (↑(List.length (g9_0 x0 10)) : Int) - 1 < (↑(List.length (g9_0 x0 10)) : Int), (!ByteArray.toList (List.getD (g9_0 x0 10) (Int.toNat ((↑(List.length (g9_0 x0 10)) : Int) - 1)) ByteArray.empty) == ByteArray.toList (ByteArray.mk #[])) = Bool.true, Bool.true = Bool.true]) := by kernel_rfl
theorem p4_1 (x0 : ByteArray) : runF tab ext4 false 30 [] 2000 [] tys4 Tryd.f4.results [false, true] [.code b4] (entE 0 0 sig4 (x0, ())) (entL sig4 (x0, ())) = some ([Dyn.mk (Ty.sl Ty.str) [], Dyn.mk Ty.bool Bool.false], [], [P9 x0 10, InR IntKind.i64 ((↑(List.length (g9_0 x0 10)) : Int) - 1), 0 ≤ (↑(List.length (g9_0 x0 10)) : Int) - 1, (↑(List.length (g9_0 x0 10)) : Int) - 1 < (↑(List.length (g9_0 x0 10)) : Int), (!ByteArray.toList (List.getD (g9_0 x0 10) (Int.toNat ((↑(List.length (g9_0 x0 10)) : Int) - 1)) ByteArray.empty) == ByteArray.toList (ByteArray.mk #[])) = Bool.false, InR IntKind.i64 ((↑(List.length (g9_0 x0 10)) : Int) - 1), 0 ≤ (↑(List.length (g9_0 x0 10)) : Int) - 1, (↑(List.length (g9_0 x0 10)) : Int) - 1 ≤ (↑(List.length (g9_0 x0 10) - 0) : Int), True, (!g10_0 (List.drop 0 (List.take (0 + Int.toNat ((↑(List.length (g9_0 x0 10)) : Int) - 1)) (g9_0 x0 10)))) = Bool.true]) := by kernel_rfl
theorem p4_2 (x0 : ByteArray) : runF tab ext4 false 30 [] 2000 [] tys4 Tryd.f4.results [false, false] [.code b4] (entE 0 0 sig4 (x0, ())) (entL sig4 (x0, ())) = some ([Dyn.mk (Ty.sl Ty.str) ([] ++ List.drop 0 (List.take (0 + Int.toNat ((↑(List.length (g9_0 x0 10)) : Int) - 1)) (g9_0 x0 10))), Dyn.mk Ty.bool Bool.true], [], [P9 x0 10, InR IntKind.i64 ((↑(List.length (g9_0 x0 10)) : Int) - 1), 0 ≤ (↑(List.length (g9_0 x0 10)) : Int) - 1, (↑(List.length (g9_0 x0 10)) : Int) - 1 < (↑(List.length (g9_0 x0 10)) : Int), (!ByteArray.toList (List.getD (g9_0 x0 10) (Int.toNat ((↑(List.length (g9_0 x0 10)) : Int) - 1)) ByteArray.empty) == ByteArray.toList (ByteArray.mk #[])) = Bool.false, InR IntKind.i64 ((↑(List.length (g9_0 x0 10)) : Int) - 1), 0 ≤ (↑(List.length (g9_0 x0 10)) : Int) - 1, (↑(List.length (g9_0 x0 10)) : Int) - 1 ≤ (↑(List.length (g9_0 x0 10) - 0) : Int), True, (!g10_0 (List.drop 0 (List.take (0 + Int.toNat ((↑(List.length (g9_0 x0 10)) : Int) - 1)) (g9_0 x0 10)))) = Bool.false, InR IntKind.i64 ((↑(List.length (g9_0 x0 10)) : Int) - 1), 0 ≤ (↑(List.length (g9_0 x0 10)) : Int) - 1, (↑(List.length (g9_0 x0 10)) : Int) - 1 ≤ (↑(List.length (g9_0 x0 10) - 0) : Int), (0 + List.length (List.drop 0 (List.take (0 + Int.toNat ((↑(List.length (g9_0 x0 10)) : Int) - 1)) (g9_0 x0 10)))) * 16 ≤ 140737488355328]) := by kernel_rfl
theorem at4 (x0 : ByteArray) (h : P4 x0) (w0 : World) (O : List Nat) (q : Nat → Value) : AtV Tryd.prog 4 (PostR [⟨Ty.sl Ty.str, g4_0 x0⟩, ⟨Ty.bool, g4_1 x0⟩] [] [] q w0 O) 30 w0 O q [] [.code b4] (entE 0 0 sig4 (x0, ())) (entL sig4 (x0, ())) := by
  unfold P4 at h
  unfold g4_0 g4_1
  obtain ⟨s0, h⟩ := h
  obtain ⟨s1, h⟩ := h
  obtain ⟨s2, s3, h⟩ := h
  by_cases b0 : (!ByteArray.toList (List.getD (g9_0 x0 10) (Int.toNat ((↑(List.length (g9_0 x0 10)) : Int) - 1)) ByteArray.empty) == ByteArray.toList (ByteArray.mk #[])) = true
  · try simp only [if_pos b0] at h ⊢
    exact AtV.fin Tryd.func4 tabOk ext4Ok mixed (p4_0 x0) ⟨s0, s1, s2, s3, b0, rfl, trivial⟩
  · try simp only [if_neg b0] at h ⊢
    replace b0 := Bool.eq_false_iff.2 b0
    obtain ⟨s4, h⟩ := h
    obtain ⟨s5, s6, h⟩ := h
    by_cases b1 : (!g10_0 (List.drop 0 (List.take (0 + Int.toNat ((↑(List.length (g9_0 x0 10)) : Int) - 1)) (g9_0 x0 10)))) = true
    · try simp only [if_pos b1] at h ⊢
      exact AtV.fin Tryd.func4 tabOk ext4Ok mixed (p4_1 x0) ⟨s0, s1, s2, s3, b0, s4, s5, s6, trivial, b1, trivial⟩
    · try simp only [if_neg b1] at h ⊢
      replace b1 := Bool.eq_false_iff.2 b1
      obtain ⟨s7, h⟩ := h
      obtain ⟨s8, s9, h⟩ := h
      obtain ⟨s10, h⟩ := h
      exact AtV.fin Tryd.func4 tabOk ext4Ok mixed (p4_2 x0) ⟨s0, s1, s2, s3, b0, s4, s5, s6, trivial, b1, s7, s8, s9, s10, trivial⟩

def S4 : Am.Spec := { sig := sig4, pre := fun ⟨x0, _⟩ => P4 x0, res := fun ⟨x0, _⟩ => [⟨Ty.sl Ty.str, g4_0 x0⟩, ⟨Ty.bool, g4_1 x0⟩] }
theorem con4 : Contract Tryd.prog 4 S4 := contract_of Tryd.func4 hb4 (Nat.le_of_ble_eq_true (by kernel_rfl)) (fun ⟨x0, _⟩ h _ w0 O q => at4 x0 h w0 O q)


end Go.Proofs.YtjkeinpcphkfbaaDoor

/- The contracts of the library that this program uses, laid at this program. Written by a tool of the kit. -/
set_option linter.unusedVariables false
set_option maxRecDepth 100000
namespace Go.Proofs
open Go.Shelf
def Tryd.lays146_ren : Go.Shelf.Ren := ⟨fun | 146 => 15 | 221 => 19 | 268 => 23 | 138 => 24 | 143 => 25 | 195 => 27 | 197 => 28 | 218 => 29 | 219 => 30 | 260 => 31 | 217 => 32 | 225 => 33 | 224 => 34 | 267 => 35 | 266 => 36 | 314 => 37 | n => n, fun | 9 => 9 | 31 => 22 | 3 => 3 | 4 => 4 | 0 => 0 | 105 => 44 | 21 => 21 | 5 => 5 | 46 => 48 | 119 => 49 | 139 => 52 | 138 => 51 | 146 => 54 | 51 => 53 | n => n, fun | 1 => 0 | 3 => 1 | 4 => 2 | n => n⟩
theorem Tryd.lays146 : Go.Proofs.Lays.n146 Tryd.prog Tryd.lays146_ren := {
  mixed := by kernel_rfl
  f138 := Tryd.func24.trans (congrArg some (by kernel_rfl))
  f143 := Tryd.func25.trans (congrArg some (by kernel_rfl))
  f146 := Tryd.func15.trans (congrArg some (by kernel_rfl))
  f195 := Tryd.func27.trans (congrArg some (by kernel_rfl))
  f197 := Tryd.func28.trans (congrArg some (by kernel_rfl))
  f217 := Tryd.func32.trans (congrArg some (by kernel_rfl))
  f218 := Tryd.func29.trans (congrArg some (by kernel_rfl))
  f219 := Tryd.func30.trans (congrArg some (by kernel_rfl))
  f221 := Tryd.func19.trans (congrArg some (by kernel_rfl))
  f224 := Tryd.func34.trans (congrArg some (by kernel_rfl))
  f225 := Tryd.func33.trans (congrArg some (by kernel_rfl))
  f260 := Tryd.func31.trans (congrArg some (by kernel_rfl))
  f266 := Tryd.func36.trans (congrArg some (by kernel_rfl))
  f267 := Tryd.func35.trans (congrArg some (by kernel_rfl))
  f268 := Tryd.func23.trans (congrArg some (by kernel_rfl))
  f314 := Tryd.func37.trans (congrArg some (by kernel_rfl))
  t0 := Tryd.underlying0
  a0 := Tryd.isAgg0
  z0 := Tryd.sizeOf0
  v0 := Tryd.zeroValue0
  t3 := Tryd.underlying3
  a3 := Tryd.isAgg3
  z3 := Tryd.sizeOf3
  v3 := Tryd.zeroValue3
  t4 := Tryd.underlying4
  a4 := Tryd.isAgg4
  z4 := Tryd.sizeOf4
  v4 := Tryd.zeroValue4
  t5 := Tryd.underlying5
  a5 := Tryd.isAgg5
  z5 := Tryd.sizeOf5
  v5 := Tryd.zeroValue5
  t9 := Tryd.underlying9
  a9 := Tryd.isAgg9
  z9 := Tryd.sizeOf9
  v9 := Tryd.zeroValue9
  t21 := Tryd.underlying21
  a21 := Tryd.isAgg21
  z21 := Tryd.sizeOf21
  v21 := Tryd.zeroValue21
  t31 := Tryd.underlying22
  a31 := Tryd.isAgg22
  z31 := Tryd.sizeOf22
  v31 := Tryd.zeroValue22
  t46 := Tryd.underlying48
  a46 := Tryd.isAgg48
  z46 := Tryd.sizeOf48
  v46 := Tryd.zeroValue48
  t51 := Tryd.underlying53
  a51 := Tryd.isAgg53
  z51 := Tryd.sizeOf53
  v51 := Tryd.zeroValue53
  t105 := Tryd.underlying44
  a105 := Tryd.isAgg44
  z105 := Tryd.sizeOf44
  v105 := Tryd.zeroValue44
  t119 := Tryd.underlying49
  a119 := Tryd.isAgg49
  z119 := Tryd.sizeOf49
  t138 := Tryd.underlying51
  a138 := Tryd.isAgg51
  z138 := Tryd.sizeOf51
  v138 := Tryd.zeroValue51
  t139 := Tryd.underlying52
  a139 := Tryd.isAgg52
  z139 := Tryd.sizeOf52
  v139 := Tryd.zeroValue52
  t146 := Tryd.underlying54
  a146 := Tryd.isAgg54
  z146 := Tryd.sizeOf54
  v146 := Tryd.zeroValue54
  g1 := by kernel_rfl
  g3 := by kernel_rfl
  g4 := by kernel_rfl }
open Go.RowKit Go.Lib in theorem Tryd.strings_Split (s sep : ByteArray) (m : Int) (w : World) (hs : s.size < 4294967281) (hm : w.cell? ⟨0, 0, none⟩ = some (.int .i64 m)) (h1 : 1 ≤ sep.size) :
    Calls Tryd.prog 15 #[.string s, .string sep] w fun e w' =>
      e = .returned (.slice (some ⟨w.heap.size, 0, none⟩) (Lib.countB s sep + 1) (Lib.countB s sep + 1)) ∧ w' = w.alloc (.cells ((Lib.splitB sep 0 (Lib.countB s sep) s).map Value.string).toArray 9) := Any.strings_Split Tryd.lays146 (by kernel_rfl) s sep m w hs hm h1
end Go.Proofs

/- Function 15 (strings.Split): its contract, off what is known of the library. -/
set_option linter.unusedVariables false
set_option linter.unusedSimpArgs false
set_option maxRecDepth 100000
namespace Go.Proofs.YtjkeinpcphkfbaaDoor
open Go Go.Am Go.Proofs

def sig15 : List AT := [AT.v Ty.str, AT.v Ty.str]
def g15_0 (x0 x1 : ByteArray) : List ByteArray := Lib.splitB x1 0 (Lib.countB x0 x1) x0
def P15 (x0 x1 : ByteArray) : Prop := x0.size < 4294967281 ∧ 1 ≤ x1.size
def S15 : Am.Spec := { sig := sig15, pre := fun ⟨x0, x1, _⟩ => P15 x0 x1, res := fun ⟨x0, x1, _⟩ => [⟨Ty.sl Ty.str, g15_0 x0 x1⟩] }

theorem con15 : Contract Tryd.prog 15 S15 := by
  rintro w ⟨x0, x1, u⟩ vs bss hgo hp ⟨v0, s0, b0, bs0, rfl, rfl, ⟨rfl, rfl, _⟩, v1, s1, b1, bs1, rfl, rfl, ⟨rfl, rfl, _⟩, rfl, rfl⟩ hn
  obtain ⟨hs, h1⟩ : x0.size < 4294967281 ∧ 1 ≤ x1.size := hp
  obtain ⟨m, hm⟩ := maxLenG hgo.inv
  refine (Tryd.strings_Split x0 x1 m w hs hm h1).mono ?_
  rintro e w' ⟨rfl, rfl⟩
  have hlen : (g15_0 x0 x1).length = Lib.countB x0 x1 + 1 := Lib.splitB_all x1 h1 0 _ _ rfl
  have hle := Lib.countB_le x1 h1 x0.size x0 (Nat.le_refl _)
  have hparts : ∀ y ∈ g15_0 x0 x1, y.size ≤ maxLen := fun y hy => by
    have := splitB_part x1 0 _ _ y hy
    unfold maxLen; omega
  have e1 : ∀ xs : List ByteArray, fcs .str xs = xs.map Value.string := by
    intro xs
    induction xs with
    | nil => rfl
    | cons a r ih => unfold fcs at ih ⊢; rw [List.map_cons, List.flatten_cons, ih]; rfl
  have ho : OwnC (w.alloc (.cells ((g15_0 x0 x1).map Value.string).toArray 9)) (.sl .str) (g15_0 x0 x1) [.slice (some ⟨w.heap.size, 0, none⟩) (Lib.countB x0 x1 + 1) (Lib.countB x0 x1 + 1)] [w.heap.size] :=
    own_flat_mk rfl hparts hlen.symm (Nat.le_of_eq hlen) (by unfold maxLen; omega) (by rw [List.size_toArray, List.length_map, hlen]; simp [Ty.size]) (heap_new w _) (freeS_zero _ _) (fun j u hj => by
      rw [e1] at hj
      rw [Nat.zero_add, ← Array.getElem?_toList]
      exact hj)
  refine ⟨[_], [], [[w.heap.size]], rfl, (Kept.refl _ _).alloc _, ⟨_, _, _, _, _, rfl, rfl, ho, rfl, rfl, rfl⟩, ⟨rfl, rfl⟩, by simp, fun b hb hg => ?_⟩
  simp at hb
  have := hg.1
  omega

end Go.Proofs.YtjkeinpcphkfbaaDoor

/- Function 11 (impl.endedLines): its runs between cut points. Written by a program of this repo (gen). -/
set_option linter.unusedVariables false
set_option linter.unusedSimpArgs false
set_option maxRecDepth 100000
namespace Go.Proofs.YtjkeinpcphkfbaaDoor
open Go Go.Am Go.Proofs
def ext11 : Ext := [(15, S15)]
theorem call11_15 : Callable Tryd.prog 15 := ⟨Tryd.f15, Tryd.func15, by kernel_rfl, by kernel_rfl⟩
theorem ext11Ok : ExtOk Tryd.prog ext11 := ⟨⟨call11_15, con15⟩, trivial⟩
/-! Function 11. -/
noncomputable def b11 : Code := bodyOf Tryd.f11
theorem hb11 : Tryd.f11.body = some b11 := by kernel_rfl
def sig11 : List AT := [AT.v (Ty.str)]
def tys11 : List Ty := [Ty.sl Ty.str, Ty.str]
def P11 (x0 : ByteArray) : Prop := ((P15 x0 (ByteArray.mk #[10])) ∧ ((InR IntKind.i64 ((↑(List.length (g15_0 x0 (ByteArray.mk #[10]))) : Int) - 1)) ∧ ((0 ≤ (↑(List.length (g15_0 x0 (ByteArray.mk #[10]))) : Int) - 1) ∧ ((↑(List.length (g15_0 x0 (ByteArray.mk #[10]))) : Int) - 1 ≤ (↑(List.length (g15_0 x0 (ByteArray.mk #[10])) - 0) : Int)) ∧ ((0 ≤ (↑(List.length (g15_0 x0 (ByteArray.mk #[10]))) : Int) - 1) ∧ ((↑(List.length (g15_0 x0 (ByteArray.mk #[10]))) : Int) - 1 < (↑(List.length (g15_0 x0 (ByteArray.mk #[10]))) : Int)) ∧ True))))
def g11_0 (x0 : ByteArray) : List ByteArray := List.drop 0 (List.take (0 + Int.toNat ((↑(List.length (g15_0 x0 (ByteArray.mk #[10]))) : Int) - 1)) (g15_0 x0 (ByteArray.mk #[10])))
def g11_1 (x0 : ByteArray) : ByteArray := List.getD (g15_0 x0 (ByteArray.mk #[10])) (Int.toNat ((↑(List.length (g15_0 x0 (ByteArray.mk #[10]))) : Int) - 1)) ByteArray.empty
theorem p11_0 (x0 : ByteArray) : runF tab ext11 false 18 [] 2000 [] tys11 Tryd.f11.results [] [.code b11] (entE 0 0 sig11 (x0, ())) (entL sig11 (x0, ())) = some ([Dyn.mk (Ty.sl Ty.str) (List.drop 0 (List.take (0 + Int.toNat ((↑(List.length (g15_0 x0 (ByteArray.mk #[10]))) : Int) - 1)) (g15_0 x0 (ByteArray.mk #[10])))), Dyn.mk Ty.str (List.getD (g15_0 x0 (ByteArray.mk #[10])) (Int.toNat ((↑(List.length (g15_0 x0 (ByteArray.mk #[10]))) : Int) - 1)) ByteArray.empty)], [], [P15 x0 (ByteArray.mk #[10]), InR IntKind.i64 ((↑(List.length (g15_0 x0 (ByteArray.mk #[10]))) : Int) - 1), 0 ≤ (↑(List.length (g15_0 x0 (ByteArray.mk #[10]))) : Int) - 1, (↑(List.length (g15_0 x0 (ByteArray.mk #[10]))) : Int) - 1 ≤ (↑(List.length (g15_0 x0 (ByteArray.mk #[10])) - 0) : Int), 0 ≤ (↑(List.length (g15_0 x0 (ByteArray.mk #[10]))) : Int) - 1, (↑(List.length (g15_0 x0 (ByteArray.mk #[10]))) : Int) - 1 < (↑(List.length (g15_0 x0 (ByteArray.mk #[10]))) : Int)]) := by kernel_rfl
theorem at11 (x0 : ByteArray) (h : P11 x0) (w0 : World) (O : List Nat) (q : Nat → Value) : AtV Tryd.prog 11 (PostR [⟨Ty.sl Ty.str, g11_0 x0⟩, ⟨Ty.str, g11_1 x0⟩] [] [] q w0 O) 18 w0 O q [] [.code b11] (entE 0 0 sig11 (x0, ())) (entL sig11 (x0, ())) := by
  unfold P11 at h
  unfold g11_0 g11_1
  obtain ⟨s0, h⟩ := h
  obtain ⟨s1, h⟩ := h
  obtain ⟨s2, s3, h⟩ := h
  obtain ⟨s4, s5, h⟩ := h
  exact AtV.fin Tryd.func11 tabOk ext11Ok mixed (p11_0 x0) ⟨s0, s1, s2, s3, s4, s5, trivial⟩

def S11 : Am.Spec := { sig := sig11, pre := fun ⟨x0, _⟩ => P11 x0, res := fun ⟨x0, _⟩ => [⟨Ty.sl Ty.str, g11_0 x0⟩, ⟨Ty.str, g11_1 x0⟩] }
theorem con11 : Contract Tryd.prog 11 S11 := contract_of Tryd.func11 hb11 (Nat.le_of_ble_eq_true (by kernel_rfl)) (fun ⟨x0, _⟩ h _ w0 O q => at11 x0 h w0 O q)


end Go.Proofs.YtjkeinpcphkfbaaDoor

/- Function 22 (impl.isReportLine$1): its runs between cut points. Written by a program of this repo (gen). -/
set_option linter.unusedVariables false
set_option linter.unusedSimpArgs false
set_option maxRecDepth 100000
namespace Go.Proofs.YtjkeinpcphkfbaaDoor
open Go Go.Am Go.Proofs
def ext22 : Ext := []
theorem ext22Ok : ExtOk Tryd.prog ext22 := trivial
/-! Function 22. -/
noncomputable def b22 : Code := bodyOf Tryd.f22
theorem hb22 : Tryd.f22.body = some b22 := by kernel_rfl
def sig22 : List AT := [AT.v (Ty.int IntKind.u8)]
def tys22 : List Ty := [Ty.bool]
def P22 (x0 : Int) : Prop := True
def g22_0 (x0 : Int) : Bool := (if (Decidable.decide (x0 < 32)) = true then Bool.true else Decidable.decide (x0 > 126))
theorem p22_0 (x0 : Int) : runF tab ext22 false 9 [] 2000 [] tys22 Tryd.f22.results [true] [.code b22] (entE 0 0 sig22 (x0, ())) (entL sig22 (x0, ())) = some ([Dyn.mk Ty.bool Bool.true], [], [Decidable.decide (x0 < 32) = Bool.true]) := by kernel_rfl
theorem p22_1 (x0 : Int) : runF tab ext22 false 9 [] 2000 [] tys22 Tryd.f22.results [false] [.code b22] (entE 0 0 sig22 (x0, ())) (entL sig22 (x0, ())) = some ([Dyn.mk Ty.bool (Decidable.decide (x0 > 126))], [], [Decidable.decide (x0 < 32) = Bool.false]) := by kernel_rfl
theorem at22 (x0 : Int) (h : P22 x0) (w0 : World) (O : List Nat) (q : Nat → Value) : AtV Tryd.prog 22 (PostR [⟨Ty.bool, g22_0 x0⟩] [] [] q w0 O) 9 w0 O q [] [.code b22] (entE 0 0 sig22 (x0, ())) (entL sig22 (x0, ())) := by
  unfold P22 at h
  unfold g22_0
  by_cases b0 : (Decidable.decide (x0 < 32)) = true
  · try simp only [if_pos b0] at h ⊢
    exact AtV.fin Tryd.func22 tabOk ext22Ok mixed (p22_0 x0) ⟨b0, trivial⟩
  · try simp only [if_neg b0] at h ⊢
    replace b0 := Bool.eq_false_iff.2 b0
    exact AtV.fin Tryd.func22 tabOk ext22Ok mixed (p22_1 x0) ⟨b0, trivial⟩

def S22 : Am.Spec := { sig := sig22, pre := fun ⟨x0, _⟩ => P22 x0, res := fun ⟨x0, _⟩ => [⟨Ty.bool, g22_0 x0⟩] }
theorem con22 : Contract Tryd.prog 22 S22 := contract_of Tryd.func22 hb22 (Nat.le_of_ble_eq_true (by kernel_rfl)) (fun ⟨x0, _⟩ h _ w0 O q => at22 x0 h w0 O q)


end Go.Proofs.YtjkeinpcphkfbaaDoor

/- Function 26 (slices.IndexFunc[[]byte,byte]): its runs between cut points. Written by a program of this repo (gen). -/
set_option linter.unusedVariables false
set_option linter.unusedSimpArgs false
set_option maxRecDepth 100000
namespace Go.Proofs.YtjkeinpcphkfbaaDoor
open Go Go.Am Go.Proofs
def ext26c22 : Ext := [(22, S22)]
theorem call26c22_22 : Callable Tryd.prog 22 := ⟨Tryd.f22, Tryd.func22, by kernel_rfl, by kernel_rfl⟩
theorem ext26c22Ok : ExtOk Tryd.prog ext26c22 := ⟨⟨call26c22_22, con22⟩, trivial⟩
/-! Function 26c22. -/
noncomputable def b26c22 : Code := bodyOf Tryd.f26
theorem hb26c22 : Tryd.f26.body = some b26c22 := by kernel_rfl
def sig26c22 : List AT := [AT.v (Ty.sl (Ty.int IntKind.u8)), AT.fn 22 []]
def tys26c22 : List Ty := [Ty.int IntKind.i64]
def E26c22_2 (v8 : Int) (x0 : List Int) : Env := [(0, PV.a (Atom.sl (Ty.int IntKind.u8) x0)), (1, PV.fn 22 []), (7, PV.a (Atom.val (Value.int IntKind.i64 (↑(List.length x0) : Int)))), (8, PV.a (Atom.val (Value.int IntKind.i64 v8)))]
def L26c22_2 (v8 : Int) (x0 : List Int) : Heap := []
mutual
def R26c22 : Nat → List Int → List Dyn → Prop
  | 0, _, _ => False
  | n + 1, x0, ds => (R26c22_2 n (0) (x0) ds)
def R26c22_2 : Nat → Int → List Int → List Dyn → Prop
  | 0, _, _, _ => False
  | n + 1, v8, x0, ds => (if (Decidable.decide (v8 < (↑(List.length x0) : Int))) = true then ((0 ≤ v8) ∧ (v8 < (↑(List.length x0) : Int)) ∧ (if (g22_0 (List.getD x0 (Int.toNat v8) 0)) = true then (ds = [Dyn.mk (Ty.int IntKind.i64) v8]) else ((InR IntKind.i64 (v8 + 1)) ∧ (R26c22_2 n (v8 + 1) (x0) ds)))) else (ds = [Dyn.mk (Ty.int IntKind.i64) (-1)]))
end
theorem p26c22_0 (x0 : List Int) : Am.runN tab ext26c22 false 19 [] 2000 [] [] [0, 1, 7, 8] [] [] [.code b26c22] (entE 0 0 sig26c22 (x0, (), ())) (entL sig26c22 (x0, (), ())) = some (cutAt b26c22 2, E26c22_2 (0) (x0), L26c22_2 (0) (x0), []) := by kernel_rfl
theorem p26c22_1 (v8 : Int) (x0 : List Int) : runF tab ext26c22 false 19 [] 2000 [] tys26c22 Tryd.f26.results [true, true] (cutAt b26c22 2) (E26c22_2 v8 x0) (L26c22_2 v8 x0) = some ([Dyn.mk (Ty.int IntKind.i64) v8], [], [Decidable.decide (v8 < (↑(List.length x0) : Int)) = Bool.true, 0 ≤ v8, v8 < (↑(List.length x0) : Int), True, g22_0 (List.getD x0 (Int.toNat v8) 0) = Bool.true]) := by kernel_rfl
theorem p26c22_2 (v8 : Int) (x0 : List Int) : Am.runN tab ext26c22 false 19 [] 2000 [] [] [0, 1, 7, 8] [] [true, false] (cutAt b26c22 2) (E26c22_2 v8 x0) (L26c22_2 v8 x0) = some (cutAt b26c22 2, E26c22_2 (v8 + 1) (x0), L26c22_2 (v8 + 1) (x0), [Decidable.decide (v8 < (↑(List.length x0) : Int)) = Bool.true, 0 ≤ v8, v8 < (↑(List.length x0) : Int), True, g22_0 (List.getD x0 (Int.toNat v8) 0) = Bool.false, InR IntKind.i64 (v8 + 1)]) := by kernel_rfl
theorem p26c22_3 (v8 : Int) (x0 : List Int) : runF tab ext26c22 false 19 [] 2000 [] tys26c22 Tryd.f26.results [false] (cutAt b26c22 2) (E26c22_2 v8 x0) (L26c22_2 v8 x0) = some ([Dyn.mk (Ty.int IntKind.i64) (-1)], [], [Decidable.decide (v8 < (↑(List.length x0) : Int)) = Bool.false]) := by kernel_rfl
theorem snd26c22 : ∀ n, (∀ (x0 : List Int) ds, R26c22 n x0 ds → ∀ w0 O q, AtV Tryd.prog 26 (PostR ds [] [] q w0 O) 19 w0 O q [] [.code b26c22] (entE 0 0 sig26c22 (x0, (), ())) (entL sig26c22 (x0, (), ()))) ∧ (∀ (v8 : Int) (x0 : List Int) ds, R26c22_2 n v8 x0 ds → ∀ w0 O q, AtV Tryd.prog 26 (PostR ds [] [] q w0 O) 19 w0 O q [] (cutAt b26c22 2) (E26c22_2 v8 x0) (L26c22_2 v8 x0)) := by
  intro n
  induction n with
  | zero => exact ⟨fun _ _ h => by simp only [R26c22] at h, fun _ _ _ h => by simp only [R26c22_2] at h⟩
  | succ n ih =>
  obtain ⟨ih, ih2⟩ := ih
  refine ⟨?_, ?_⟩
  · intro x0 ds h w0 O q
    rw [R26c22] at h
    exact AtV.runN tabOk ext26c22Ok mixed (p26c22_0 x0) trivial (ih2 _ _ _ h w0 O q)

  · intro v8 x0 ds h w0 O q
    rw [R26c22_2] at h
    by_cases b0 : (Decidable.decide (v8 < (↑(List.length x0) : Int))) = true
    · rw [if_pos b0] at h
      obtain ⟨s0, s1, h⟩ := h
      by_cases b1 : (g22_0 (List.getD x0 (Int.toNat v8) 0)) = true
      · rw [if_pos b1] at h
        subst h
        exact AtV.fin Tryd.func26 tabOk ext26c22Ok mixed (p26c22_1 v8 x0) ⟨b0, s0, s1, trivial, b1, trivial⟩
      · rw [if_neg b1] at h
        replace b1 := Bool.eq_false_iff.2 b1
        obtain ⟨s2, h⟩ := h
        exact AtV.runN tabOk ext26c22Ok mixed (p26c22_2 v8 x0) ⟨b0, s0, s1, trivial, b1, s2, trivial⟩ (ih2 _ _ _ h w0 O q)
    · rw [if_neg b0] at h
      replace b0 := Bool.eq_false_iff.2 b0
      subst h
      exact AtV.fin Tryd.func26 tabOk ext26c22Ok mixed (p26c22_3 v8 x0) ⟨b0, trivial⟩



def g26c22_0 (x0 : List (Int)) : Int := idx (x0.findIdx? g22_0)
def P26c22 (x0 : List (Int)) : Prop := True

theorem top26c22 (x0 : List (Int)) (hm : x0.length ≤ maxLen) : R26c22 (x0.length + 1 + 1) x0 [⟨.int .i64, g26c22_0 x0⟩] := by
  rw [R26c22]
  have key := loop_find x0 (0 : Int) g22_0 [(⟨.int .i64, -1⟩ : Dyn)] (fun k => [⟨.int .i64, k⟩]) (fun n i ds => R26c22_2 n i x0 ds) (fun n => ?_) (fun n i hi hok ds hr => ?_) (fun n i hi hok => ?_)
  · unfold g26c22_0
    cases h : x0.findIdx? g22_0 <;> rw [h] at key <;> exact key
  · rw [R26c22_2, if_neg (by simp)]
  · rw [R26c22_2, if_pos (by simp; omega)]
    simp only [Int.toNat_natCast]
    refine ⟨by omega, by omega, ?_⟩
    rw [if_neg (by rw [hok]; simp)]
    exact ⟨inR_up hm hi, hr⟩
  · rw [R26c22_2, if_pos (by simp; omega)]
    simp only [Int.toNat_natCast]
    refine ⟨by omega, by omega, ?_⟩
    rw [if_pos hok] <;> trivial

def S26c22 : Am.Spec := { sig := sig26c22, pre := fun ⟨x0, _⟩ => P26c22 x0, res := fun ⟨x0, _⟩ => [⟨Ty.int .i64, g26c22_0 x0⟩] }
theorem con26c22 : Contract Tryd.prog 26 S26c22 := contract_of Tryd.func26 hb26c22 (Nat.le_of_ble_eq_true (by kernel_rfl)) (fun ⟨x0, _⟩ h hwf w0 O q =>
  (snd26c22 _).1 x0 _ (top26c22 x0 hwf.1.1) w0 O q)

theorem any26c22 (x0 : List (Int)) : decide (g26c22_0 x0 ≥ 0) = x0.any g22_0 := by
  have := findIdx_any g22_0 x0
  unfold g26c22_0
  cases h : x0.any g22_0 with
  | true => rw [h] at this; simpa using this
  | false => rw [h] at this; simpa using this

end Go.Proofs.YtjkeinpcphkfbaaDoor

/- Function 21 (slices.ContainsFunc[[]byte,byte]): its runs between cut points. Written by a program of this repo (gen). -/
set_option linter.unusedVariables false
set_option linter.unusedSimpArgs false
set_option maxRecDepth 100000
namespace Go.Proofs.YtjkeinpcphkfbaaDoor
open Go Go.Am Go.Proofs
def ext21c22 : Ext := [(26, S26c22), (22, S22)]
theorem call21c22_26 : Callable Tryd.prog 26 := ⟨Tryd.f26, Tryd.func26, by kernel_rfl, by kernel_rfl⟩
theorem call21c22_22 : Callable Tryd.prog 22 := ⟨Tryd.f22, Tryd.func22, by kernel_rfl, by kernel_rfl⟩
theorem ext21c22Ok : ExtOk Tryd.prog ext21c22 := ⟨⟨call21c22_26, con26c22⟩, ⟨call21c22_22, con22⟩, trivial⟩
/-! Function 21c22. -/
noncomputable def b21c22 : Code := bodyOf Tryd.f21
theorem hb21c22 : Tryd.f21.body = some b21c22 := by kernel_rfl
def sig21c22 : List AT := [AT.v (Ty.sl (Ty.int IntKind.u8)), AT.fn 22 []]
def tys21c22 : List Ty := [Ty.bool]
def P21c22 (x0 : List Int) : Prop := True
def g21c22_0 (x0 : List Int) : Bool := Decidable.decide (g26c22_0 x0 ≥ 0)
theorem p21c22_0 (x0 : List Int) : runF tab ext21c22 false 9 [] 2000 [] tys21c22 Tryd.f21.results [] [.code b21c22] (entE 0 0 sig21c22 (x0, (), ())) (entL sig21c22 (x0, (), ())) = some ([Dyn.mk Ty.bool (Decidable.decide (g26c22_0 x0 ≥ 0))], [], [True]) := by kernel_rfl
theorem at21c22 (x0 : List Int) (h : P21c22 x0) (w0 : World) (O : List Nat) (q : Nat → Value) : AtV Tryd.prog 21 (PostR [⟨Ty.bool, g21c22_0 x0⟩] [] [] q w0 O) 9 w0 O q [] [.code b21c22] (entE 0 0 sig21c22 (x0, (), ())) (entL sig21c22 (x0, (), ())) := by
  unfold P21c22 at h
  unfold g21c22_0
  exact AtV.fin Tryd.func21 tabOk ext21c22Ok mixed (p21c22_0 x0) ⟨trivial, trivial⟩

def S21c22 : Am.Spec := { sig := sig21c22, pre := fun ⟨x0, _⟩ => P21c22 x0, res := fun ⟨x0, _⟩ => [⟨Ty.bool, g21c22_0 x0⟩] }
theorem con21c22 : Contract Tryd.prog 21 S21c22 := contract_of Tryd.func21 hb21c22 (Nat.le_of_ble_eq_true (by kernel_rfl)) (fun ⟨x0, _⟩ h _ w0 O q => at21c22 x0 h w0 O q)


end Go.Proofs.YtjkeinpcphkfbaaDoor

/- Function 18 (impl.isReportLine): its runs between cut points. Written by a program of this repo (gen). -/
set_option linter.unusedVariables false
set_option linter.unusedSimpArgs false
set_option maxRecDepth 100000
namespace Go.Proofs.YtjkeinpcphkfbaaDoor
open Go Go.Am Go.Proofs
def ext18 : Ext := [(21, S21c22)]
theorem call18_21 : Callable Tryd.prog 21 := ⟨Tryd.f21, Tryd.func21, by kernel_rfl, by kernel_rfl⟩
theorem ext18Ok : ExtOk Tryd.prog ext18 := ⟨⟨call18_21, con21c22⟩, trivial⟩
/-! Function 18. -/
noncomputable def b18 : Code := bodyOf Tryd.f18
theorem hb18 : Tryd.f18.body = some b18 := by kernel_rfl
def sig18 : List AT := [AT.v (Ty.str)]
def tys18 : List Ty := [Ty.bool]
def P18 (x0 : ByteArray) : Prop := True
def g18_0 (x0 : ByteArray) : Bool := (if (Decidable.decide ((↑(ByteArray.size x0) : Int) ≤ 100)) = true then !g21c22_0 (bytesOf x0) else Bool.false)
theorem p18_0 (x0 : ByteArray) : runF tab ext18 false 12 [] 2000 [] tys18 Tryd.f18.results [true] [.code b18] (entE 0 0 sig18 (x0, ())) (entL sig18 (x0, ())) = some ([Dyn.mk Ty.bool !g21c22_0 (bytesOf x0)], [], [Decidable.decide ((↑(ByteArray.size x0) : Int) ≤ 100) = Bool.true, True]) := by kernel_rfl
theorem p18_1 (x0 : ByteArray) : runF tab ext18 false 12 [] 2000 [] tys18 Tryd.f18.results [false] [.code b18] (entE 0 0 sig18 (x0, ())) (entL sig18 (x0, ())) = some ([Dyn.mk Ty.bool Bool.false], [], [Decidable.decide ((↑(ByteArray.size x0) : Int) ≤ 100) = Bool.false]) := by kernel_rfl
theorem at18 (x0 : ByteArray) (h : P18 x0) (w0 : World) (O : List Nat) (q : Nat → Value) : AtV Tryd.prog 18 (PostR [⟨Ty.bool, g18_0 x0⟩] [] [] q w0 O) 12 w0 O q [] [.code b18] (entE 0 0 sig18 (x0, ())) (entL sig18 (x0, ())) := by
  unfold P18 at h
  unfold g18_0
  by_cases b0 : (Decidable.decide ((↑(ByteArray.size x0) : Int) ≤ 100)) = true
  · try simp only [if_pos b0] at h ⊢
    exact AtV.fin Tryd.func18 tabOk ext18Ok mixed (p18_0 x0) ⟨b0, trivial, trivial⟩
  · try simp only [if_neg b0] at h ⊢
    replace b0 := Bool.eq_false_iff.2 b0
    exact AtV.fin Tryd.func18 tabOk ext18Ok mixed (p18_1 x0) ⟨b0, trivial⟩

def S18 : Am.Spec := { sig := sig18, pre := fun ⟨x0, _⟩ => P18 x0, res := fun ⟨x0, _⟩ => [⟨Ty.bool, g18_0 x0⟩] }
theorem con18 : Contract Tryd.prog 18 S18 := contract_of Tryd.func18 hb18 (Nat.le_of_ble_eq_true (by kernel_rfl)) (fun ⟨x0, _⟩ h _ w0 O q => at18 x0 h w0 O q)


end Go.Proofs.YtjkeinpcphkfbaaDoor

/- Function 17 (impl.ValidReport$1): its runs between cut points. Written by a program of this repo (gen). -/
set_option linter.unusedVariables false
set_option linter.unusedSimpArgs false
set_option maxRecDepth 100000
namespace Go.Proofs.YtjkeinpcphkfbaaDoor
open Go Go.Am Go.Proofs
def ext17 : Ext := [(18, S18)]
theorem call17_18 : Callable Tryd.prog 18 := ⟨Tryd.f18, Tryd.func18, by kernel_rfl, by kernel_rfl⟩
theorem ext17Ok : ExtOk Tryd.prog ext17 := ⟨⟨call17_18, con18⟩, trivial⟩
/-! Function 17. -/
noncomputable def b17 : Code := bodyOf Tryd.f17
theorem hb17 : Tryd.f17.body = some b17 := by kernel_rfl
def sig17 : List AT := [AT.v (Ty.str)]
def tys17 : List Ty := [Ty.bool]
def P17 (x0 : ByteArray) : Prop := True
def g17_0 (x0 : ByteArray) : Bool := !g18_0 x0
theorem p17_0 (x0 : ByteArray) : runF tab ext17 false 6 [] 2000 [] tys17 Tryd.f17.results [] [.code b17] (entE 0 0 sig17 (x0, ())) (entL sig17 (x0, ())) = some ([Dyn.mk Ty.bool !g18_0 x0], [], [True]) := by kernel_rfl
theorem at17 (x0 : ByteArray) (h : P17 x0) (w0 : World) (O : List Nat) (q : Nat → Value) : AtV Tryd.prog 17 (PostR [⟨Ty.bool, g17_0 x0⟩] [] [] q w0 O) 6 w0 O q [] [.code b17] (entE 0 0 sig17 (x0, ())) (entL sig17 (x0, ())) := by
  unfold P17 at h
  unfold g17_0
  exact AtV.fin Tryd.func17 tabOk ext17Ok mixed (p17_0 x0) ⟨trivial, trivial⟩

def S17 : Am.Spec := { sig := sig17, pre := fun ⟨x0, _⟩ => P17 x0, res := fun ⟨x0, _⟩ => [⟨Ty.bool, g17_0 x0⟩] }
theorem con17 : Contract Tryd.prog 17 S17 := contract_of Tryd.func17 hb17 (Nat.le_of_ble_eq_true (by kernel_rfl)) (fun ⟨x0, _⟩ h _ w0 O q => at17 x0 h w0 O q)


end Go.Proofs.YtjkeinpcphkfbaaDoor

/- Function 20 (slices.IndexFunc[[]string,string]): its runs between cut points. Written by a program of this repo (gen). -/
set_option linter.unusedVariables false
set_option linter.unusedSimpArgs false
set_option maxRecDepth 100000
namespace Go.Proofs.YtjkeinpcphkfbaaDoor
open Go Go.Am Go.Proofs
def ext20c17 : Ext := [(17, S17)]
theorem call20c17_17 : Callable Tryd.prog 17 := ⟨Tryd.f17, Tryd.func17, by kernel_rfl, by kernel_rfl⟩
theorem ext20c17Ok : ExtOk Tryd.prog ext20c17 := ⟨⟨call20c17_17, con17⟩, trivial⟩
/-! Function 20c17. -/
noncomputable def b20c17 : Code := bodyOf Tryd.f20
theorem hb20c17 : Tryd.f20.body = some b20c17 := by kernel_rfl
def sig20c17 : List AT := [AT.v (Ty.sl Ty.str), AT.fn 17 []]
def tys20c17 : List Ty := [Ty.int IntKind.i64]
def E20c17_2 (v8 : Int) (x0 : List ByteArray) : Env := [(0, PV.a (Atom.sl Ty.str x0)), (1, PV.fn 17 []), (7, PV.a (Atom.val (Value.int IntKind.i64 (↑(List.length x0) : Int)))), (8, PV.a (Atom.val (Value.int IntKind.i64 v8)))]
def L20c17_2 (v8 : Int) (x0 : List ByteArray) : Heap := []
mutual
def R20c17 : Nat → List ByteArray → List Dyn → Prop
  | 0, _, _ => False
  | n + 1, x0, ds => (R20c17_2 n (0) (x0) ds)
def R20c17_2 : Nat → Int → List ByteArray → List Dyn → Prop
  | 0, _, _, _ => False
  | n + 1, v8, x0, ds => (if (Decidable.decide (v8 < (↑(List.length x0) : Int))) = true then ((0 ≤ v8) ∧ (v8 < (↑(List.length x0) : Int)) ∧ (if (g17_0 (List.getD x0 (Int.toNat v8) ByteArray.empty)) = true then (ds = [Dyn.mk (Ty.int IntKind.i64) v8]) else ((InR IntKind.i64 (v8 + 1)) ∧ (R20c17_2 n (v8 + 1) (x0) ds)))) else (ds = [Dyn.mk (Ty.int IntKind.i64) (-1)]))
end
theorem p20c17_0 (x0 : List ByteArray) : Am.runN tab ext20c17 false 19 [] 2000 [] [] [0, 1, 7, 8] [] [] [.code b20c17] (entE 0 0 sig20c17 (x0, (), ())) (entL sig20c17 (x0, (), ())) = some (cutAt b20c17 2, E20c17_2 (0) (x0), L20c17_2 (0) (x0), []) := by kernel_rfl
theorem p20c17_1 (v8 : Int) (x0 : List ByteArray) : runF tab ext20c17 false 19 [] 2000 [] tys20c17 Tryd.f20.results [true, true] (cutAt b20c17 2) (E20c17_2 v8 x0) (L20c17_2 v8 x0) = some ([Dyn.mk (Ty.int IntKind.i64) v8], [], [Decidable.decide (v8 < (↑(List.length x0) : Int)) = Bool.true, 0 ≤ v8, v8 < (↑(List.length x0) : Int), True, g17_0 (List.getD x0 (Int.toNat v8) ByteArray.empty) = Bool.true]) := by kernel_rfl
theorem p20c17_2 (v8 : Int) (x0 : List ByteArray) : Am.runN tab ext20c17 false 19 [] 2000 [] [] [0, 1, 7, 8] [] [true, false] (cutAt b20c17 2) (E20c17_2 v8 x0) (L20c17_2 v8 x0) = some (cutAt b20c17 2, E20c17_2 (v8 + 1) (x0), L20c17_2 (v8 + 1) (x0), [Decidable.decide (v8 < (↑(List.length x0) : Int)) = Bool.true, 0 ≤ v8, v8 < (↑(List.length x0) : Int), True, g17_0 (List.getD x0 (Int.toNat v8) ByteArray.empty) = Bool.false, InR IntKind.i64 (v8 + 1)]) := by kernel_rfl
theorem p20c17_3 (v8 : Int) (x0 : List ByteArray) : runF tab ext20c17 false 19 [] 2000 [] tys20c17 Tryd.f20.results [false] (cutAt b20c17 2) (E20c17_2 v8 x0) (L20c17_2 v8 x0) = some ([Dyn.mk (Ty.int IntKind.i64) (-1)], [], [Decidable.decide (v8 < (↑(List.length x0) : Int)) = Bool.false]) := by kernel_rfl
theorem snd20c17 : ∀ n, (∀ (x0 : List ByteArray) ds, R20c17 n x0 ds → ∀ w0 O q, AtV Tryd.prog 20 (PostR ds [] [] q w0 O) 19 w0 O q [] [.code b20c17] (entE 0 0 sig20c17 (x0, (), ())) (entL sig20c17 (x0, (), ()))) ∧ (∀ (v8 : Int) (x0 : List ByteArray) ds, R20c17_2 n v8 x0 ds → ∀ w0 O q, AtV Tryd.prog 20 (PostR ds [] [] q w0 O) 19 w0 O q [] (cutAt b20c17 2) (E20c17_2 v8 x0) (L20c17_2 v8 x0)) := by
  intro n
  induction n with
  | zero => exact ⟨fun _ _ h => by simp only [R20c17] at h, fun _ _ _ h => by simp only [R20c17_2] at h⟩
  | succ n ih =>
  obtain ⟨ih, ih2⟩ := ih
  refine ⟨?_, ?_⟩
  · intro x0 ds h w0 O q
    rw [R20c17] at h
    exact AtV.runN tabOk ext20c17Ok mixed (p20c17_0 x0) trivial (ih2 _ _ _ h w0 O q)

  · intro v8 x0 ds h w0 O q
    rw [R20c17_2] at h
    by_cases b0 : (Decidable.decide (v8 < (↑(List.length x0) : Int))) = true
    · rw [if_pos b0] at h
      obtain ⟨s0, s1, h⟩ := h
      by_cases b1 : (g17_0 (List.getD x0 (Int.toNat v8) ByteArray.empty)) = true
      · rw [if_pos b1] at h
        subst h
        exact AtV.fin Tryd.func20 tabOk ext20c17Ok mixed (p20c17_1 v8 x0) ⟨b0, s0, s1, trivial, b1, trivial⟩
      · rw [if_neg b1] at h
        replace b1 := Bool.eq_false_iff.2 b1
        obtain ⟨s2, h⟩ := h
        exact AtV.runN tabOk ext20c17Ok mixed (p20c17_2 v8 x0) ⟨b0, s0, s1, trivial, b1, s2, trivial⟩ (ih2 _ _ _ h w0 O q)
    · rw [if_neg b0] at h
      replace b0 := Bool.eq_false_iff.2 b0
      subst h
      exact AtV.fin Tryd.func20 tabOk ext20c17Ok mixed (p20c17_3 v8 x0) ⟨b0, trivial⟩



def g20c17_0 (x0 : List (ByteArray)) : Int := idx (x0.findIdx? g17_0)
def P20c17 (x0 : List (ByteArray)) : Prop := True

theorem top20c17 (x0 : List (ByteArray)) (hm : x0.length ≤ maxLen) : R20c17 (x0.length + 1 + 1) x0 [⟨.int .i64, g20c17_0 x0⟩] := by
  rw [R20c17]
  have key := loop_find x0 ByteArray.empty g17_0 [(⟨.int .i64, -1⟩ : Dyn)] (fun k => [⟨.int .i64, k⟩]) (fun n i ds => R20c17_2 n i x0 ds) (fun n => ?_) (fun n i hi hok ds hr => ?_) (fun n i hi hok => ?_)
  · unfold g20c17_0
    cases h : x0.findIdx? g17_0 <;> rw [h] at key <;> exact key
  · rw [R20c17_2, if_neg (by simp)]
  · rw [R20c17_2, if_pos (by simp; omega)]
    simp only [Int.toNat_natCast]
    refine ⟨by omega, by omega, ?_⟩
    rw [if_neg (by rw [hok]; simp)]
    exact ⟨inR_up hm hi, hr⟩
  · rw [R20c17_2, if_pos (by simp; omega)]
    simp only [Int.toNat_natCast]
    refine ⟨by omega, by omega, ?_⟩
    rw [if_pos hok] <;> trivial

def S20c17 : Am.Spec := { sig := sig20c17, pre := fun ⟨x0, _⟩ => P20c17 x0, res := fun ⟨x0, _⟩ => [⟨Ty.int .i64, g20c17_0 x0⟩] }
theorem con20c17 : Contract Tryd.prog 20 S20c17 := contract_of Tryd.func20 hb20c17 (Nat.le_of_ble_eq_true (by kernel_rfl)) (fun ⟨x0, _⟩ h hwf w0 O q =>
  (snd20c17 _).1 x0 _ (top20c17 x0 hwf.1.1) w0 O q)

theorem any20c17 (x0 : List (ByteArray)) : decide (g20c17_0 x0 ≥ 0) = x0.any g17_0 := by
  have := findIdx_any g17_0 x0
  unfold g20c17_0
  cases h : x0.any g17_0 with
  | true => rw [h] at this; simpa using this
  | false => rw [h] at this; simpa using this

end Go.Proofs.YtjkeinpcphkfbaaDoor

/- Function 16 (slices.ContainsFunc[[]string,string]): its runs between cut points. Written by a program of this repo (gen). -/
set_option linter.unusedVariables false
set_option linter.unusedSimpArgs false
set_option maxRecDepth 100000
namespace Go.Proofs.YtjkeinpcphkfbaaDoor
open Go Go.Am Go.Proofs
def ext16c17 : Ext := [(20, S20c17), (17, S17)]
theorem call16c17_20 : Callable Tryd.prog 20 := ⟨Tryd.f20, Tryd.func20, by kernel_rfl, by kernel_rfl⟩
theorem call16c17_17 : Callable Tryd.prog 17 := ⟨Tryd.f17, Tryd.func17, by kernel_rfl, by kernel_rfl⟩
theorem ext16c17Ok : ExtOk Tryd.prog ext16c17 := ⟨⟨call16c17_20, con20c17⟩, ⟨call16c17_17, con17⟩, trivial⟩
/-! Function 16c17. -/
noncomputable def b16c17 : Code := bodyOf Tryd.f16
theorem hb16c17 : Tryd.f16.body = some b16c17 := by kernel_rfl
def sig16c17 : List AT := [AT.v (Ty.sl Ty.str), AT.fn 17 []]
def tys16c17 : List Ty := [Ty.bool]
def P16c17 (x0 : List ByteArray) : Prop := True
def g16c17_0 (x0 : List ByteArray) : Bool := Decidable.decide (g20c17_0 x0 ≥ 0)
theorem p16c17_0 (x0 : List ByteArray) : runF tab ext16c17 false 9 [] 2000 [] tys16c17 Tryd.f16.results [] [.code b16c17] (entE 0 0 sig16c17 (x0, (), ())) (entL sig16c17 (x0, (), ())) = some ([Dyn.mk Ty.bool (Decidable.decide (g20c17_0 x0 ≥ 0))], [], [True]) := by kernel_rfl
theorem at16c17 (x0 : List ByteArray) (h : P16c17 x0) (w0 : World) (O : List Nat) (q : Nat → Value) : AtV Tryd.prog 16 (PostR [⟨Ty.bool, g16c17_0 x0⟩] [] [] q w0 O) 9 w0 O q [] [.code b16c17] (entE 0 0 sig16c17 (x0, (), ())) (entL sig16c17 (x0, (), ())) := by
  unfold P16c17 at h
  unfold g16c17_0
  exact AtV.fin Tryd.func16 tabOk ext16c17Ok mixed (p16c17_0 x0) ⟨trivial, trivial⟩

def S16c17 : Am.Spec := { sig := sig16c17, pre := fun ⟨x0, _⟩ => P16c17 x0, res := fun ⟨x0, _⟩ => [⟨Ty.bool, g16c17_0 x0⟩] }
theorem con16c17 : Contract Tryd.prog 16 S16c17 := contract_of Tryd.func16 hb16c17 (Nat.le_of_ble_eq_true (by kernel_rfl)) (fun ⟨x0, _⟩ h _ w0 O q => at16c17 x0 h w0 O q)


end Go.Proofs.YtjkeinpcphkfbaaDoor

/- Function 12 (impl.ValidReport): its runs between cut points. Written by a program of this repo (gen). -/
set_option linter.unusedVariables false
set_option linter.unusedSimpArgs false
set_option maxRecDepth 100000
namespace Go.Proofs.YtjkeinpcphkfbaaDoor
open Go Go.Am Go.Proofs
def ext12 : Ext := [(16, S16c17)]
theorem call12_16 : Callable Tryd.prog 16 := ⟨Tryd.f16, Tryd.func16, by kernel_rfl, by kernel_rfl⟩
theorem ext12Ok : ExtOk Tryd.prog ext12 := ⟨⟨call12_16, con16c17⟩, trivial⟩
/-! Function 12. -/
noncomputable def b12 : Code := bodyOf Tryd.f12
theorem hb12 : Tryd.f12.body = some b12 := by kernel_rfl
def sig12 : List AT := [AT.v (Ty.sl Ty.str)]
def tys12 : List Ty := [Ty.bool]
def P12 (x0 : List ByteArray) : Prop := True
def g12_0 (x0 : List ByteArray) : Bool := (if (Decidable.decide ((↑(List.length x0) : Int) ≤ 200)) = true then !g16c17_0 x0 else Bool.false)
theorem p12_0 (x0 : List ByteArray) : runF tab ext12 false 11 [] 2000 [] tys12 Tryd.f12.results [true] [.code b12] (entE 0 0 sig12 (x0, ())) (entL sig12 (x0, ())) = some ([Dyn.mk Ty.bool !g16c17_0 x0], [], [Decidable.decide ((↑(List.length x0) : Int) ≤ 200) = Bool.true, True]) := by kernel_rfl
theorem p12_1 (x0 : List ByteArray) : runF tab ext12 false 11 [] 2000 [] tys12 Tryd.f12.results [false] [.code b12] (entE 0 0 sig12 (x0, ())) (entL sig12 (x0, ())) = some ([Dyn.mk Ty.bool Bool.false], [], [Decidable.decide ((↑(List.length x0) : Int) ≤ 200) = Bool.false]) := by kernel_rfl
theorem at12 (x0 : List ByteArray) (h : P12 x0) (w0 : World) (O : List Nat) (q : Nat → Value) : AtV Tryd.prog 12 (PostR [⟨Ty.bool, g12_0 x0⟩] [] [] q w0 O) 11 w0 O q [] [.code b12] (entE 0 0 sig12 (x0, ())) (entL sig12 (x0, ())) := by
  unfold P12 at h
  unfold g12_0
  by_cases b0 : (Decidable.decide ((↑(List.length x0) : Int) ≤ 200)) = true
  · try simp only [if_pos b0] at h ⊢
    exact AtV.fin Tryd.func12 tabOk ext12Ok mixed (p12_0 x0) ⟨b0, trivial, trivial⟩
  · try simp only [if_neg b0] at h ⊢
    replace b0 := Bool.eq_false_iff.2 b0
    exact AtV.fin Tryd.func12 tabOk ext12Ok mixed (p12_1 x0) ⟨b0, trivial⟩

def S12 : Am.Spec := { sig := sig12, pre := fun ⟨x0, _⟩ => P12 x0, res := fun ⟨x0, _⟩ => [⟨Ty.bool, g12_0 x0⟩] }
theorem con12 : Contract Tryd.prog 12 S12 := contract_of Tryd.func12 hb12 (Nat.le_of_ble_eq_true (by kernel_rfl)) (fun ⟨x0, _⟩ h _ w0 O q => at12 x0 h w0 O q)


end Go.Proofs.YtjkeinpcphkfbaaDoor

/- Function 5 (impl.ReadReport): its runs between cut points. Written by a program of this repo (gen). -/
set_option linter.unusedVariables false
set_option linter.unusedSimpArgs false
set_option maxRecDepth 100000
namespace Go.Proofs.YtjkeinpcphkfbaaDoor
open Go Go.Am Go.Proofs
def ext5 : Ext := [(11, S11), (12, S12)]
theorem call5_11 : Callable Tryd.prog 11 := ⟨Tryd.f11, Tryd.func11, by kernel_rfl, by kernel_rfl⟩
theorem call5_12 : Callable Tryd.prog 12 := ⟨Tryd.f12, Tryd.func12, by kernel_rfl, by kernel_rfl⟩
theorem ext5Ok : ExtOk Tryd.prog ext5 := ⟨⟨call5_11, con11⟩, ⟨call5_12, con12⟩, trivial⟩
/-! Function 5. -/
noncomputable def b5 : Code := bodyOf Tryd.f5
theorem hb5 : Tryd.f5.body = some b5 := by kernel_rfl
def sig5 : List AT := [AT.v (Ty.str)]
def tys5 : List Ty := [Ty.sl Ty.str, Ty.bool]
def P5 (x0 : ByteArray) : Prop := ((P11 x0) ∧ True)
def g5_0 (x0 : ByteArray) : List ByteArray := (if (!ByteArray.toList (g11_1 x0) == ByteArray.toList (ByteArray.mk #[])) = true then [] else (if (!g12_0 (g11_0 x0)) = true then [] else g11_0 x0))
def g5_1 (x0 : ByteArray) : Bool := (if (!ByteArray.toList (g11_1 x0) == ByteArray.toList (ByteArray.mk #[])) = true then Bool.false else (if (!g12_0 (g11_0 x0)) = true then Bool.false else Bool.true))
theorem p5_0 (x0 : ByteArray) : runF tab ext5 false 19 [] 2000 [] tys5 Tryd.f5.results [true, true] [.code b5] (entE 0 0 sig5 (x0, ())) (entL sig5 (x0, ())) = some ([Dyn.mk (Ty.sl Ty.str) [], Dyn.mk Ty.bool Bool.false], [], [P11 x0, (!ByteArray.toList (g11_1 x0) == ByteArray.toList (ByteArray.mk #[])) = Bool.true, Bool.true = Bool.true]) := by kernel_rfl
theorem p5_1 (x0 : ByteArray) : runF tab ext5 false 19 [] 2000 [] tys5 Tryd.f5.results [false, true] [.code b5] (entE 0 0 sig5 (x0, ())) (entL sig5 (x0, ())) = some ([Dyn.mk (Ty.sl Ty.str) [], Dyn.mk Ty.bool Bool.false], [], [P11 x0, (!ByteArray.toList (g11_1 x0) == ByteArray.toList (ByteArray.mk #[])) = Bool.false, True, (!g12_0 (g11_0 x0)) = Bool.true]) := by kernel_rfl
theorem p5_2 (x0 : ByteArray) : runF tab ext5 false 19 [] 2000 [] tys5 Tryd.f5.results [false, false] [.code b5] (entE 0 0 sig5 (x0, ())) (entL sig5 (x0, ())) = some ([Dyn.mk (Ty.sl Ty.str) (g11_0 x0), Dyn.mk Ty.bool Bool.true], [], [P11 x0, (!ByteArray.toList (g11_1 x0) == ByteArray.toList (ByteArray.mk #[])) = Bool.false, True, (!g12_0 (g11_0 x0)) = Bool.false]) := by kernel_rfl
theorem at5 (x0 : ByteArray) (h : P5 x0) (w0 : World) (O : List Nat) (q : Nat → Value) : AtV Tryd.prog 5 (PostR [⟨Ty.sl Ty.str, g5_0 x0⟩, ⟨Ty.bool, g5_1 x0⟩] [] [] q w0 O) 19 w0 O q [] [.code b5] (entE 0 0 sig5 (x0, ())) (entL sig5 (x0, ())) := by
  unfold P5 at h
  unfold g5_0 g5_1
  obtain ⟨s0, h⟩ := h
  by_cases b0 : (!ByteArray.toList (g11_1 x0) == ByteArray.toList (ByteArray.mk #[])) = true
  · try simp only [if_pos b0] at h ⊢
    exact AtV.fin Tryd.func5 tabOk ext5Ok mixed (p5_0 x0) ⟨s0, b0, rfl, trivial⟩
  · try simp only [if_neg b0] at h ⊢
    replace b0 := Bool.eq_false_iff.2 b0
    by_cases b1 : (!g12_0 (g11_0 x0)) = true
    · try simp only [if_pos b1] at h ⊢
      exact AtV.fin Tryd.func5 tabOk ext5Ok mixed (p5_1 x0) ⟨s0, b0, trivial, b1, trivial⟩
    · try simp only [if_neg b1] at h ⊢
      replace b1 := Bool.eq_false_iff.2 b1
      exact AtV.fin Tryd.func5 tabOk ext5Ok mixed (p5_2 x0) ⟨s0, b0, trivial, b1, trivial⟩

def S5 : Am.Spec := { sig := sig5, pre := fun ⟨x0, _⟩ => P5 x0, res := fun ⟨x0, _⟩ => [⟨Ty.sl Ty.str, g5_0 x0⟩, ⟨Ty.bool, g5_1 x0⟩] }
theorem con5 : Contract Tryd.prog 5 S5 := contract_of Tryd.func5 hb5 (Nat.le_of_ble_eq_true (by kernel_rfl)) (fun ⟨x0, _⟩ h _ w0 O q => at5 x0 h w0 O q)


end Go.Proofs.YtjkeinpcphkfbaaDoor

/- Function 6 (laws.eqStringS): its runs between cut points. Written by a program of this repo (gen). -/
set_option linter.unusedVariables false
set_option linter.unusedSimpArgs false
set_option maxRecDepth 100000
namespace Go.Proofs.YtjkeinpcphkfbaaDoor
open Go Go.Am Go.Proofs
def ext6 : Ext := []
theorem ext6Ok : ExtOk Tryd.prog ext6 := trivial
/-! Function 6. -/
noncomputable def b6 : Code := bodyOf Tryd.f6
theorem hb6 : Tryd.f6.body = some b6 := by kernel_rfl
def sig6 : List AT := [AT.v (Ty.sl Ty.str), AT.v (Ty.sl Ty.str)]
def tys6 : List Ty := [Ty.bool]
def E6_4 (v5 : Int) (x0 : List ByteArray) (x1 : List ByteArray) : Env := [(0, PV.a (Atom.sl Ty.str x0)), (1, PV.a (Atom.sl Ty.str x1)), (5, PV.a (Atom.val (Value.int IntKind.i64 v5)))]
def L6_4 (v5 : Int) (x0 : List ByteArray) (x1 : List ByteArray) : Heap := []
mutual
def R6 : Nat → List ByteArray → List ByteArray → List Dyn → Prop
  | 0, _, _, _ => False
  | n + 1, x0, x1, ds => (if ((↑(List.length x0) : Int) != (↑(List.length x1) : Int)) = true then (ds = [Dyn.mk Ty.bool Bool.false]) else (R6_4 n (0) (x0) (x1) ds))
def R6_4 : Nat → Int → List ByteArray → List ByteArray → List Dyn → Prop
  | 0, _, _, _, _ => False
  | n + 1, v5, x0, x1, ds => (if (Decidable.decide (v5 < (↑(List.length x0) : Int))) = true then ((0 ≤ v5) ∧ (v5 < (↑(List.length x0) : Int)) ∧ ((0 ≤ v5) ∧ (v5 < (↑(List.length x1) : Int)) ∧ (if (!ByteArray.toList (List.getD x0 (Int.toNat v5) ByteArray.empty) == ByteArray.toList (List.getD x1 (Int.toNat v5) ByteArray.empty)) = true then (ds = [Dyn.mk Ty.bool Bool.false]) else ((InR IntKind.i64 (v5 + 1)) ∧ (R6_4 n (v5 + 1) (x0) (x1) ds))))) else (ds = [Dyn.mk Ty.bool Bool.true]))
end
theorem p6_0 (x0 : List ByteArray) (x1 : List ByteArray) : runF tab ext6 false 26 [] 2000 [] tys6 Tryd.f6.results [true] [.code b6] (entE 0 0 sig6 (x0, x1, ())) (entL sig6 (x0, x1, ())) = some ([Dyn.mk Ty.bool Bool.false], [], [((↑(List.length x0) : Int) != (↑(List.length x1) : Int)) = Bool.true]) := by kernel_rfl
theorem p6_1 (x0 : List ByteArray) (x1 : List ByteArray) : Am.runN tab ext6 false 26 [] 2000 [] [] [0, 1, 5] [] [false] [.code b6] (entE 0 0 sig6 (x0, x1, ())) (entL sig6 (x0, x1, ())) = some (cutAt b6 4, E6_4 (0) (x0) (x1), L6_4 (0) (x0) (x1), [((↑(List.length x0) : Int) != (↑(List.length x1) : Int)) = Bool.false]) := by kernel_rfl
theorem p6_2 (v5 : Int) (x0 : List ByteArray) (x1 : List ByteArray) : runF tab ext6 false 26 [] 2000 [] tys6 Tryd.f6.results [true, true] (cutAt b6 4) (E6_4 v5 x0 x1) (L6_4 v5 x0 x1) = some ([Dyn.mk Ty.bool Bool.false], [], [Decidable.decide (v5 < (↑(List.length x0) : Int)) = Bool.true, 0 ≤ v5, v5 < (↑(List.length x0) : Int), 0 ≤ v5, v5 < (↑(List.length x1) : Int), (!ByteArray.toList (List.getD x0 (Int.toNat v5) ByteArray.empty) == ByteArray.toList (List.getD x1 (Int.toNat v5) ByteArray.empty)) = Bool.true]) := by kernel_rfl
theorem p6_3 (v5 : Int) (x0 : List ByteArray) (x1 : List ByteArray) : Am.runN tab ext6 false 26 [] 2000 [] [] [0, 1, 5] [] [true, false] (cutAt b6 4) (E6_4 v5 x0 x1) (L6_4 v5 x0 x1) = some (cutAt b6 4, E6_4 (v5 + 1) (x0) (x1), L6_4 (v5 + 1) (x0) (x1), [Decidable.decide (v5 < (↑(List.length x0) : Int)) = Bool.true, 0 ≤ v5, v5 < (↑(List.length x0) : Int), 0 ≤ v5, v5 < (↑(List.length x1) : Int), (!ByteArray.toList (List.getD x0 (Int.toNat v5) ByteArray.empty) == ByteArray.toList (List.getD x1 (Int.toNat v5) ByteArray.empty)) = Bool.false, InR IntKind.i64 (v5 + 1)]) := by kernel_rfl
theorem p6_4 (v5 : Int) (x0 : List ByteArray) (x1 : List ByteArray) : runF tab ext6 false 26 [] 2000 [] tys6 Tryd.f6.results [false] (cutAt b6 4) (E6_4 v5 x0 x1) (L6_4 v5 x0 x1) = some ([Dyn.mk Ty.bool Bool.true], [], [Decidable.decide (v5 < (↑(List.length x0) : Int)) = Bool.false]) := by kernel_rfl
theorem snd6 : ∀ n, (∀ (x0 : List ByteArray) (x1 : List ByteArray) ds, R6 n x0 x1 ds → ∀ w0 O q, AtV Tryd.prog 6 (PostR ds [] [] q w0 O) 26 w0 O q [] [.code b6] (entE 0 0 sig6 (x0, x1, ())) (entL sig6 (x0, x1, ()))) ∧ (∀ (v5 : Int) (x0 : List ByteArray) (x1 : List ByteArray) ds, R6_4 n v5 x0 x1 ds → ∀ w0 O q, AtV Tryd.prog 6 (PostR ds [] [] q w0 O) 26 w0 O q [] (cutAt b6 4) (E6_4 v5 x0 x1) (L6_4 v5 x0 x1)) := by
  intro n
  induction n with
  | zero => exact ⟨fun _ _ _ h => by simp only [R6] at h, fun _ _ _ _ h => by simp only [R6_4] at h⟩
  | succ n ih =>
  obtain ⟨ih, ih4⟩ := ih
  refine ⟨?_, ?_⟩
  · intro x0 x1 ds h w0 O q
    rw [R6] at h
    by_cases b0 : ((↑(List.length x0) : Int) != (↑(List.length x1) : Int)) = true
    · rw [if_pos b0] at h
      subst h
      exact AtV.fin Tryd.func6 tabOk ext6Ok mixed (p6_0 x0 x1) ⟨b0, trivial⟩
    · rw [if_neg b0] at h
      replace b0 := Bool.eq_false_iff.2 b0
      exact AtV.runN tabOk ext6Ok mixed (p6_1 x0 x1) ⟨b0, trivial⟩ (ih4 _ _ _ _ h w0 O q)

  · intro v5 x0 x1 ds h w0 O q
    rw [R6_4] at h
    by_cases b0 : (Decidable.decide (v5 < (↑(List.length x0) : Int))) = true
    · rw [if_pos b0] at h
      obtain ⟨s0, s1, h⟩ := h
      obtain ⟨s2, s3, h⟩ := h
      by_cases b1 : (!ByteArray.toList (List.getD x0 (Int.toNat v5) ByteArray.empty) == ByteArray.toList (List.getD x1 (Int.toNat v5) ByteArray.empty)) = true
      · rw [if_pos b1] at h
        subst h
        exact AtV.fin Tryd.func6 tabOk ext6Ok mixed (p6_2 v5 x0 x1) ⟨b0, s0, s1, s2, s3, b1, trivial⟩
      · rw [if_neg b1] at h
        replace b1 := Bool.eq_false_iff.2 b1
        obtain ⟨s4, h⟩ := h
        exact AtV.runN tabOk ext6Ok mixed (p6_3 v5 x0 x1) ⟨b0, s0, s1, s2, s3, b1, s4, trivial⟩ (ih4 _ _ _ _ h w0 O q)
    · rw [if_neg b0] at h
      replace b0 := Bool.eq_false_iff.2 b0
      subst h
      exact AtV.fin Tryd.func6 tabOk ext6Ok mixed (p6_4 v5 x0 x1) ⟨b0, trivial⟩



theorem eq6 (x0 x1 : List (ByteArray)) (hl : x0.length = x1.length) (hm : x0.length ≤ maxLen) : ∀ k i : Nat, i + k = x0.length → R6_4 (k + 1) (i : Int) x0 x1 [⟨.bool, decide (x0.drop i = x1.drop i)⟩] := by
  intro k
  induction k with
  | zero =>
    intro i hi
    have h1 : ¬ (i : Int) < (x0.length : Int) := by omega
    rw [R6_4, if_neg (by simpa using h1), drop_end x0 i (by omega), drop_end x1 i (by omega)]
    simp
  | succ k ih =>
    intro i hi
    have h1 : (i : Int) < (x0.length : Int) := by omega
    rw [R6_4, if_pos (by simpa using h1)]
    refine ⟨by omega, h1, by omega, by omega, ?_⟩
    simp only [Int.toNat_natCast]
    rw [drop_get x0 i ByteArray.empty (by omega), drop_get x1 i ByteArray.empty (by omega)]
    by_cases he : x0.getD i ByteArray.empty = x1.getD i ByteArray.empty
    · have hd := (bytes_eq _ _).2 he
      rw [if_neg (by rw [hd]; simp)]
      refine ⟨inR_up hm (by omega), ?_⟩
      have := ih (i + 1) (by omega)
      simp only [he, List.cons.injEq, true_and]
      exact this
    · have hd : (ByteArray.toList (x0.getD i ByteArray.empty) == ByteArray.toList (x1.getD i ByteArray.empty)) = false :=
        (bytes_ne _ _).2 he
      rw [if_pos (by rw [hd]; rfl)]
      simp only [he, List.cons.injEq, false_and, decide_false]

def g6_0 (x0 x1 : List (ByteArray)) : Bool := decide (x0 = x1)
def P6 (x0 x1 : List (ByteArray)) : Prop := True
def S6 : Am.Spec := { sig := sig6, pre := fun ⟨x0, x1, _⟩ => P6 x0 x1, res := fun ⟨x0, x1, _⟩ => [⟨Ty.bool, g6_0 x0 x1⟩] }
theorem con6 : Contract Tryd.prog 6 S6 := contract_of Tryd.func6 hb6 (Nat.le_of_ble_eq_true (by kernel_rfl)) (fun ⟨x0, x1, _⟩ h hwf w0 O q => by
  refine (snd6 (x0.length + 2)).1 x0 x1 _ ?_ w0 O q
  show R6 (x0.length + 1 + 1) x0 x1 [⟨Ty.bool, decide (x0 = x1)⟩]
  rw [R6]
  by_cases hl : x0.length = x1.length
  · rw [if_neg (by simp [hl])]
    have := eq6 x0 x1 hl hwf.1.1 x0.length 0 (by omega)
    simpa using this
  · rw [if_pos (by simp; omega)]
    have : x0 ≠ x1 := fun h => hl (by rw [h])
    simp [this])

end Go.Proofs.YtjkeinpcphkfbaaDoor

/- Function 13 (laws.markText): its runs between cut points. Written by a program of this repo (gen). -/
set_option linter.unusedVariables false
set_option linter.unusedSimpArgs false
set_option maxRecDepth 100000
namespace Go.Proofs.YtjkeinpcphkfbaaDoor
open Go Go.Am Go.Proofs
def ext13 : Ext := []
theorem ext13Ok : ExtOk Tryd.prog ext13 := trivial
/-! Function 13. -/
noncomputable def b13 : Code := bodyOf Tryd.f13
theorem hb13 : Tryd.f13.body = some b13 := by kernel_rfl
def sig13 : List AT := [AT.v (Ty.int IntKind.i64)]
def tys13 : List Ty := [Ty.str]
def E13_4 (v3 : ByteArray) (x0 : Int) : Env := [(0, PV.a (Atom.val (Value.int IntKind.i64 x0))), (3, PV.a (Atom.val (Value.string v3)))]
def L13_4 (v3 : ByteArray) (x0 : Int) : Heap := []
mutual
def R13 : Nat → Int → List Dyn → Prop
  | 0, _, _ => False
  | n + 1, x0, ds => (if (Decidable.decide (x0 ≤ 0)) = true then (ds = [Dyn.mk Ty.str (ByteArray.mk #[109, 48])]) else (R13_4 n (ByteArray.mk #[]) (x0) ds))
def R13_4 : Nat → ByteArray → Int → List Dyn → Prop
  | 0, _, _, _ => False
  | n + 1, v3, x0, ds => (if (Decidable.decide (x0 > 0)) = true then ((InR IntKind.i64 (Int.tmod x0 10)) ∧ ((InR IntKind.i64 (48 + Int.tmod x0 10)) ∧ ((InR IntKind.u8 (48 + Int.tmod x0 10)) ∧ ((ByteArray.size (bytesStr [48 + Int.tmod x0 10]) + ByteArray.size v3 ≤ 9223372036854775807) ∧ ((InR IntKind.i64 (Int.tdiv x0 10)) ∧ (R13_4 n (bytesStr [48 + Int.tmod x0 10] ++ v3) (Int.tdiv x0 10) ds)))))) else ((1 + ByteArray.size v3 ≤ 9223372036854775807) ∧ (ds = [Dyn.mk Ty.str (ByteArray.mk #[109] ++ v3)])))
end
theorem p13_0 (x0 : Int) : runF tab ext13 false 20 [] 2000 [] tys13 Tryd.f13.results [true] [.code b13] (entE 0 0 sig13 (x0, ())) (entL sig13 (x0, ())) = some ([Dyn.mk Ty.str (ByteArray.mk #[109, 48])], [], [Decidable.decide (x0 ≤ 0) = Bool.true]) := by kernel_rfl
theorem p13_1 (x0 : Int) : Am.runN tab ext13 false 20 [] 2000 [] [] [0, 3] [] [false] [.code b13] (entE 0 0 sig13 (x0, ())) (entL sig13 (x0, ())) = some (cutAt b13 4, E13_4 (ByteArray.mk #[]) (x0), L13_4 (ByteArray.mk #[]) (x0), [Decidable.decide (x0 ≤ 0) = Bool.false]) := by kernel_rfl
theorem p13_2 (v3 : ByteArray) (x0 : Int) : Am.runN tab ext13 false 20 [] 2000 [] [] [0, 3] [] [true] (cutAt b13 4) (E13_4 v3 x0) (L13_4 v3 x0) = some (cutAt b13 4, E13_4 (bytesStr [48 + Int.tmod x0 10] ++ v3) (Int.tdiv x0 10), L13_4 (bytesStr [48 + Int.tmod x0 10] ++ v3) (Int.tdiv x0 10), [Decidable.decide (x0 > 0) = Bool.true, (10 : Int) ≠ (0 : Int), InR IntKind.i64 (Int.tmod x0 10), InR IntKind.i64 (48 + Int.tmod x0 10), InR IntKind.u8 (48 + Int.tmod x0 10), ByteArray.size (bytesStr [48 + Int.tmod x0 10]) + ByteArray.size v3 ≤ 9223372036854775807, (10 : Int) ≠ (0 : Int), InR IntKind.i64 (Int.tdiv x0 10)]) := by kernel_rfl
theorem p13_3 (v3 : ByteArray) (x0 : Int) : runF tab ext13 false 20 [] 2000 [] tys13 Tryd.f13.results [false] (cutAt b13 4) (E13_4 v3 x0) (L13_4 v3 x0) = some ([Dyn.mk Ty.str (ByteArray.mk #[109] ++ v3)], [], [Decidable.decide (x0 > 0) = Bool.false, 1 + ByteArray.size v3 ≤ 9223372036854775807]) := by kernel_rfl
theorem snd13 : ∀ n, (∀ (x0 : Int) ds, R13 n x0 ds → ∀ w0 O q, AtV Tryd.prog 13 (PostR ds [] [] q w0 O) 20 w0 O q [] [.code b13] (entE 0 0 sig13 (x0, ())) (entL sig13 (x0, ()))) ∧ (∀ (v3 : ByteArray) (x0 : Int) ds, R13_4 n v3 x0 ds → ∀ w0 O q, AtV Tryd.prog 13 (PostR ds [] [] q w0 O) 20 w0 O q [] (cutAt b13 4) (E13_4 v3 x0) (L13_4 v3 x0)) := by
  intro n
  induction n with
  | zero => exact ⟨fun _ _ h => by simp only [R13] at h, fun _ _ _ h => by simp only [R13_4] at h⟩
  | succ n ih =>
  obtain ⟨ih, ih4⟩ := ih
  refine ⟨?_, ?_⟩
  · intro x0 ds h w0 O q
    rw [R13] at h
    by_cases b0 : (Decidable.decide (x0 ≤ 0)) = true
    · rw [if_pos b0] at h
      subst h
      exact AtV.fin Tryd.func13 tabOk ext13Ok mixed (p13_0 x0) ⟨b0, trivial⟩
    · rw [if_neg b0] at h
      replace b0 := Bool.eq_false_iff.2 b0
      exact AtV.runN tabOk ext13Ok mixed (p13_1 x0) ⟨b0, trivial⟩ (ih4 _ _ _ h w0 O q)

  · intro v3 x0 ds h w0 O q
    rw [R13_4] at h
    by_cases b0 : (Decidable.decide (x0 > 0)) = true
    · rw [if_pos b0] at h
      obtain ⟨s0, h⟩ := h
      obtain ⟨s1, h⟩ := h
      obtain ⟨s2, h⟩ := h
      obtain ⟨s3, h⟩ := h
      obtain ⟨s4, h⟩ := h
      exact AtV.runN tabOk ext13Ok mixed (p13_2 v3 x0) ⟨b0, (by decide), s0, s1, s2, s3, (by decide), s4, trivial⟩ (ih4 _ _ _ h w0 O q)
    · rw [if_neg b0] at h
      replace b0 := Bool.eq_false_iff.2 b0
      obtain ⟨s0, h⟩ := h
      subst h
      exact AtV.fin Tryd.func13 tabOk ext13Ok mixed (p13_3 v3 x0) ⟨b0, s0, trivial⟩



def loop13 : Nat → ByteArray → Int → ByteArray
  | 0, v, _ => v
  | n + 1, v, x => if 0 < x then loop13 n (bytesStr [48 + Int.tmod x 10] ++ v) (Int.tdiv x 10) else v

theorem run13 : ∀ (n : Nat) (v : ByteArray) (x : Int), x < 10 ^ n → InR .i64 x → v.size + n ≤ 1000 → R13_4 (n + 1) v x [⟨.str, ByteArray.mk #[109] ++ loop13 n v x⟩] := by
  intro n
  induction n with
  | zero =>
    intro v x h1 _ h2
    rw [R13_4, if_neg (by simp at h1 ⊢; omega)]
    exact ⟨by omega, rfl⟩
  | succ n ih =>
    intro v x h1 hi h2
    rw [i64_iff] at hi
    rw [R13_4]
    by_cases hx : 0 < x
    · rw [if_pos (by simpa using hx)]
      have e1 : Int.tmod x 10 = x % 10 := Int.tmod_eq_emod_of_nonneg (by omega)
      have e2 : Int.tdiv x 10 = x / 10 := Int.tdiv_eq_ediv_of_nonneg (by omega)
      have hs : (bytesStr [48 + Int.tmod x 10]).size = 1 := bytesStr_size _
      have hp : (10 : Int) ^ (n + 1) = 10 * 10 ^ n := by rw [Int.pow_succ, Int.mul_comm]
      refine ⟨by rw [i64_iff, e1]; omega, by rw [i64_iff, e1]; omega, by rw [u8_iff, e1]; omega, by rw [hs]; omega, by rw [i64_iff, e2]; omega, ?_⟩
      have := ih (bytesStr [48 + Int.tmod x 10] ++ v) (Int.tdiv x 10) (by rw [e2]; omega) (by rw [i64_iff, e2]; omega) (by rw [ByteArray.size_append, hs]; omega)
      simp only [loop13, if_pos hx]
      exact this
    · rw [if_neg (by simp; omega)]
      simp only [loop13, if_neg hx]
      exact ⟨by omega, trivial⟩

def g13_0 (x0 : Int) : ByteArray := if x0 ≤ 0 then ByteArray.mk #[109, 48] else ByteArray.mk #[109] ++ loop13 19 (ByteArray.mk #[]) x0
def P13 (x0 : Int) : Prop := True

theorem top13 (x0 : Int) (hi : InR .i64 x0) : R13 21 x0 [⟨.str, g13_0 x0⟩] := by
  rw [R13]
  unfold g13_0
  by_cases h : x0 ≤ 0
  · rw [if_pos (by simpa using h), if_pos h]
  · rw [if_neg (by simpa using h), if_neg h]
    have hi' := hi
    rw [i64_iff] at hi'
    exact run13 19 _ x0 (by omega) hi (by decide)

def S13 : Am.Spec := { sig := sig13, pre := fun ⟨x0, _⟩ => P13 x0, res := fun ⟨x0, _⟩ => [⟨.str, g13_0 x0⟩] }
theorem con13 : Contract Tryd.prog 13 S13 := contract_of Tryd.func13 hb13 (Nat.le_of_ble_eq_true (by kernel_rfl)) (fun ⟨x0, _⟩ h hwf w0 O q =>
  (snd13 _).1 x0 _ (top13 x0 hwf.1) w0 O q)

end Go.Proofs.YtjkeinpcphkfbaaDoor

/- Function 7 (laws.markStringS): its runs between cut points. Written by a program of this repo (gen). -/
set_option linter.unusedVariables false
set_option linter.unusedSimpArgs false
set_option maxRecDepth 100000
namespace Go.Proofs.YtjkeinpcphkfbaaDoor
open Go Go.Am Go.Proofs
def ext7 : Ext := [(13, S13)]
theorem call7_13 : Callable Tryd.prog 13 := ⟨Tryd.f13, Tryd.func13, by kernel_rfl, by kernel_rfl⟩
theorem ext7Ok : ExtOk Tryd.prog ext7 := ⟨⟨call7_13, con13⟩, trivial⟩
/-! Function 7. -/
noncomputable def b7 : Code := bodyOf Tryd.f7
theorem hb7 : Tryd.f7.body = some b7 := by kernel_rfl
def sig7 : List AT := [AT.own Ty.str, AT.v (Ty.int IntKind.i64)]
def tys7 : List Ty := [Ty.int IntKind.i64]
def E7_2 (v5 : Int) (x1 : Int) (x0 : List ByteArray) : Env := [(0, PV.a (Atom.osl 0 Option.none)), (1, PV.a (Atom.val (Value.int IntKind.i64 x1))), (5, PV.a (Atom.val (Value.int IntKind.i64 v5)))]
def L7_2 (v5 : Int) (x1 : Int) (x0 : List ByteArray) : Heap := [Option.some (Arr.mk Ty.str x0 Bool.false)]
mutual
def R7 : Nat → List ByteArray → Int → List Dyn → List (Option Lst) → Prop
  | 0, _, _, _, _ => False
  | n + 1, x0, x1, ds, us => (R7_2 n (0) (x1) (x0) ds us)
def R7_2 : Nat → Int → Int → List ByteArray → List Dyn → List (Option Lst) → Prop
  | 0, _, _, _, _, _ => False
  | n + 1, v5, x1, x0, ds, us => (if (Decidable.decide (v5 < (↑(List.length x0) : Int))) = true then ((0 ≤ v5) ∧ (v5 < (↑(List.length x0) : Int)) ∧ ((InR IntKind.i64 (x1 + 1)) ∧ ((InR IntKind.i64 (v5 + 1)) ∧ (R7_2 n (v5 + 1) (x1 + 1) (List.set x0 (Int.toNat v5) (g13_0 x1)) ds us)))) else (ds = [Dyn.mk (Ty.int IntKind.i64) x1] ∧ us = [Option.some (Lst.mk Ty.str x0)]))
end
theorem p7_0 (x0 : List ByteArray) (x1 : Int) : Am.runN tab ext7 false 20 [] 2000 [0] [] [0, 1, 5] [0] [] [.code b7] (entE 0 0 sig7 (x0, x1, ())) (entL sig7 (x0, x1, ())) = some (cutAt b7 2, E7_2 (0) (x1) (x0), L7_2 (0) (x1) (x0), []) := by kernel_rfl
theorem p7_1 (v5 : Int) (x1 : Int) (x0 : List ByteArray) : Am.runN tab ext7 false 20 [] 2000 [0] [] [0, 1, 5] [0] [true] (cutAt b7 2) (E7_2 v5 x1 x0) (L7_2 v5 x1 x0) = some (cutAt b7 2, E7_2 (v5 + 1) (x1 + 1) (List.set x0 (Int.toNat v5) (g13_0 x1)), L7_2 (v5 + 1) (x1 + 1) (List.set x0 (Int.toNat v5) (g13_0 x1)), [Decidable.decide (v5 < (↑(List.length x0) : Int)) = Bool.true, True, 0 ≤ v5, v5 < (↑(List.length x0) : Int), InR IntKind.i64 (x1 + 1), InR IntKind.i64 (v5 + 1)]) := by kernel_rfl
theorem p7_2 (v5 : Int) (x1 : Int) (x0 : List ByteArray) : runF tab ext7 false 20 [] 2000 [0] tys7 Tryd.f7.results [false] (cutAt b7 2) (E7_2 v5 x1 x0) (L7_2 v5 x1 x0) = some ([Dyn.mk (Ty.int IntKind.i64) x1], [Option.some (Lst.mk Ty.str x0)], [Decidable.decide (v5 < (↑(List.length x0) : Int)) = Bool.false]) := by kernel_rfl
theorem snd7 : ∀ n, (∀ (x0 : List ByteArray) (x1 : Int) ds us, R7 n x0 x1 ds us → ∀ w0 O q, AtV Tryd.prog 7 (PostR ds us [0] q w0 O) 20 w0 O q [0] [.code b7] (entE 0 0 sig7 (x0, x1, ())) (entL sig7 (x0, x1, ()))) ∧ (∀ (v5 : Int) (x1 : Int) (x0 : List ByteArray) ds us, R7_2 n v5 x1 x0 ds us → ∀ w0 O q, AtV Tryd.prog 7 (PostR ds us [0] q w0 O) 20 w0 O q [0] (cutAt b7 2) (E7_2 v5 x1 x0) (L7_2 v5 x1 x0)) := by
  intro n
  induction n with
  | zero => exact ⟨fun _ _ _ _ h => by simp only [R7] at h, fun _ _ _ _ _ h => by simp only [R7_2] at h⟩
  | succ n ih =>
  obtain ⟨ih, ih2⟩ := ih
  refine ⟨?_, ?_⟩
  · intro x0 x1 ds us h w0 O q
    rw [R7] at h
    exact AtV.runN tabOk ext7Ok mixed (p7_0 x0 x1) trivial (ih2 _ _ _ _ _ h w0 O q)

  · intro v5 x1 x0 ds us h w0 O q
    rw [R7_2] at h
    by_cases b0 : (Decidable.decide (v5 < (↑(List.length x0) : Int))) = true
    · rw [if_pos b0] at h
      obtain ⟨s0, s1, h⟩ := h
      obtain ⟨s2, h⟩ := h
      obtain ⟨s3, h⟩ := h
      exact AtV.runN tabOk ext7Ok mixed (p7_1 v5 x1 x0) ⟨b0, trivial, s0, s1, s2, s3, trivial⟩ (ih2 _ _ _ _ _ h w0 O q)
    · rw [if_neg b0] at h
      replace b0 := Bool.eq_false_iff.2 b0
      obtain ⟨h, h'⟩ := h; subst h; subst h'
      exact AtV.fin Tryd.func7 tabOk ext7Ok mixed (p7_2 v5 x1 x0) ⟨b0, trivial⟩



def M7 (x1 : Int) (n : Nat) : List ByteArray := (List.range n).map fun (j : Nat) => g13_0 (x1 + (j : Int))

theorem M7_len (x1 : Int) (n : Nat) : (M7 x1 n).length = n := by simp [M7]

theorem M7_step (x1 : Int) (x0 : List ByteArray) (i : Nat) (h : i < x0.length) : (M7 x1 i ++ x0.drop i).set i (g13_0 (x1 + (i : Int))) = M7 x1 (i + 1) ++ x0.drop (i + 1) := by
  rw [List.set_append_right _ _ (by rw [M7_len]; exact Nat.le_refl _), M7_len, Nat.sub_self, List.drop_eq_getElem_cons h, List.set_cons_zero]
  simp [M7, List.range_succ]

theorem run7 (x0 : List ByteArray) (x1 : Int) (hm : x0.length ≤ maxLen) (h0 : 0 ≤ x1) (h1 : x1 + x0.length ≤ 9223372036854775807) : ∀ (k i : Nat), i + k = x0.length →
    R7_2 (k + 1) (i : Int) (x1 + (i : Int)) (M7 x1 i ++ x0.drop i) [⟨.int .i64, x1 + (x0.length : Int)⟩] [some ⟨.str, M7 x1 x0.length⟩] := by
  intro k
  induction k with
  | zero =>
    intro i hi
    have hl : (M7 x1 i ++ x0.drop i).length = x0.length := by simp [M7_len]; omega
    rw [R7_2, if_neg (by rw [hl]; simp; omega), drop_end x0 i (by omega), List.append_nil]
    have : i = x0.length := by omega
    subst this
    exact ⟨rfl, rfl⟩
  | succ k ih =>
    intro i hi
    have hl : (M7 x1 i ++ x0.drop i).length = x0.length := by simp [M7_len]; omega
    rw [R7_2, if_pos (by rw [hl]; simp; omega), hl]
    simp only [Int.toNat_natCast]
    refine ⟨by omega, by omega, by rw [i64_iff]; omega, inR_up hm (by omega), ?_⟩
    rw [M7_step x1 x0 i (by omega), Int.add_assoc]
    exact ih (i + 1) (by omega)

def P7 (x0 : List ByteArray) (x1 : Int) : Prop := 0 ≤ x1 ∧ x1 + x0.length ≤ 9223372036854775807
def g7_0 (x0 : List ByteArray) (x1 : Int) : Int := x1 + (x0.length : Int)
def u7_0 (x0 : List ByteArray) (x1 : Int) : List ByteArray := M7 x1 x0.length

theorem top7 (x0 : List ByteArray) (x1 : Int) (hm : x0.length ≤ maxLen) (h : P7 x0 x1) : R7 (x0.length + 1 + 1) x0 x1 [⟨.int .i64, g7_0 x0 x1⟩] [some ⟨.str, u7_0 x0 x1⟩] := by
  rw [R7]
  have := run7 x0 x1 hm h.1 h.2 x0.length 0 (by omega)
  simpa [M7, g7_0, u7_0] using this

def S7 : Am.Spec := { sig := sig7, pre := fun ⟨x0, x1, _⟩ => P7 x0 x1, upd := fun ⟨x0, x1, _⟩ => [some ⟨.str, u7_0 x0 x1⟩], res := fun ⟨x0, x1, _⟩ => [⟨.int .i64, g7_0 x0 x1⟩] }
theorem con7 : Contract Tryd.prog 7 S7 := contract_of Tryd.func7 hb7 (Nat.le_of_ble_eq_true (by kernel_rfl)) (fun ⟨x0, x1, _⟩ h hwf w0 O q =>
  (snd7 _).1 x0 x1 _ _ (top7 x0 x1 hwf.1.1 h) w0 O q)

end Go.Proofs.YtjkeinpcphkfbaaDoor

/- Function 8 (laws.heldStringS): its runs between cut points. Written by a program of this repo (gen). -/
set_option linter.unusedVariables false
set_option linter.unusedSimpArgs false
set_option maxRecDepth 100000
namespace Go.Proofs.YtjkeinpcphkfbaaDoor
open Go Go.Am Go.Proofs
def ext8 : Ext := [(13, S13)]
theorem call8_13 : Callable Tryd.prog 13 := ⟨Tryd.f13, Tryd.func13, by kernel_rfl, by kernel_rfl⟩
theorem ext8Ok : ExtOk Tryd.prog ext8 := ⟨⟨call8_13, con13⟩, trivial⟩
/-! Function 8. -/
noncomputable def b8 : Code := bodyOf Tryd.f8
theorem hb8 : Tryd.f8.body = some b8 := by kernel_rfl
def sig8 : List AT := [AT.v (Ty.sl Ty.str), AT.v (Ty.int IntKind.i64)]
def tys8 : List Ty := [Ty.int IntKind.i64]
def E8_2 (v5 : Int) (x0 : List ByteArray) (x1 : Int) : Env := [(0, PV.a (Atom.sl Ty.str x0)), (1, PV.a (Atom.val (Value.int IntKind.i64 x1))), (5, PV.a (Atom.val (Value.int IntKind.i64 v5)))]
def L8_2 (v5 : Int) (x0 : List ByteArray) (x1 : Int) : Heap := []
mutual
def R8 : Nat → List ByteArray → Int → List Dyn → Prop
  | 0, _, _, _ => False
  | n + 1, x0, x1, ds => (R8_2 n (0) (x0) (x1) ds)
def R8_2 : Nat → Int → List ByteArray → Int → List Dyn → Prop
  | 0, _, _, _, _ => False
  | n + 1, v5, x0, x1, ds => (if (Decidable.decide (v5 < (↑(List.length x0) : Int))) = true then ((0 ≤ v5) ∧ (v5 < (↑(List.length x0) : Int)) ∧ (if (!ByteArray.toList (List.getD x0 (Int.toNat v5) ByteArray.empty) == ByteArray.toList (g13_0 x1)) = true then (ds = [Dyn.mk (Ty.int IntKind.i64) (-1)]) else ((InR IntKind.i64 (x1 + 1)) ∧ ((InR IntKind.i64 (v5 + 1)) ∧ (R8_2 n (v5 + 1) (x0) (x1 + 1) ds))))) else (ds = [Dyn.mk (Ty.int IntKind.i64) x1]))
end
theorem p8_0 (x0 : List ByteArray) (x1 : Int) : Am.runN tab ext8 false 22 [] 2000 [] [] [0, 1, 5] [] [] [.code b8] (entE 0 0 sig8 (x0, x1, ())) (entL sig8 (x0, x1, ())) = some (cutAt b8 2, E8_2 (0) (x0) (x1), L8_2 (0) (x0) (x1), []) := by kernel_rfl
theorem p8_1 (v5 : Int) (x0 : List ByteArray) (x1 : Int) : runF tab ext8 false 22 [] 2000 [] tys8 Tryd.f8.results [true, true] (cutAt b8 2) (E8_2 v5 x0 x1) (L8_2 v5 x0 x1) = some ([Dyn.mk (Ty.int IntKind.i64) (-1)], [], [Decidable.decide (v5 < (↑(List.length x0) : Int)) = Bool.true, 0 ≤ v5, v5 < (↑(List.length x0) : Int), True, (!ByteArray.toList (List.getD x0 (Int.toNat v5) ByteArray.empty) == ByteArray.toList (g13_0 x1)) = Bool.true]) := by kernel_rfl
theorem p8_2 (v5 : Int) (x0 : List ByteArray) (x1 : Int) : Am.runN tab ext8 false 22 [] 2000 [] [] [0, 1, 5] [] [true, false] (cutAt b8 2) (E8_2 v5 x0 x1) (L8_2 v5 x0 x1) = some (cutAt b8 2, E8_2 (v5 + 1) (x0) (x1 + 1), L8_2 (v5 + 1) (x0) (x1 + 1), [Decidable.decide (v5 < (↑(List.length x0) : Int)) = Bool.true, 0 ≤ v5, v5 < (↑(List.length x0) : Int), True, (!ByteArray.toList (List.getD x0 (Int.toNat v5) ByteArray.empty) == ByteArray.toList (g13_0 x1)) = Bool.false, InR IntKind.i64 (x1 + 1), InR IntKind.i64 (v5 + 1)]) := by kernel_rfl
theorem p8_3 (v5 : Int) (x0 : List ByteArray) (x1 : Int) : runF tab ext8 false 22 [] 2000 [] tys8 Tryd.f8.results [false] (cutAt b8 2) (E8_2 v5 x0 x1) (L8_2 v5 x0 x1) = some ([Dyn.mk (Ty.int IntKind.i64) x1], [], [Decidable.decide (v5 < (↑(List.length x0) : Int)) = Bool.false]) := by kernel_rfl
theorem snd8 : ∀ n, (∀ (x0 : List ByteArray) (x1 : Int) ds, R8 n x0 x1 ds → ∀ w0 O q, AtV Tryd.prog 8 (PostR ds [] [] q w0 O) 22 w0 O q [] [.code b8] (entE 0 0 sig8 (x0, x1, ())) (entL sig8 (x0, x1, ()))) ∧ (∀ (v5 : Int) (x0 : List ByteArray) (x1 : Int) ds, R8_2 n v5 x0 x1 ds → ∀ w0 O q, AtV Tryd.prog 8 (PostR ds [] [] q w0 O) 22 w0 O q [] (cutAt b8 2) (E8_2 v5 x0 x1) (L8_2 v5 x0 x1)) := by
  intro n
  induction n with
  | zero => exact ⟨fun _ _ _ h => by simp only [R8] at h, fun _ _ _ _ h => by simp only [R8_2] at h⟩
  | succ n ih =>
  obtain ⟨ih, ih2⟩ := ih
  refine ⟨?_, ?_⟩
  · intro x0 x1 ds h w0 O q
    rw [R8] at h
    exact AtV.runN tabOk ext8Ok mixed (p8_0 x0 x1) trivial (ih2 _ _ _ _ h w0 O q)

  · intro v5 x0 x1 ds h w0 O q
    rw [R8_2] at h
    by_cases b0 : (Decidable.decide (v5 < (↑(List.length x0) : Int))) = true
    · rw [if_pos b0] at h
      obtain ⟨s0, s1, h⟩ := h
      by_cases b1 : (!ByteArray.toList (List.getD x0 (Int.toNat v5) ByteArray.empty) == ByteArray.toList (g13_0 x1)) = true
      · rw [if_pos b1] at h
        subst h
        exact AtV.fin Tryd.func8 tabOk ext8Ok mixed (p8_1 v5 x0 x1) ⟨b0, s0, s1, trivial, b1, trivial⟩
      · rw [if_neg b1] at h
        replace b1 := Bool.eq_false_iff.2 b1
        obtain ⟨s2, h⟩ := h
        obtain ⟨s3, h⟩ := h
        exact AtV.runN tabOk ext8Ok mixed (p8_2 v5 x0 x1) ⟨b0, s0, s1, trivial, b1, s2, s3, trivial⟩ (ih2 _ _ _ _ h w0 O q)
    · rw [if_neg b0] at h
      replace b0 := Bool.eq_false_iff.2 b0
      subst h
      exact AtV.fin Tryd.func8 tabOk ext8Ok mixed (p8_3 v5 x0 x1) ⟨b0, trivial⟩



theorem run8 (x0 : List ByteArray) (x1 : Int) (hm : x0.length ≤ maxLen) (h0 : 0 ≤ x1) (h1 : x1 + x0.length ≤ 9223372036854775807) (he : ∀ i : Nat, i < x0.length → x0.getD i ByteArray.empty = g13_0 (x1 + (i : Int))) : ∀ (k i : Nat), i + k = x0.length →
    R8_2 (k + 1) (i : Int) x0 (x1 + (i : Int)) [⟨.int .i64, x1 + (x0.length : Int)⟩] := by
  intro k
  induction k with
  | zero =>
    intro i hi
    rw [R8_2, if_neg (by simp; omega)]
    have : i = x0.length := by omega
    subst this
    rfl
  | succ k ih =>
    intro i hi
    rw [R8_2, if_pos (by simp; omega)]
    simp only [Int.toNat_natCast]
    have hb := (bytes_eq _ _).2 (he i (by omega))
    refine ⟨by omega, by omega, ?_⟩
    rw [if_neg (by rw [hb]; simp)]
    refine ⟨by rw [i64_iff]; omega, inR_up hm (by omega), ?_⟩
    rw [Int.add_assoc]
    exact ih (i + 1) (by omega)

def P8 (x0 : List ByteArray) (x1 : Int) : Prop := (0 ≤ x1 ∧ x1 + x0.length ≤ 9223372036854775807) ∧ ∀ i : Nat, i < x0.length → x0.getD i ByteArray.empty = g13_0 (x1 + (i : Int))
def g8_0 (x0 : List ByteArray) (x1 : Int) : Int := x1 + (x0.length : Int)

theorem top8 (x0 : List ByteArray) (x1 : Int) (hm : x0.length ≤ maxLen) (h : P8 x0 x1) : R8 (x0.length + 1 + 1) x0 x1 [⟨.int .i64, g8_0 x0 x1⟩] := by
  rw [R8]
  have := run8 x0 x1 hm h.1.1 h.1.2 h.2 x0.length 0 (by omega)
  simpa [g8_0] using this

def S8 : Am.Spec := { sig := sig8, pre := fun ⟨x0, x1, _⟩ => P8 x0 x1, res := fun ⟨x0, x1, _⟩ => [⟨.int .i64, g8_0 x0 x1⟩] }
theorem con8 : Contract Tryd.prog 8 S8 := contract_of Tryd.func8 hb8 (Nat.le_of_ble_eq_true (by kernel_rfl)) (fun ⟨x0, x1, _⟩ h hwf w0 O q =>
  (snd8 _).1 x0 x1 _ (top8 x0 x1 hwf.1.1 h) w0 O q)

end Go.Proofs.YtjkeinpcphkfbaaDoor

/- Function 3 (laws.FnExactReadReport): its runs between cut points. Written by a program of this repo (gen). -/
set_option linter.unusedVariables false
set_option linter.unusedSimpArgs false
set_option maxRecDepth 100000
namespace Go.Proofs.YtjkeinpcphkfbaaDoor
open Go Go.Am Go.Proofs
def ext3 : Ext := [(4, S4), (5, S5), (6, S6), (7, S7), (8, S8)]
theorem call3_4 : Callable Tryd.prog 4 := ⟨Tryd.f4, Tryd.func4, by kernel_rfl, by kernel_rfl⟩
theorem call3_5 : Callable Tryd.prog 5 := ⟨Tryd.f5, Tryd.func5, by kernel_rfl, by kernel_rfl⟩
theorem call3_6 : Callable Tryd.prog 6 := ⟨Tryd.f6, Tryd.func6, by kernel_rfl, by kernel_rfl⟩
theorem call3_7 : Callable Tryd.prog 7 := ⟨Tryd.f7, Tryd.func7, by kernel_rfl, by kernel_rfl⟩
theorem call3_8 : Callable Tryd.prog 8 := ⟨Tryd.f8, Tryd.func8, by kernel_rfl, by kernel_rfl⟩
theorem ext3Ok : ExtOk Tryd.prog ext3 := ⟨⟨call3_4, con4⟩, ⟨call3_5, con5⟩, ⟨call3_6, con6⟩, ⟨call3_7, con7⟩, ⟨call3_8, con8⟩, trivial⟩
/-! Function 3. -/
noncomputable def b3 : Code := bodyOf Tryd.f3
theorem hb3 : Tryd.f3.body = some b3 := by kernel_rfl
def sig3 : List AT := [AT.v (Ty.str)]
def tys3 : List Ty := [Ty.bool]
def P3 (x0 : ByteArray) : Prop := (if (Decidable.decide ((↑(ByteArray.size x0) : Int) > 1048576)) = true then True else ((P4 x0) ∧ ((P5 x0) ∧ (if (!g6_0 (g5_0 x0) (g4_0 x0)) = true then True else (if (!g5_1 x0 == g4_1 x0) = true then True else ((P7 (g5_0 x0) 1) ∧ (List.length (u7_0 (g5_0 x0) 1) = List.length (g5_0 x0)) ∧ ((P8 (u7_0 (g5_0 x0) 1) 1) ∧ (if (Decidable.decide (g8_0 (u7_0 (g5_0 x0) 1) 1 < 0)) = true then True else (if (g8_0 (u7_0 (g5_0 x0) 1) 1 != g7_0 (g5_0 x0) 1) = true then True else ((P5 x0) ∧ ((P8 (u7_0 (g5_0 x0) 1) 1) ∧ True)))))))))))
def g3_0 (x0 : ByteArray) : Bool := (if (Decidable.decide ((↑(ByteArray.size x0) : Int) > 1048576)) = true then Bool.true else (if (!g6_0 (g5_0 x0) (g4_0 x0)) = true then Bool.false else (if (!g5_1 x0 == g4_1 x0) = true then Bool.false else (if (Decidable.decide (g8_0 (u7_0 (g5_0 x0) 1) 1 < 0)) = true then Bool.false else (if (g8_0 (u7_0 (g5_0 x0) 1) 1 != g7_0 (g5_0 x0) 1) = true then Bool.false else Bool.true)))))
theorem p3_0 (x0 : ByteArray) : runF tab ext3 false 66 [] 2000 [] tys3 Tryd.f3.results [true] [.code b3] (entE 0 0 sig3 (x0, ())) (entL sig3 (x0, ())) = some ([Dyn.mk Ty.bool Bool.true], [], [Decidable.decide ((↑(ByteArray.size x0) : Int) > 1048576) = Bool.true]) := by kernel_rfl
theorem p3_1 (x0 : ByteArray) : runF tab ext3 false 66 [] 2000 [] tys3 Tryd.f3.results [false, true, true] [.code b3] (entE 0 0 sig3 (x0, ())) (entL sig3 (x0, ())) = some ([Dyn.mk Ty.bool Bool.false], [], [Decidable.decide ((↑(ByteArray.size x0) : Int) > 1048576) = Bool.false, P4 x0, P5 x0, True, (!g6_0 (g5_0 x0) (g4_0 x0)) = Bool.true, Bool.true = Bool.true]) := by kernel_rfl
theorem p3_2 (x0 : ByteArray) : runF tab ext3 false 66 [] 2000 [] tys3 Tryd.f3.results [false, false, true] [.code b3] (entE 0 0 sig3 (x0, ())) (entL sig3 (x0, ())) = some ([Dyn.mk Ty.bool Bool.false], [], [Decidable.decide ((↑(ByteArray.size x0) : Int) > 1048576) = Bool.false, P4 x0, P5 x0, True, (!g6_0 (g5_0 x0) (g4_0 x0)) = Bool.false, (!g5_1 x0 == g4_1 x0) = Bool.true]) := by kernel_rfl
theorem p3_3 (x0 : ByteArray) : runF tab ext3 false 66 [] 2000 [] tys3 Tryd.f3.results [false, false, false, true] [.code b3] (entE 0 0 sig3 (x0, ())) (entL sig3 (x0, ())) = some ([Dyn.mk Ty.bool Bool.false], [], [Decidable.decide ((↑(ByteArray.size x0) : Int) > 1048576) = Bool.false, P4 x0, P5 x0, True, (!g6_0 (g5_0 x0) (g4_0 x0)) = Bool.false, (!g5_1 x0 == g4_1 x0) = Bool.false, P7 (g5_0 x0) 1, List.length (u7_0 (g5_0 x0) 1) = List.length (g5_0 x0), P8 (u7_0 (g5_0 x0) 1) 1, Decidable.decide (g8_0 (u7_0 (g5_0 x0) 1) 1 < 0) = Bool.true]) := by kernel_rfl
theorem p3_4 (x0 : ByteArray) : runF tab ext3 false 66 [] 2000 [] tys3 Tryd.f3.results [false, false, false, false, true] [.code b3] (entE 0 0 sig3 (x0, ())) (entL sig3 (x0, ())) = some ([Dyn.mk Ty.bool Bool.false], [], [Decidable.decide ((↑(ByteArray.size x0) : Int) > 1048576) = Bool.false, P4 x0, P5 x0, True, (!g6_0 (g5_0 x0) (g4_0 x0)) = Bool.false, (!g5_1 x0 == g4_1 x0) = Bool.false, P7 (g5_0 x0) 1, List.length (u7_0 (g5_0 x0) 1) = List.length (g5_0 x0), P8 (u7_0 (g5_0 x0) 1) 1, Decidable.decide (g8_0 (u7_0 (g5_0 x0) 1) 1 < 0) = Bool.false, (g8_0 (u7_0 (g5_0 x0) 1) 1 != g7_0 (g5_0 x0) 1) = Bool.true]) := by kernel_rfl
theorem p3_5 (x0 : ByteArray) : runF tab ext3 false 66 [] 2000 [] tys3 Tryd.f3.results [false, false, false, false, false, false, false, false, false] [.code b3] (entE 0 0 sig3 (x0, ())) (entL sig3 (x0, ())) = some ([Dyn.mk Ty.bool Bool.true], [], [Decidable.decide ((↑(ByteArray.size x0) : Int) > 1048576) = Bool.false, P4 x0, P5 x0, True, (!g6_0 (g5_0 x0) (g4_0 x0)) = Bool.false, (!g5_1 x0 == g4_1 x0) = Bool.false, P7 (g5_0 x0) 1, List.length (u7_0 (g5_0 x0) 1) = List.length (g5_0 x0), P8 (u7_0 (g5_0 x0) 1) 1, Decidable.decide (g8_0 (u7_0 (g5_0 x0) 1) 1 < 0) = Bool.false, (g8_0 (u7_0 (g5_0 x0) 1) 1 != g7_0 (g5_0 x0) 1) = Bool.false, P5 x0, True, (!g6_0 (g5_0 x0) (g4_0 x0)) = Bool.false, (!g5_1 x0 == g4_1 x0) = Bool.false, P8 (u7_0 (g5_0 x0) 1) 1, Decidable.decide (g8_0 (u7_0 (g5_0 x0) 1) 1 < 0) = Bool.false, (g8_0 (u7_0 (g5_0 x0) 1) 1 != g7_0 (g5_0 x0) 1) = Bool.false]) := by kernel_rfl
theorem at3 (x0 : ByteArray) (h : P3 x0) (w0 : World) (O : List Nat) (q : Nat → Value) : AtV Tryd.prog 3 (PostR [⟨Ty.bool, g3_0 x0⟩] [] [] q w0 O) 66 w0 O q [] [.code b3] (entE 0 0 sig3 (x0, ())) (entL sig3 (x0, ())) := by
  unfold P3 at h
  unfold g3_0
  by_cases b0 : (Decidable.decide ((↑(ByteArray.size x0) : Int) > 1048576)) = true
  · try simp only [if_pos b0] at h ⊢
    exact AtV.fin Tryd.func3 tabOk ext3Ok mixed (p3_0 x0) ⟨b0, trivial⟩
  · try simp only [if_neg b0] at h ⊢
    replace b0 := Bool.eq_false_iff.2 b0
    obtain ⟨s0, h⟩ := h
    obtain ⟨s1, h⟩ := h
    by_cases b1 : (!g6_0 (g5_0 x0) (g4_0 x0)) = true
    · try simp only [if_pos b1] at h ⊢
      exact AtV.fin Tryd.func3 tabOk ext3Ok mixed (p3_1 x0) ⟨b0, s0, s1, trivial, b1, rfl, trivial⟩
    · try simp only [if_neg b1] at h ⊢
      replace b1 := Bool.eq_false_iff.2 b1
      by_cases b2 : (!g5_1 x0 == g4_1 x0) = true
      · try simp only [if_pos b2] at h ⊢
        exact AtV.fin Tryd.func3 tabOk ext3Ok mixed (p3_2 x0) ⟨b0, s0, s1, trivial, b1, b2, trivial⟩
      · try simp only [if_neg b2] at h ⊢
        replace b2 := Bool.eq_false_iff.2 b2
        obtain ⟨s2, s3, h⟩ := h
        obtain ⟨s4, h⟩ := h
        by_cases b3 : (Decidable.decide (g8_0 (u7_0 (g5_0 x0) 1) 1 < 0)) = true
        · try simp only [if_pos b3] at h ⊢
          exact AtV.fin Tryd.func3 tabOk ext3Ok mixed (p3_3 x0) ⟨b0, s0, s1, trivial, b1, b2, s2, s3, s4, b3, trivial⟩
        · try simp only [if_neg b3] at h ⊢
          replace b3 := Bool.eq_false_iff.2 b3
          by_cases b4 : (g8_0 (u7_0 (g5_0 x0) 1) 1 != g7_0 (g5_0 x0) 1) = true
          · try simp only [if_pos b4] at h ⊢
            exact AtV.fin Tryd.func3 tabOk ext3Ok mixed (p3_4 x0) ⟨b0, s0, s1, trivial, b1, b2, s2, s3, s4, b3, b4, trivial⟩
          · try simp only [if_neg b4] at h ⊢
            replace b4 := Bool.eq_false_iff.2 b4
            obtain ⟨s5, h⟩ := h
            obtain ⟨s6, h⟩ := h
            exact AtV.fin Tryd.func3 tabOk ext3Ok mixed (p3_5 x0) ⟨b0, s0, s1, trivial, b1, b2, s2, s3, s4, b3, b4, s5, trivial, b1, b2, s6, b3, b4, trivial⟩

def S3 : Am.Spec := { sig := sig3, pre := fun ⟨x0, _⟩ => P3 x0, res := fun ⟨x0, _⟩ => [⟨Ty.bool, g3_0 x0⟩] }
theorem con3 : Contract Tryd.prog 3 S3 := contract_of Tryd.func3 hb3 (Nat.le_of_ble_eq_true (by kernel_rfl)) (fun ⟨x0, _⟩ h _ w0 O q => at3 x0 h w0 O q)


end Go.Proofs.YtjkeinpcphkfbaaDoor

/- A law that says how functions of the program and of the specification hang together. -/
set_option linter.unusedVariables false
set_option linter.unusedSimpArgs false
set_option maxRecDepth 100000
namespace Go.Proofs.YtjkeinpcphkfbaaDoor
open Go Go.Am Go.Proofs

theorem split_lines (x : ByteArray) (h : x.size ≤ 1048576) : P9 x 10 ∧ P15 x (ByteArray.mk #[10]) ∧ g15_0 x (ByteArray.mk #[10]) = g9_0 x 10 ∧ 1 ≤ (g9_0 x 10).length ∧ (g9_0 x 10).length ≤ 1048577 := by
  have e : g15_0 x (ByteArray.mk #[10]) = g9_0 x 10 := splitB_one 10 x
  have hl : (g9_0 x 10).length = x.data.toList.count 10 + 1 := by
    show (bss (splitC (10 : UInt8) x.data.toList)).length = _
    unfold bss
    rw [List.length_map, splitC_length]
  have hc : x.data.toList.count (10 : UInt8) ≤ x.size := List.count_le_length
  exact ⟨⟨by omega, by omega, by omega⟩, ⟨by omega, Nat.le_refl 1⟩, e, by omega, by omega⟩

end Go.Proofs.YtjkeinpcphkfbaaDoor

/- A law that says how functions of the program and of the specification hang together. -/
set_option linter.unusedVariables false
set_option linter.unusedSimpArgs false
set_option maxRecDepth 100000
namespace Go.Proofs.YtjkeinpcphkfbaaDoor
open Go Go.Am Go.Proofs

theorem reportLine (s : ByteArray) : g18_0 s = g14_0 s := by
  unfold g18_0 g21c22_0 g14_0
  rw [any26c22]
  have hq : (!(bytesOf s).any g22_0) = (bytesOf s).all ok14 := by
    rw [List.not_any_eq_all_not]
    congr 1
    funext b
    simp only [g22_0, ok14]
    by_cases h1 : b < 32 <;> by_cases h2 : b > 126 <;> simp [h1, h2] <;> omega
  rw [hq]
  by_cases h : ((s.size : Nat) : Int) ≤ 100
  · have h' : s.size ≤ 100 := by omega
    simp [h, h']
  · have h' : ¬ s.size ≤ 100 := by omega
    simp [h, h']

theorem report (x : List ByteArray) : g12_0 x = g10_0 x := by
  unfold g12_0 g10_0 g16c17_0
  rw [any20c17]
  have hq : (!x.any g17_0) = x.all g14_0 := by
    rw [List.not_any_eq_all_not]
    congr 1
    funext b
    simp only [g17_0, reportLine, Bool.not_not]
  rw [hq]
  by_cases h : ((x.length : Nat) : Int) ≤ 200
  · have h' : x.length ≤ 200 := by omega
    simp [h, h']
  · have h' : ¬ x.length ≤ 200 := by omega
    simp [h, h']

end Go.Proofs.YtjkeinpcphkfbaaDoor

/- A law that says how functions of the program and of the specification hang together. -/
set_option linter.unusedVariables false
set_option linter.unusedSimpArgs false
set_option maxRecDepth 100000
namespace Go.Proofs.YtjkeinpcphkfbaaDoor
open Go Go.Am Go.Proofs

theorem read_report (x : ByteArray) (h : x.size ≤ 1048576) : P4 x ∧ P5 x ∧ g5_0 x = g4_0 x ∧ g5_1 x = g4_1 x ∧ (g4_0 x).length ≤ 1048576 := by
  obtain ⟨p1, p2, e, l1, l2⟩ := split_lines x h
  unfold P4 P5 g5_0 g4_0 g5_1 g4_1 P11 g11_0 g11_1
  rw [e]
  simp only [report]
  generalize g9_0 x 10 = L at *
  have i1 : InR .i64 ((L.length : Int) - 1) := by rw [i64_iff]; omega
  have i2 : (0 : Int) ≤ (L.length : Int) - 1 := by omega
  have i3 : (L.length : Int) - 1 < (L.length : Int) := by omega
  have i4 : (L.length : Int) - 1 ≤ ((L.length - 0 : Nat) : Int) := by omega
  have i5 : (0 + (List.drop 0 (List.take (0 + Int.toNat ((L.length : Int) - 1)) L)).length) * 16 ≤ 140737488355328 := by
    rw [List.length_drop, List.length_take]; omega
  have i6 : (List.drop 0 (List.take (0 + Int.toNat ((L.length : Int) - 1)) L)).length ≤ 1048576 := by
    rw [List.length_drop, List.length_take]; omega
  refine ⟨?_, ?_, ?_, ?_, ?_⟩
  · refine ⟨p1, i1, ⟨i2, i3, ?_⟩⟩
    split
    · trivial
    · refine ⟨i1, i2, i4, ?_⟩
      split
      · trivial
      · exact ⟨i1, i2, i4, i5, trivial⟩
  · exact ⟨⟨p2, i1, i2, i4, i2, i3, trivial⟩, trivial⟩
  · simp only [List.nil_append]
  · first | trivial | rfl | simp
  · split
    · exact Nat.zero_le _
    · split
      · exact Nat.zero_le _
      · rw [List.nil_append]; exact i6

end Go.Proofs.YtjkeinpcphkfbaaDoor

/- A law that says how functions of the program and of the specification hang together. -/
set_option linter.unusedVariables false
set_option linter.unusedSimpArgs false
set_option maxRecDepth 100000
namespace Go.Proofs.YtjkeinpcphkfbaaDoor
open Go Go.Am Go.Proofs

theorem marked_str (xs : List ByteArray) (h : xs.length ≤ 1048576) : P7 xs 1 ∧ (u7_0 xs 1).length = xs.length ∧ P8 (u7_0 xs 1) 1 ∧
    g8_0 (u7_0 xs 1) 1 = g7_0 xs 1 ∧ ¬ g7_0 xs 1 < 0 := by
  have hl : (u7_0 xs 1).length = xs.length := by rw [u7_0, M7_len]
  refine ⟨⟨by omega, by omega⟩, hl, ⟨⟨by omega, by rw [hl]; omega⟩, fun i hi => ?_⟩, ?_, ?_⟩
  · rw [hl] at hi
    rw [getD_lt _ _ _ (by rw [hl]; exact hi)]
    simp [u7_0, M7]
  · unfold g8_0 g7_0
    rw [hl]
  · unfold g7_0
    omega

end Go.Proofs.YtjkeinpcphkfbaaDoor

/- The plain law of FnExactReadReport. -/
set_option linter.unusedVariables false
set_option linter.unusedSimpArgs false
set_option maxRecDepth 100000
namespace Go.Proofs.YtjkeinpcphkfbaaDoor
open Go Go.Am Go.Proofs

theorem law3 (x : ByteArray) (hw : Wf .str x) : P3 x ∧ g3_0 x = true := by
  unfold P3 g3_0
  by_cases h : (x.size : Int) > 1048576
  · simp only [h, decide_true, if_true, and_self]
  · obtain ⟨p1, p2, e0, e1, hl⟩ := read_report x (by omega)
    obtain ⟨m1, m2, m3, m4, m5⟩ := marked_str (g4_0 x) hl
    simp only [h, decide_false, Bool.false_eq_true, if_false, e0, e1, p1, p2, g6_0, decide_true, Bool.not_true, bne_self_eq_false, beq_self_eq_true, Bool.not_beq_self, Bool.beq_not_self, m1, m2, m3, m4, m5, true_and, and_self]

end Go.Proofs.YtjkeinpcphkfbaaDoor
