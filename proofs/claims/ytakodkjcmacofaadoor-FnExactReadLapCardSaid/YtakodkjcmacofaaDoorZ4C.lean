/- Several texts in one: the functions that this law reaches, and their laws. -/
import Derived.Test.YtakodkjcmacofaaDoorZ4A
import Derived.Test.YtakodkjcmacofaaDoorZ4B
import Derived.Test.YtakodkjcmacofaaDoorRows
import Derived.KernelRfl
import Derived.Shelf.Vars
import Derived.Lib.TrimByte
import Derived.Shelf.Strings.Builder1
import Derived.Shelf.Strings.Builder2
import Derived.Shelf.Strings.OnBuilder
import Derived.Shelf.Strings.BuilderF
import Derived.Shelf.Strings.BuilderK
import Derived.Shelf.Utf8.RuneCount
import Derived.Shelf.Strconv.Itoa0
import Derived.Shelf.Strconv.Itoa1
import Derived.Shelf.LaysM
import Derived.Shelf.Strconv.Itoa2
import Derived.Shelf.Strconv.Itoa3
import Derived.Shelf.Strconv.Itoa4
import Derived.Shelf.Strings.Search1
import Derived.Shelf.Strings.Search2
import Derived.Shelf.Strings.Search3
import Derived.Shelf.Strings.Cut
import Derived.Shelf.Strings.Count
import Derived.Shelf.Strings.Shaped
import Derived.Shelf.Strings.Prefix
import Derived.Shelf.Strings.Split
import Derived.Shelf.Strings.SplitShaped
import Derived.Shelf.Unicode.Decode
import Derived.Shelf.Strings.RuneCount
import Derived.Shelf.Strings.Explode
import Derived.Shelf.Bits.Mul64
import Derived.Shelf.Strings.Repeat
import Derived.Shelf.Unicode.DecodeSlow
import Derived.Shelf.Unicode.DecodeAny
import Derived.Lib.ItoaNum

/- The types of this program, as the abstract machine reads them. -/
set_option linter.unusedVariables false
set_option linter.unusedSimpArgs false
set_option maxRecDepth 100000
namespace Go.Proofs.YtakodkjcmacofaaDoor
open Go Go.Am Go.Proofs
def tab : List TI := [TI.other,
  TI.other,
  TI.scal (Ty.int IntKind.i64),
  TI.scal (Ty.int IntKind.i64),
  TI.scal (Ty.bool),
  TI.scal (Ty.int IntKind.u8),
  TI.scal (Ty.int IntKind.u8),
  TI.struct (Ty.cons (Ty.int IntKind.i64) (Ty.cons (Ty.int IntKind.i64) (Ty.cons Ty.bool (Ty.cons (Ty.int IntKind.u8) Ty.unit)))),
  TI.struct (Ty.cons (Ty.int IntKind.i64) (Ty.cons (Ty.int IntKind.i64) (Ty.cons Ty.bool (Ty.cons (Ty.int IntKind.u8) Ty.unit)))),
  TI.scal (Ty.str),
  TI.scal (Ty.str),
  TI.scal (Ty.str),
  TI.scal (Ty.int IntKind.u64),
  TI.other,
  TI.other,
  TI.other,
  TI.other,
  TI.other,
  TI.other,
  TI.other,
  TI.other,
  TI.scal (Ty.int IntKind.i32),
  TI.other,
  TI.other,
  TI.other,
  TI.slice 73 (Ty.cons Ty.str (Ty.cons (Ty.int IntKind.i64) (Ty.cons (Ty.int IntKind.i64) (Ty.cons (Ty.int IntKind.i64) (Ty.cons (Ty.int IntKind.i64) Ty.unit))))) 48,
  TI.other,
  TI.slice 79 (Ty.cons Ty.str (Ty.cons Ty.str (Ty.cons Ty.str Ty.unit))) 48,
  TI.other,
  TI.other,
  TI.slice 75 (Ty.cons Ty.str (Ty.cons (Ty.int IntKind.i64) (Ty.cons (Ty.int IntKind.i64) (Ty.cons (Ty.int IntKind.i64) (Ty.cons (Ty.int IntKind.i64) Ty.unit))))) 48,
  TI.other,
  TI.other,
  TI.other,
  TI.other,
  TI.other,
  TI.other,
  TI.other,
  TI.other,
  TI.slice 89 (Ty.cons Ty.str (Ty.cons Ty.str (Ty.cons Ty.str Ty.unit))) 48,
  TI.other,
  TI.other,
  TI.other,
  TI.other,
  TI.other,
  TI.slice 5 (Ty.int IntKind.u8) 1,
  TI.other,
  TI.other,
  TI.other,
  TI.other,
  TI.other,
  TI.other,
  TI.other,
  TI.other,
  TI.other,
  TI.other,
  TI.other,
  TI.other,
  TI.other,
  TI.other,
  TI.slice 2 (Ty.int IntKind.i64) 8,
  TI.other,
  TI.other,
  TI.other,
  TI.other,
  TI.other,
  TI.other,
  TI.slice 9 (Ty.str) 16,
  TI.other,
  TI.other,
  TI.other,
  TI.other,
  TI.struct (Ty.cons Ty.str (Ty.cons (Ty.int IntKind.i64) (Ty.cons (Ty.int IntKind.i64) (Ty.cons (Ty.int IntKind.i64) (Ty.cons (Ty.int IntKind.i64) Ty.unit))))),
  TI.struct (Ty.cons Ty.str (Ty.cons (Ty.int IntKind.i64) (Ty.cons (Ty.int IntKind.i64) (Ty.cons (Ty.int IntKind.i64) (Ty.cons (Ty.int IntKind.i64) Ty.unit))))),
  TI.other,
  TI.struct (Ty.cons Ty.str (Ty.cons (Ty.int IntKind.i64) (Ty.cons (Ty.int IntKind.i64) (Ty.cons (Ty.int IntKind.i64) (Ty.cons (Ty.int IntKind.i64) Ty.unit))))),
  TI.other,
  TI.other,
  TI.struct (Ty.cons Ty.str (Ty.cons Ty.str (Ty.cons Ty.str Ty.unit))),
  TI.struct (Ty.cons Ty.str (Ty.cons Ty.str (Ty.cons Ty.str Ty.unit))),
  TI.other,
  TI.other,
  TI.other,
  TI.other,
  TI.other,
  TI.other,
  TI.other,
  TI.other,
  TI.other,
  TI.struct (Ty.cons Ty.str (Ty.cons Ty.str (Ty.cons Ty.str Ty.unit))),
  TI.other,
  TI.other,
  TI.other,
  TI.other,
  TI.other,
  TI.other,
  TI.other,
  TI.other,
  TI.other,
  TI.other,
  TI.other,
  TI.other,
  TI.other,
  TI.other,
  TI.other,
  TI.other,
  TI.other,
  TI.other,
  TI.other,
  TI.other,
  TI.other,
  TI.other,
  TI.other,
  TI.other,
  TI.other,
  TI.other,
  TI.other,
  TI.other,
  TI.other,
  TI.other,
  TI.other,
  TI.other,
  TI.other,
  TI.other,
  TI.other,
  TI.other,
  TI.other,
  TI.other,
  TI.other,
  TI.other,
  TI.other,
  TI.other,
  TI.other,
  TI.other,
  TI.scal (Ty.int IntKind.u64),
  TI.struct (Ty.cons (Ty.sl (Ty.int IntKind.u8)) (Ty.cons (Ty.int IntKind.i64) (Ty.cons (Ty.int IntKind.u64) Ty.unit))),
  TI.struct (Ty.cons (Ty.sl (Ty.int IntKind.u8)) (Ty.cons (Ty.int IntKind.i64) (Ty.cons (Ty.int IntKind.u64) Ty.unit))),
  TI.other,
  TI.other,
  TI.other,
  TI.other,
  TI.other,
  TI.other,
  TI.other,
  TI.other,
  TI.scal (Ty.int IntKind.u64),
  TI.other,
  TI.other,
  TI.other,
  TI.other,
  TI.other,
  TI.other,
  TI.other,
  TI.other,
  TI.other,
  TI.other,
  TI.slice 3 (Ty.int IntKind.i64) 8,
  TI.other,
  TI.other,
  TI.other,
  TI.other,
  TI.other,
  TI.scal (Ty.int IntKind.u32),
  TI.other,
  TI.other,
  TI.other,
  TI.other,
  TI.other,
  TI.other,
  TI.other,
  TI.other,
  TI.other,
  TI.other,
  TI.other,
  TI.other,
  TI.struct (Ty.cons (Ty.int IntKind.u8) (Ty.cons (Ty.int IntKind.u8) Ty.unit)),
  TI.struct (Ty.cons (Ty.int IntKind.u8) (Ty.cons (Ty.int IntKind.u8) Ty.unit)),
  TI.other,
  TI.other,
  TI.other,
  TI.other,
  TI.other,
  TI.other,
  TI.other,
  TI.other,
  TI.other,
  TI.scal (Ty.int IntKind.u8),
  TI.scal (Ty.int IntKind.u8),
  TI.other,
  TI.scal (Ty.int IntKind.i32),
  TI.scal (Ty.int IntKind.i32)]

theorem tabOk : TabOk Tryd.prog tab := tabOk_of_check (by kernel_rfl)
theorem mixed : Tryd.prog.follows .mixedOrders = true := by kernel_rfl
theorem gv0 {W : World} (h : GInv W) : GHas W 0 (.int .i64) := h.1
theorem gcell0 (W : World) (h : W.ShapedOpen Tryd.prog) : ∃ m, W.cell? ⟨0, 0, none⟩ = some (.int .i64 m) :=
  Go.Proofs.cell_of_shapedOpen_int (zero := #[.int .i64 0]) (t := 3) h (of_decide_eq_true (by kernel_rfl)) (by kernel_rfl) rfl (by kernel_rfl) (by kernel_rfl) Tryd.underlying3
theorem gv1 {W : World} (h : GInv W) : GHas W 1 (.tab .u64 Lib.pow10Tab) := h.2.1
theorem maxLenG {W : World} (h : GInv W) : ∃ m, W.cell? ⟨0, 0, none⟩ = some (.int .i64 m) := gv0 h
theorem pow10G {W : World} (h : GInv W) : Lib.TabIs Tryd.prog W "internal/strconv.uint64pow10" .u64 Lib.pow10Tab := GHas.tab (by kernel_rfl) (gv1 h)
theorem ginv (W : World) (h : W.ShapedOpen Tryd.prog) (h1 : GHas W 1 (.tab .u64 Lib.pow10Tab)) : GInv W := ⟨gcell0 W h, h1, trivial⟩
end Go.Proofs.YtakodkjcmacofaaDoor

/- Function 66 (spec.l01Split): its runs between cut points. Written by a program of this repo (gen). -/
set_option linter.unusedVariables false
set_option linter.unusedSimpArgs false
set_option maxRecDepth 100000
namespace Go.Proofs.YtakodkjcmacofaaDoor
open Go Go.Am Go.Proofs
def ext66 : Ext := []
theorem ext66Ok : ExtOk Tryd.prog ext66 := trivial
/-! Function 66. -/
noncomputable def b66 : Code := bodyOf Tryd.f66
theorem hb66 : Tryd.f66.body = some b66 := by kernel_rfl
def sig66 : List AT := [AT.v (Ty.str), AT.v (Ty.int IntKind.u8)]
def tys66 : List Ty := [Ty.sl Ty.str]
def E66_4 (v6 : Int) (v7 : Int) (h0 : List ByteArray) (x0 : ByteArray) (x1 : Int) : Env := [(0, PV.a (Atom.val (Value.string x0))), (1, PV.a (Atom.val (Value.int IntKind.u8 x1))), (5, PV.a (Atom.osl 0 Option.none)), (6, PV.a (Atom.val (Value.int IntKind.i64 v6))), (7, PV.a (Atom.val (Value.int IntKind.i64 v7)))]
def L66_4 (v6 : Int) (v7 : Int) (h0 : List ByteArray) (x0 : ByteArray) (x1 : Int) : Heap := [Option.some (Arr.mk Ty.str h0 Bool.false)]
mutual
def R66 : Nat → ByteArray → Int → List Dyn → Prop
  | 0, _, _, _ => False
  | n + 1, x0, x1, ds => (R66_4 n (0) (0) ([]) (x0) (x1) ds)
def R66_4 : Nat → Int → Int → List ByteArray → ByteArray → Int → List Dyn → Prop
  | 0, _, _, _, _, _, _ => False
  | n + 1, v6, v7, h0, x0, x1, ds => (if (Decidable.decide (v7 < (↑(ByteArray.size x0) : Int))) = true then ((0 ≤ v7) ∧ (v7 < (↑(ByteArray.size x0) : Int)) ∧ (if ((↑(UInt8.toNat (List.getD (Array.toList (ByteArray.data x0)) (Int.toNat v7) 0)) : Int) == x1) = true then ((0 ≤ v6) ∧ (v6 ≤ v7) ∧ (v7 ≤ (↑(ByteArray.size x0) : Int)) ∧ (((List.length h0 + 1) * 16 ≤ 140737488355328) ∧ ((InR IntKind.i64 (v7 + 1)) ∧ ((InR IntKind.i64 (v7 + 1)) ∧ (R66_4 n (v7 + 1) (v7 + 1) (h0 ++ [ByteArray.extract x0 (Int.toNat v6) (Int.toNat v7)]) (x0) (x1) ds))))) else ((InR IntKind.i64 (v7 + 1)) ∧ (R66_4 n (v6) (v7 + 1) (h0) (x0) (x1) ds)))) else ((0 ≤ v6) ∧ (v6 ≤ (↑(ByteArray.size x0) : Int)) ∧ (((List.length h0 + 1) * 16 ≤ 140737488355328) ∧ (ds = [Dyn.mk (Ty.sl Ty.str) (h0 ++ [ByteArray.extract x0 (Int.toNat v6) (Int.toNat (↑(ByteArray.size x0) : Int))])]))))
end
theorem p66_0 (x0 : ByteArray) (x1 : Int) : Am.runN tab ext66 false 35 [] 2000 [] [] [0, 1, 5, 6, 7] [0] [] [.code b66] (entE 0 0 sig66 (x0, x1, ())) (entL sig66 (x0, x1, ())) = some (cutAt b66 4, E66_4 (0) (0) ([]) (x0) (x1), L66_4 (0) (0) ([]) (x0) (x1), []) := by kernel_rfl
theorem p66_1 (v6 : Int) (v7 : Int) (h0 : List ByteArray) (x0 : ByteArray) (x1 : Int) : Am.runN tab ext66 false 35 [] 2000 [] [] [0, 1, 5, 6, 7] [0] [true, true] (cutAt b66 4) (E66_4 v6 v7 h0 x0 x1) (L66_4 v6 v7 h0 x0 x1) = some (cutAt b66 4, E66_4 (v7 + 1) (v7 + 1) (h0 ++ [ByteArray.extract x0 (Int.toNat v6) (Int.toNat v7)]) (x0) (x1), L66_4 (v7 + 1) (v7 + 1) (h0 ++ [ByteArray.extract x0 (Int.toNat v6) (Int.toNat v7)]) (x0) (x1), [Decidable.decide (v7 < (↑(ByteArray.size x0) : Int)) = Bool.true, 0 ≤ v7, v7 < (↑(ByteArray.size x0) : Int), ((↑(UInt8.toNat (List.getD (Array.toList (ByteArray.data x0)) (Int.toNat v7) 0)) : Int) == x1) = Bool.true, 0 ≤ v6, v6 ≤ v7, v7 ≤ (↑(ByteArray.size x0) : Int), (List.length h0 + 1) * 16 ≤ 140737488355328, InR IntKind.i64 (v7 + 1), InR IntKind.i64 (v7 + 1)]) := by kernel_rfl
theorem p66_2 (v6 : Int) (v7 : Int) (h0 : List ByteArray) (x0 : ByteArray) (x1 : Int) : Am.runN tab ext66 false 35 [] 2000 [] [] [0, 1, 5, 6, 7] [0] [true, false] (cutAt b66 4) (E66_4 v6 v7 h0 x0 x1) (L66_4 v6 v7 h0 x0 x1) = some (cutAt b66 4, E66_4 (v6) (v7 + 1) (h0) (x0) (x1), L66_4 (v6) (v7 + 1) (h0) (x0) (x1), [Decidable.decide (v7 < (↑(ByteArray.size x0) : Int)) = Bool.true, 0 ≤ v7, v7 < (↑(ByteArray.size x0) : Int), ((↑(UInt8.toNat (List.getD (Array.toList (ByteArray.data x0)) (Int.toNat v7) 0)) : Int) == x1) = Bool.false, InR IntKind.i64 (v7 + 1)]) := by kernel_rfl
theorem p66_3 (v6 : Int) (v7 : Int) (h0 : List ByteArray) (x0 : ByteArray) (x1 : Int) : runF tab ext66 false 35 [] 2000 [] tys66 Tryd.f66.results [false] (cutAt b66 4) (E66_4 v6 v7 h0 x0 x1) (L66_4 v6 v7 h0 x0 x1) = some ([Dyn.mk (Ty.sl Ty.str) (h0 ++ [ByteArray.extract x0 (Int.toNat v6) (Int.toNat (↑(ByteArray.size x0) : Int))])], [], [Decidable.decide (v7 < (↑(ByteArray.size x0) : Int)) = Bool.false, 0 ≤ v6, v6 ≤ (↑(ByteArray.size x0) : Int), (List.length h0 + 1) * 16 ≤ 140737488355328]) := by kernel_rfl
theorem snd66 : ∀ n, (∀ (x0 : ByteArray) (x1 : Int) ds, R66 n x0 x1 ds → ∀ w0 O q, AtV Tryd.prog 66 (PostR ds [] [] q w0 O) 35 w0 O q [] [.code b66] (entE 0 0 sig66 (x0, x1, ())) (entL sig66 (x0, x1, ()))) ∧ (∀ (v6 : Int) (v7 : Int) (h0 : List ByteArray) (x0 : ByteArray) (x1 : Int) ds, R66_4 n v6 v7 h0 x0 x1 ds → ∀ w0 O q, AtV Tryd.prog 66 (PostR ds [] [] q w0 O) 35 w0 O q [] (cutAt b66 4) (E66_4 v6 v7 h0 x0 x1) (L66_4 v6 v7 h0 x0 x1)) := by
  intro n
  induction n with
  | zero => exact ⟨fun _ _ _ h => by simp only [R66] at h, fun _ _ _ _ _ _ h => by simp only [R66_4] at h⟩
  | succ n ih =>
  obtain ⟨ih, ih4⟩ := ih
  refine ⟨?_, ?_⟩
  · intro x0 x1 ds h w0 O q
    rw [R66] at h
    exact AtV.runN tabOk ext66Ok mixed (p66_0 x0 x1) trivial (ih4 _ _ _ _ _ _ h w0 O q)

  · intro v6 v7 h0 x0 x1 ds h w0 O q
    rw [R66_4] at h
    by_cases b0 : (Decidable.decide (v7 < (↑(ByteArray.size x0) : Int))) = true
    · rw [if_pos b0] at h
      obtain ⟨s0, s1, h⟩ := h
      by_cases b1 : ((↑(UInt8.toNat (List.getD (Array.toList (ByteArray.data x0)) (Int.toNat v7) 0)) : Int) == x1) = true
      · rw [if_pos b1] at h
        obtain ⟨s2, s3, s4, h⟩ := h
        obtain ⟨s5, h⟩ := h
        obtain ⟨s6, h⟩ := h
        obtain ⟨s7, h⟩ := h
        exact AtV.runN tabOk ext66Ok mixed (p66_1 v6 v7 h0 x0 x1) ⟨b0, s0, s1, b1, s2, s3, s4, s5, s6, s7, trivial⟩ (ih4 _ _ _ _ _ _ h w0 O q)
      · rw [if_neg b1] at h
        replace b1 := Bool.eq_false_iff.2 b1
        obtain ⟨s2, h⟩ := h
        exact AtV.runN tabOk ext66Ok mixed (p66_2 v6 v7 h0 x0 x1) ⟨b0, s0, s1, b1, s2, trivial⟩ (ih4 _ _ _ _ _ _ h w0 O q)
    · rw [if_neg b0] at h
      replace b0 := Bool.eq_false_iff.2 b0
      obtain ⟨s0, s1, h⟩ := h
      obtain ⟨s2, h⟩ := h
      subst h
      exact AtV.fin Tryd.func66 tabOk ext66Ok mixed (p66_3 v6 v7 h0 x0 x1) ⟨b0, s0, s1, s2, trivial⟩



def c66 (x1 : Int) : UInt8 := UInt8.ofNat x1.toNat
def g66_0 (x0 : ByteArray) (x1 : Int) : List ByteArray := bss (splitC (c66 x1) x0.data.toList)
def P66 (x0 : ByteArray) (x1 : Int) : Prop := x0.size < 4294967281 ∧ 0 ≤ x1 ∧ x1 ≤ 255

theorem run66 (x0 : ByteArray) (x1 : Int) (hs : x0.size < 4294967281) (h0 : 0 ≤ x1) (h1 : x1 ≤ 255) : ∀ (k i frm : Nat) (h : List ByteArray), i + k = x0.size → frm ≤ i → c66 x1 ∉ (x0.data.toList.drop frm).take (i - frm) → h.length ≤ i →
    R66_4 (k + 1) (frm : Int) (i : Int) h x0 x1 [⟨.sl .str, h ++ bss (splitC (c66 x1) (x0.data.toList.drop frm))⟩] := by
  intro k
  have hll : x0.data.toList.length = x0.size := rfl
  induction k with
  | zero =>
    intro i frm h hi hf hc hl
    rw [R66_4, if_neg (by simp; omega)]
    refine ⟨by omega, by omega, by omega, ?_⟩
    have e : (x0.data.toList.drop frm).take (i - frm) = x0.data.toList.drop frm := List.take_of_length_le (by rw [List.length_drop]; omega)
    rw [e] at hc
    rw [splitC_free _ hc, Int.toNat_natCast, Int.toNat_natCast, Lib.extract_from]
    rfl
  | succ k ih =>
    intro i frm h hi hf hc hl
    have hup : InR .i64 ((i : Int) + 1) := by rw [i64_iff]; omega
    have hlt : i < x0.data.toList.length := by rw [hll]; omega
    have hcons : x0.data.toList.drop i = x0.data.toList.getD i 0 :: x0.data.toList.drop (i + 1) := drop_get _ i 0 hlt
    have hsplit : x0.data.toList.drop frm = (x0.data.toList.drop frm).take (i - frm) ++ x0.data.toList.drop i := by
      conv => lhs; rw [← List.take_append_drop (i - frm) (x0.data.toList.drop frm)]
      rw [List.drop_drop, show frm + (i - frm) = i by omega]
    rw [R66_4, if_pos (by simp; omega)]
    simp only [Int.toNat_natCast]
    refine ⟨by omega, by omega, ?_⟩
    have hb : (((x0.data.toList.getD i 0).toNat : Int) == x1) = true ↔ x0.data.toList.getD i 0 = c66 x1 := by
      have hlt' := (x0.data.toList.getD i 0).toNat_lt
      rw [beq_iff_eq, ← UInt8.toNat_inj]
      unfold c66
      have : (UInt8.ofNat x1.toNat).toNat = x1.toNat := by rw [UInt8.toNat_ofNat']; omega
      rw [this]
      omega
    by_cases he : x0.data.toList.getD i 0 = c66 x1
    · rw [if_pos (hb.2 he)]
      refine ⟨by omega, by omega, by omega, by omega, hup, hup, ?_⟩
      have := ih (i + 1) (i + 1) (h ++ [x0.extract frm i]) (by omega) (Nat.le_refl _) (by simp) (by simp; omega)
      have e2 : x0.extract frm i = ⟨((x0.data.toList.drop frm).take (i - frm)).toArray⟩ := Lib.extract_mk x0.data.toList frm i
      have e3 : splitC (c66 x1) (x0.data.toList.drop frm) = (x0.data.toList.drop frm).take (i - frm) :: splitC (c66 x1) (x0.data.toList.drop (i + 1)) := by
        conv => lhs; rw [hsplit, hcons, he]
        exact splitC_hit _ _ hc
      rw [e3, e2]
      rw [List.append_assoc, e2] at this
      exact this
    · rw [if_neg (fun hh => he (hb.1 hh))]
      refine ⟨hup, ?_⟩
      refine ih (i + 1) frm h (by omega) (by omega) (fun hm => ?_) (by omega)
      have e4 : (x0.data.toList.drop frm).take (i + 1 - frm) = (x0.data.toList.drop frm).take (i - frm) ++ [x0.data.toList.getD i 0] := by
        conv => lhs; rw [hsplit, hcons]
        rw [List.take_append, List.take_of_length_le (by rw [List.length_take, List.length_drop]; omega)]
        have : i + 1 - frm - ((x0.data.toList.drop frm).take (i - frm)).length = 1 := by rw [List.length_take, List.length_drop]; omega
        rw [this]
        rfl
      rw [e4] at hm
      rcases List.mem_append.1 hm with hm | hm
      · exact hc hm
      · exact he (List.mem_singleton.1 hm).symm

theorem top66 (x0 : ByteArray) (x1 : Int) (h : P66 x0 x1) : R66 (x0.size + 1 + 1) x0 x1 [⟨.sl .str, g66_0 x0 x1⟩] := by
  rw [R66]
  have := run66 x0 x1 h.1 h.2.1 h.2.2 x0.size 0 0 [] (by omega) (Nat.le_refl _) (by simp) (by simp)
  simpa [g66_0] using this

def S66 : Am.Spec := { sig := sig66, pre := fun ⟨x0, x1, _⟩ => P66 x0 x1, res := fun ⟨x0, x1, _⟩ => [⟨.sl .str, g66_0 x0 x1⟩] }
theorem con66 : Contract Tryd.prog 66 S66 := contract_of Tryd.func66 hb66 (Nat.le_of_ble_eq_true (by kernel_rfl)) (fun ⟨x0, x1, _⟩ h hwf w0 O q =>
  (snd66 _).1 x0 x1 _ (top66 x0 x1 h) w0 O q)

end Go.Proofs.YtakodkjcmacofaaDoor

/- Function 67 (spec.l01Digit): its runs between cut points. Written by a program of this repo (gen). -/
set_option linter.unusedVariables false
set_option linter.unusedSimpArgs false
set_option maxRecDepth 100000
namespace Go.Proofs.YtakodkjcmacofaaDoor
open Go Go.Am Go.Proofs
def ext67 : Ext := []
theorem ext67Ok : ExtOk Tryd.prog ext67 := trivial
/-! Function 67. -/
noncomputable def b67 : Code := bodyOf Tryd.f67
theorem hb67 : Tryd.f67.body = some b67 := by kernel_rfl
def sig67 : List AT := [AT.v (Ty.int IntKind.u8)]
def tys67 : List Ty := [Ty.bool]
def P67 (x0 : Int) : Prop := True
def g67_0 (x0 : Int) : Bool := (if (Decidable.decide (x0 ≥ 48)) = true then Decidable.decide (x0 ≤ 57) else Bool.false)
theorem p67_0 (x0 : Int) : runF tab ext67 false 9 [] 2000 [] tys67 Tryd.f67.results [true] [.code b67] (entE 0 0 sig67 (x0, ())) (entL sig67 (x0, ())) = some ([Dyn.mk Ty.bool (Decidable.decide (x0 ≤ 57))], [], [Decidable.decide (x0 ≥ 48) = Bool.true]) := by kernel_rfl
theorem p67_1 (x0 : Int) : runF tab ext67 false 9 [] 2000 [] tys67 Tryd.f67.results [false] [.code b67] (entE 0 0 sig67 (x0, ())) (entL sig67 (x0, ())) = some ([Dyn.mk Ty.bool Bool.false], [], [Decidable.decide (x0 ≥ 48) = Bool.false]) := by kernel_rfl
theorem at67 (x0 : Int) (h : P67 x0) (w0 : World) (O : List Nat) (q : Nat → Value) : AtV Tryd.prog 67 (PostR [⟨Ty.bool, g67_0 x0⟩] [] [] q w0 O) 9 w0 O q [] [.code b67] (entE 0 0 sig67 (x0, ())) (entL sig67 (x0, ())) := by
  unfold P67 at h
  unfold g67_0
  by_cases b0 : (Decidable.decide (x0 ≥ 48)) = true
  · try simp only [if_pos b0] at h ⊢
    exact AtV.fin Tryd.func67 tabOk ext67Ok mixed (p67_0 x0) ⟨b0, trivial⟩
  · try simp only [if_neg b0] at h ⊢
    replace b0 := Bool.eq_false_iff.2 b0
    exact AtV.fin Tryd.func67 tabOk ext67Ok mixed (p67_1 x0) ⟨b0, trivial⟩

def S67 : Am.Spec := { sig := sig67, pre := fun ⟨x0, _⟩ => P67 x0, res := fun ⟨x0, _⟩ => [⟨Ty.bool, g67_0 x0⟩] }
theorem con67 : Contract Tryd.prog 67 S67 := contract_of Tryd.func67 hb67 (Nat.le_of_ble_eq_true (by kernel_rfl)) (fun ⟨x0, _⟩ h _ w0 O q => at67 x0 h w0 O q)


end Go.Proofs.YtakodkjcmacofaaDoor

/- Function 68 (spec.l01Number): its runs between cut points. Written by a program of this repo (gen). -/
set_option linter.unusedVariables false
set_option linter.unusedSimpArgs false
set_option maxRecDepth 100000
namespace Go.Proofs.YtakodkjcmacofaaDoor
open Go Go.Am Go.Proofs
def ext68 : Ext := [(67, S67)]
theorem call68_67 : Callable Tryd.prog 67 := ⟨Tryd.f67, Tryd.func67, by kernel_rfl, by kernel_rfl⟩
theorem ext68Ok : ExtOk Tryd.prog ext68 := ⟨⟨call68_67, con67⟩, trivial⟩
/-! Function 68. -/
noncomputable def b68 : Code := bodyOf Tryd.f68
theorem hb68 : Tryd.f68.body = some b68 := by kernel_rfl
def sig68 : List AT := [AT.v (Ty.str)]
def tys68 : List Ty := [Ty.int IntKind.i64, Ty.bool]
def E68_8 (v4 : Int) (v5 : Int) (v6 : Int) (x0 : ByteArray) : Env := [(0, PV.a (Atom.val (Value.string x0))), (4, PV.a (Atom.val (Value.int IntKind.i64 v4))), (5, PV.a (Atom.val (Value.int IntKind.i64 v5))), (6, PV.a (Atom.val (Value.int IntKind.i64 v6)))]
def L68_8 (v4 : Int) (v5 : Int) (v6 : Int) (x0 : ByteArray) : Heap := []
mutual
def R68 : Nat → ByteArray → List Dyn → Prop
  | 0, _, _ => False
  | n + 1, x0, ds => (if (Decidable.decide ((↑(ByteArray.size x0) : Int) > 0)) = true then ((0 < (↑(ByteArray.size x0) : Int)) ∧ (if ((↑(UInt8.toNat (List.getD (Array.toList (ByteArray.data x0)) 0 0)) : Int) == 45) = true then (if ((↑(ByteArray.size x0) : Int) == 1) = true then (ds = [Dyn.mk (Ty.int IntKind.i64) 0, Dyn.mk Ty.bool Bool.false]) else ((InR IntKind.i64 ((↑(ByteArray.size x0) : Int) - 1)) ∧ (if (Decidable.decide ((↑(ByteArray.size x0) : Int) - 1 > 18)) = true then (ds = [Dyn.mk (Ty.int IntKind.i64) 0, Dyn.mk Ty.bool Bool.false]) else ((1 < (↑(ByteArray.size x0) : Int)) ∧ (if ((↑(UInt8.toNat (List.getD (Array.toList (ByteArray.data x0)) 1 0)) : Int) == 48) = true then (if (Decidable.decide ((↑(ByteArray.size x0) : Int) > 1)) = true then (ds = [Dyn.mk (Ty.int IntKind.i64) 0, Dyn.mk Ty.bool Bool.false]) else (R68_8 n (1) (0) (1) (x0) ds)) else (R68_8 n (1) (0) (1) (x0) ds)))))) else (if ((↑(ByteArray.size x0) : Int) == 0) = true then (ds = [Dyn.mk (Ty.int IntKind.i64) 0, Dyn.mk Ty.bool Bool.false]) else ((InR IntKind.i64 ((↑(ByteArray.size x0) : Int) - 0)) ∧ (if (Decidable.decide ((↑(ByteArray.size x0) : Int) - 0 > 18)) = true then (ds = [Dyn.mk (Ty.int IntKind.i64) 0, Dyn.mk Ty.bool Bool.false]) else ((0 < (↑(ByteArray.size x0) : Int)) ∧ (if ((↑(UInt8.toNat (List.getD (Array.toList (ByteArray.data x0)) 0 0)) : Int) == 48) = true then (if (Decidable.decide ((↑(ByteArray.size x0) : Int) > 1)) = true then (ds = [Dyn.mk (Ty.int IntKind.i64) 0, Dyn.mk Ty.bool Bool.false]) else (R68_8 n (0) (0) (0) (x0) ds)) else (R68_8 n (0) (0) (0) (x0) ds)))))))) else (if ((↑(ByteArray.size x0) : Int) == 0) = true then (ds = [Dyn.mk (Ty.int IntKind.i64) 0, Dyn.mk Ty.bool Bool.false]) else ((InR IntKind.i64 ((↑(ByteArray.size x0) : Int) - 0)) ∧ (if (Decidable.decide ((↑(ByteArray.size x0) : Int) - 0 > 18)) = true then (ds = [Dyn.mk (Ty.int IntKind.i64) 0, Dyn.mk Ty.bool Bool.false]) else ((0 < (↑(ByteArray.size x0) : Int)) ∧ (if ((↑(UInt8.toNat (List.getD (Array.toList (ByteArray.data x0)) 0 0)) : Int) == 48) = true then (if (Decidable.decide ((↑(ByteArray.size x0) : Int) > 1)) = true then (ds = [Dyn.mk (Ty.int IntKind.i64) 0, Dyn.mk Ty.bool Bool.false]) else (R68_8 n (0) (0) (0) (x0) ds)) else (R68_8 n (0) (0) (0) (x0) ds)))))))
def R68_8 : Nat → Int → Int → Int → ByteArray → List Dyn → Prop
  | 0, _, _, _, _, _ => False
  | n + 1, v4, v5, v6, x0, ds => (if (Decidable.decide (v6 < (↑(ByteArray.size x0) : Int))) = true then ((0 ≤ v6) ∧ (v6 < (↑(ByteArray.size x0) : Int)) ∧ (if (!g67_0 (↑(UInt8.toNat (List.getD (Array.toList (ByteArray.data x0)) (Int.toNat v6) 0)) : Int)) = true then (ds = [Dyn.mk (Ty.int IntKind.i64) 0, Dyn.mk Ty.bool Bool.false]) else ((InR IntKind.i64 (10 * v5)) ∧ ((0 ≤ v6) ∧ (v6 < (↑(ByteArray.size x0) : Int)) ∧ ((InR IntKind.u8 ((↑(UInt8.toNat (List.getD (Array.toList (ByteArray.data x0)) (Int.toNat v6) 0)) : Int) - 48)) ∧ ((InR IntKind.i64 ((↑(UInt8.toNat (List.getD (Array.toList (ByteArray.data x0)) (Int.toNat v6) 0)) : Int) - 48)) ∧ ((InR IntKind.i64 (10 * v5 + ((↑(UInt8.toNat (List.getD (Array.toList (ByteArray.data x0)) (Int.toNat v6) 0)) : Int) - 48))) ∧ ((InR IntKind.i64 (v6 + 1)) ∧ (R68_8 n (v4) (10 * v5 + ((↑(UInt8.toNat (List.getD (Array.toList (ByteArray.data x0)) (Int.toNat v6) 0)) : Int) - 48)) (v6 + 1) (x0) ds))))))))) else (if (v4 == 1) = true then ((InR IntKind.i64 (0 - v5)) ∧ (ds = [Dyn.mk (Ty.int IntKind.i64) (0 - v5), Dyn.mk Ty.bool Bool.true])) else (ds = [Dyn.mk (Ty.int IntKind.i64) v5, Dyn.mk Ty.bool Bool.true])))
end
theorem p68_0 (x0 : ByteArray) : runF tab ext68 false 62 [] 2000 [] tys68 Tryd.f68.results [true, true, true, true, true] [.code b68] (entE 0 0 sig68 (x0, ())) (entL sig68 (x0, ())) = some ([Dyn.mk (Ty.int IntKind.i64) 0, Dyn.mk Ty.bool Bool.false], [], [Decidable.decide ((↑(ByteArray.size x0) : Int) > 0) = Bool.true, (0 : Int) ≤ (0 : Int), 0 < (↑(ByteArray.size x0) : Int), ((↑(UInt8.toNat (List.getD (Array.toList (ByteArray.data x0)) 0 0)) : Int) == 45) = Bool.true, ((↑(ByteArray.size x0) : Int) == 1) = Bool.true, Bool.true = Bool.true, Bool.true = Bool.true]) := by kernel_rfl
theorem p68_1 (x0 : ByteArray) : runF tab ext68 false 62 [] 2000 [] tys68 Tryd.f68.results [true, true, false, true, true] [.code b68] (entE 0 0 sig68 (x0, ())) (entL sig68 (x0, ())) = some ([Dyn.mk (Ty.int IntKind.i64) 0, Dyn.mk Ty.bool Bool.false], [], [Decidable.decide ((↑(ByteArray.size x0) : Int) > 0) = Bool.true, (0 : Int) ≤ (0 : Int), 0 < (↑(ByteArray.size x0) : Int), ((↑(UInt8.toNat (List.getD (Array.toList (ByteArray.data x0)) 0 0)) : Int) == 45) = Bool.true, ((↑(ByteArray.size x0) : Int) == 1) = Bool.false, InR IntKind.i64 ((↑(ByteArray.size x0) : Int) - 1), Decidable.decide ((↑(ByteArray.size x0) : Int) - 1 > 18) = Bool.true, Bool.true = Bool.true]) := by kernel_rfl
theorem p68_2 (x0 : ByteArray) : runF tab ext68 false 62 [] 2000 [] tys68 Tryd.f68.results [true, true, false, false, true, true] [.code b68] (entE 0 0 sig68 (x0, ())) (entL sig68 (x0, ())) = some ([Dyn.mk (Ty.int IntKind.i64) 0, Dyn.mk Ty.bool Bool.false], [], [Decidable.decide ((↑(ByteArray.size x0) : Int) > 0) = Bool.true, (0 : Int) ≤ (0 : Int), 0 < (↑(ByteArray.size x0) : Int), ((↑(UInt8.toNat (List.getD (Array.toList (ByteArray.data x0)) 0 0)) : Int) == 45) = Bool.true, ((↑(ByteArray.size x0) : Int) == 1) = Bool.false, InR IntKind.i64 ((↑(ByteArray.size x0) : Int) - 1), Decidable.decide ((↑(ByteArray.size x0) : Int) - 1 > 18) = Bool.false, (0 : Int) ≤ (1 : Int), 1 < (↑(ByteArray.size x0) : Int), ((↑(UInt8.toNat (List.getD (Array.toList (ByteArray.data x0)) 1 0)) : Int) == 48) = Bool.true, Decidable.decide ((↑(ByteArray.size x0) : Int) > 1) = Bool.true]) := by kernel_rfl
theorem p68_3 (x0 : ByteArray) : Am.runN tab ext68 false 62 [] 2000 [] [] [0, 4, 5, 6] [] [true, true, false, false, true, false] [.code b68] (entE 0 0 sig68 (x0, ())) (entL sig68 (x0, ())) = some (cutAt b68 8, E68_8 (1) (0) (1) (x0), L68_8 (1) (0) (1) (x0), [Decidable.decide ((↑(ByteArray.size x0) : Int) > 0) = Bool.true, (0 : Int) ≤ (0 : Int), 0 < (↑(ByteArray.size x0) : Int), ((↑(UInt8.toNat (List.getD (Array.toList (ByteArray.data x0)) 0 0)) : Int) == 45) = Bool.true, ((↑(ByteArray.size x0) : Int) == 1) = Bool.false, InR IntKind.i64 ((↑(ByteArray.size x0) : Int) - 1), Decidable.decide ((↑(ByteArray.size x0) : Int) - 1 > 18) = Bool.false, (0 : Int) ≤ (1 : Int), 1 < (↑(ByteArray.size x0) : Int), ((↑(UInt8.toNat (List.getD (Array.toList (ByteArray.data x0)) 1 0)) : Int) == 48) = Bool.true, Decidable.decide ((↑(ByteArray.size x0) : Int) > 1) = Bool.false]) := by kernel_rfl
theorem p68_4 (x0 : ByteArray) : Am.runN tab ext68 false 62 [] 2000 [] [] [0, 4, 5, 6] [] [true, true, false, false, false, false] [.code b68] (entE 0 0 sig68 (x0, ())) (entL sig68 (x0, ())) = some (cutAt b68 8, E68_8 (1) (0) (1) (x0), L68_8 (1) (0) (1) (x0), [Decidable.decide ((↑(ByteArray.size x0) : Int) > 0) = Bool.true, (0 : Int) ≤ (0 : Int), 0 < (↑(ByteArray.size x0) : Int), ((↑(UInt8.toNat (List.getD (Array.toList (ByteArray.data x0)) 0 0)) : Int) == 45) = Bool.true, ((↑(ByteArray.size x0) : Int) == 1) = Bool.false, InR IntKind.i64 ((↑(ByteArray.size x0) : Int) - 1), Decidable.decide ((↑(ByteArray.size x0) : Int) - 1 > 18) = Bool.false, (0 : Int) ≤ (1 : Int), 1 < (↑(ByteArray.size x0) : Int), ((↑(UInt8.toNat (List.getD (Array.toList (ByteArray.data x0)) 1 0)) : Int) == 48) = Bool.false, Bool.false = Bool.false]) := by kernel_rfl
theorem p68_5 (x0 : ByteArray) : runF tab ext68 false 62 [] 2000 [] tys68 Tryd.f68.results [true, false, true, true, true] [.code b68] (entE 0 0 sig68 (x0, ())) (entL sig68 (x0, ())) = some ([Dyn.mk (Ty.int IntKind.i64) 0, Dyn.mk Ty.bool Bool.false], [], [Decidable.decide ((↑(ByteArray.size x0) : Int) > 0) = Bool.true, (0 : Int) ≤ (0 : Int), 0 < (↑(ByteArray.size x0) : Int), ((↑(UInt8.toNat (List.getD (Array.toList (ByteArray.data x0)) 0 0)) : Int) == 45) = Bool.false, ((↑(ByteArray.size x0) : Int) == 0) = Bool.true, Bool.true = Bool.true, Bool.true = Bool.true]) := by kernel_rfl
theorem p68_6 (x0 : ByteArray) : runF tab ext68 false 62 [] 2000 [] tys68 Tryd.f68.results [true, false, false, true, true] [.code b68] (entE 0 0 sig68 (x0, ())) (entL sig68 (x0, ())) = some ([Dyn.mk (Ty.int IntKind.i64) 0, Dyn.mk Ty.bool Bool.false], [], [Decidable.decide ((↑(ByteArray.size x0) : Int) > 0) = Bool.true, (0 : Int) ≤ (0 : Int), 0 < (↑(ByteArray.size x0) : Int), ((↑(UInt8.toNat (List.getD (Array.toList (ByteArray.data x0)) 0 0)) : Int) == 45) = Bool.false, ((↑(ByteArray.size x0) : Int) == 0) = Bool.false, InR IntKind.i64 ((↑(ByteArray.size x0) : Int) - 0), Decidable.decide ((↑(ByteArray.size x0) : Int) - 0 > 18) = Bool.true, Bool.true = Bool.true]) := by kernel_rfl
theorem p68_7 (x0 : ByteArray) : runF tab ext68 false 62 [] 2000 [] tys68 Tryd.f68.results [true, false, false, false, true, true] [.code b68] (entE 0 0 sig68 (x0, ())) (entL sig68 (x0, ())) = some ([Dyn.mk (Ty.int IntKind.i64) 0, Dyn.mk Ty.bool Bool.false], [], [Decidable.decide ((↑(ByteArray.size x0) : Int) > 0) = Bool.true, (0 : Int) ≤ (0 : Int), 0 < (↑(ByteArray.size x0) : Int), ((↑(UInt8.toNat (List.getD (Array.toList (ByteArray.data x0)) 0 0)) : Int) == 45) = Bool.false, ((↑(ByteArray.size x0) : Int) == 0) = Bool.false, InR IntKind.i64 ((↑(ByteArray.size x0) : Int) - 0), Decidable.decide ((↑(ByteArray.size x0) : Int) - 0 > 18) = Bool.false, (0 : Int) ≤ (0 : Int), 0 < (↑(ByteArray.size x0) : Int), ((↑(UInt8.toNat (List.getD (Array.toList (ByteArray.data x0)) 0 0)) : Int) == 48) = Bool.true, Decidable.decide ((↑(ByteArray.size x0) : Int) > 1) = Bool.true]) := by kernel_rfl
theorem p68_8 (x0 : ByteArray) : Am.runN tab ext68 false 62 [] 2000 [] [] [0, 4, 5, 6] [] [true, false, false, false, true, false] [.code b68] (entE 0 0 sig68 (x0, ())) (entL sig68 (x0, ())) = some (cutAt b68 8, E68_8 (0) (0) (0) (x0), L68_8 (0) (0) (0) (x0), [Decidable.decide ((↑(ByteArray.size x0) : Int) > 0) = Bool.true, (0 : Int) ≤ (0 : Int), 0 < (↑(ByteArray.size x0) : Int), ((↑(UInt8.toNat (List.getD (Array.toList (ByteArray.data x0)) 0 0)) : Int) == 45) = Bool.false, ((↑(ByteArray.size x0) : Int) == 0) = Bool.false, InR IntKind.i64 ((↑(ByteArray.size x0) : Int) - 0), Decidable.decide ((↑(ByteArray.size x0) : Int) - 0 > 18) = Bool.false, (0 : Int) ≤ (0 : Int), 0 < (↑(ByteArray.size x0) : Int), ((↑(UInt8.toNat (List.getD (Array.toList (ByteArray.data x0)) 0 0)) : Int) == 48) = Bool.true, Decidable.decide ((↑(ByteArray.size x0) : Int) > 1) = Bool.false]) := by kernel_rfl
theorem p68_9 (x0 : ByteArray) : Am.runN tab ext68 false 62 [] 2000 [] [] [0, 4, 5, 6] [] [true, false, false, false, false, false] [.code b68] (entE 0 0 sig68 (x0, ())) (entL sig68 (x0, ())) = some (cutAt b68 8, E68_8 (0) (0) (0) (x0), L68_8 (0) (0) (0) (x0), [Decidable.decide ((↑(ByteArray.size x0) : Int) > 0) = Bool.true, (0 : Int) ≤ (0 : Int), 0 < (↑(ByteArray.size x0) : Int), ((↑(UInt8.toNat (List.getD (Array.toList (ByteArray.data x0)) 0 0)) : Int) == 45) = Bool.false, ((↑(ByteArray.size x0) : Int) == 0) = Bool.false, InR IntKind.i64 ((↑(ByteArray.size x0) : Int) - 0), Decidable.decide ((↑(ByteArray.size x0) : Int) - 0 > 18) = Bool.false, (0 : Int) ≤ (0 : Int), 0 < (↑(ByteArray.size x0) : Int), ((↑(UInt8.toNat (List.getD (Array.toList (ByteArray.data x0)) 0 0)) : Int) == 48) = Bool.false, Bool.false = Bool.false]) := by kernel_rfl
theorem p68_10 (x0 : ByteArray) : runF tab ext68 false 62 [] 2000 [] tys68 Tryd.f68.results [false, false, true, true, true] [.code b68] (entE 0 0 sig68 (x0, ())) (entL sig68 (x0, ())) = some ([Dyn.mk (Ty.int IntKind.i64) 0, Dyn.mk Ty.bool Bool.false], [], [Decidable.decide ((↑(ByteArray.size x0) : Int) > 0) = Bool.false, Bool.false = Bool.false, ((↑(ByteArray.size x0) : Int) == 0) = Bool.true, Bool.true = Bool.true, Bool.true = Bool.true]) := by kernel_rfl
theorem p68_11 (x0 : ByteArray) : runF tab ext68 false 62 [] 2000 [] tys68 Tryd.f68.results [false, false, false, true, true] [.code b68] (entE 0 0 sig68 (x0, ())) (entL sig68 (x0, ())) = some ([Dyn.mk (Ty.int IntKind.i64) 0, Dyn.mk Ty.bool Bool.false], [], [Decidable.decide ((↑(ByteArray.size x0) : Int) > 0) = Bool.false, Bool.false = Bool.false, ((↑(ByteArray.size x0) : Int) == 0) = Bool.false, InR IntKind.i64 ((↑(ByteArray.size x0) : Int) - 0), Decidable.decide ((↑(ByteArray.size x0) : Int) - 0 > 18) = Bool.true, Bool.true = Bool.true]) := by kernel_rfl
theorem p68_12 (x0 : ByteArray) : runF tab ext68 false 62 [] 2000 [] tys68 Tryd.f68.results [false, false, false, false, true, true] [.code b68] (entE 0 0 sig68 (x0, ())) (entL sig68 (x0, ())) = some ([Dyn.mk (Ty.int IntKind.i64) 0, Dyn.mk Ty.bool Bool.false], [], [Decidable.decide ((↑(ByteArray.size x0) : Int) > 0) = Bool.false, Bool.false = Bool.false, ((↑(ByteArray.size x0) : Int) == 0) = Bool.false, InR IntKind.i64 ((↑(ByteArray.size x0) : Int) - 0), Decidable.decide ((↑(ByteArray.size x0) : Int) - 0 > 18) = Bool.false, (0 : Int) ≤ (0 : Int), 0 < (↑(ByteArray.size x0) : Int), ((↑(UInt8.toNat (List.getD (Array.toList (ByteArray.data x0)) 0 0)) : Int) == 48) = Bool.true, Decidable.decide ((↑(ByteArray.size x0) : Int) > 1) = Bool.true]) := by kernel_rfl
theorem p68_13 (x0 : ByteArray) : Am.runN tab ext68 false 62 [] 2000 [] [] [0, 4, 5, 6] [] [false, false, false, false, true, false] [.code b68] (entE 0 0 sig68 (x0, ())) (entL sig68 (x0, ())) = some (cutAt b68 8, E68_8 (0) (0) (0) (x0), L68_8 (0) (0) (0) (x0), [Decidable.decide ((↑(ByteArray.size x0) : Int) > 0) = Bool.false, Bool.false = Bool.false, ((↑(ByteArray.size x0) : Int) == 0) = Bool.false, InR IntKind.i64 ((↑(ByteArray.size x0) : Int) - 0), Decidable.decide ((↑(ByteArray.size x0) : Int) - 0 > 18) = Bool.false, (0 : Int) ≤ (0 : Int), 0 < (↑(ByteArray.size x0) : Int), ((↑(UInt8.toNat (List.getD (Array.toList (ByteArray.data x0)) 0 0)) : Int) == 48) = Bool.true, Decidable.decide ((↑(ByteArray.size x0) : Int) > 1) = Bool.false]) := by kernel_rfl
theorem p68_14 (x0 : ByteArray) : Am.runN tab ext68 false 62 [] 2000 [] [] [0, 4, 5, 6] [] [false, false, false, false, false, false] [.code b68] (entE 0 0 sig68 (x0, ())) (entL sig68 (x0, ())) = some (cutAt b68 8, E68_8 (0) (0) (0) (x0), L68_8 (0) (0) (0) (x0), [Decidable.decide ((↑(ByteArray.size x0) : Int) > 0) = Bool.false, Bool.false = Bool.false, ((↑(ByteArray.size x0) : Int) == 0) = Bool.false, InR IntKind.i64 ((↑(ByteArray.size x0) : Int) - 0), Decidable.decide ((↑(ByteArray.size x0) : Int) - 0 > 18) = Bool.false, (0 : Int) ≤ (0 : Int), 0 < (↑(ByteArray.size x0) : Int), ((↑(UInt8.toNat (List.getD (Array.toList (ByteArray.data x0)) 0 0)) : Int) == 48) = Bool.false, Bool.false = Bool.false]) := by kernel_rfl
theorem p68_15 (v4 : Int) (v5 : Int) (v6 : Int) (x0 : ByteArray) : runF tab ext68 false 62 [] 2000 [] tys68 Tryd.f68.results [true, true] (cutAt b68 8) (E68_8 v4 v5 v6 x0) (L68_8 v4 v5 v6 x0) = some ([Dyn.mk (Ty.int IntKind.i64) 0, Dyn.mk Ty.bool Bool.false], [], [Decidable.decide (v6 < (↑(ByteArray.size x0) : Int)) = Bool.true, 0 ≤ v6, v6 < (↑(ByteArray.size x0) : Int), True, (!g67_0 (↑(UInt8.toNat (List.getD (Array.toList (ByteArray.data x0)) (Int.toNat v6) 0)) : Int)) = Bool.true]) := by kernel_rfl
theorem p68_16 (v4 : Int) (v5 : Int) (v6 : Int) (x0 : ByteArray) : Am.runN tab ext68 false 62 [] 2000 [] [] [0, 4, 5, 6] [] [true, false] (cutAt b68 8) (E68_8 v4 v5 v6 x0) (L68_8 v4 v5 v6 x0) = some (cutAt b68 8, E68_8 (v4) (10 * v5 + ((↑(UInt8.toNat (List.getD (Array.toList (ByteArray.data x0)) (Int.toNat v6) 0)) : Int) - 48)) (v6 + 1) (x0), L68_8 (v4) (10 * v5 + ((↑(UInt8.toNat (List.getD (Array.toList (ByteArray.data x0)) (Int.toNat v6) 0)) : Int) - 48)) (v6 + 1) (x0), [Decidable.decide (v6 < (↑(ByteArray.size x0) : Int)) = Bool.true, 0 ≤ v6, v6 < (↑(ByteArray.size x0) : Int), True, (!g67_0 (↑(UInt8.toNat (List.getD (Array.toList (ByteArray.data x0)) (Int.toNat v6) 0)) : Int)) = Bool.false, InR IntKind.i64 (10 * v5), 0 ≤ v6, v6 < (↑(ByteArray.size x0) : Int), InR IntKind.u8 ((↑(UInt8.toNat (List.getD (Array.toList (ByteArray.data x0)) (Int.toNat v6) 0)) : Int) - 48), InR IntKind.i64 ((↑(UInt8.toNat (List.getD (Array.toList (ByteArray.data x0)) (Int.toNat v6) 0)) : Int) - 48), InR IntKind.i64 (10 * v5 + ((↑(UInt8.toNat (List.getD (Array.toList (ByteArray.data x0)) (Int.toNat v6) 0)) : Int) - 48)), InR IntKind.i64 (v6 + 1)]) := by kernel_rfl
theorem p68_17 (v4 : Int) (v5 : Int) (v6 : Int) (x0 : ByteArray) : runF tab ext68 false 62 [] 2000 [] tys68 Tryd.f68.results [false, true] (cutAt b68 8) (E68_8 v4 v5 v6 x0) (L68_8 v4 v5 v6 x0) = some ([Dyn.mk (Ty.int IntKind.i64) (0 - v5), Dyn.mk Ty.bool Bool.true], [], [Decidable.decide (v6 < (↑(ByteArray.size x0) : Int)) = Bool.false, (v4 == 1) = Bool.true, InR IntKind.i64 (0 - v5)]) := by kernel_rfl
theorem p68_18 (v4 : Int) (v5 : Int) (v6 : Int) (x0 : ByteArray) : runF tab ext68 false 62 [] 2000 [] tys68 Tryd.f68.results [false, false] (cutAt b68 8) (E68_8 v4 v5 v6 x0) (L68_8 v4 v5 v6 x0) = some ([Dyn.mk (Ty.int IntKind.i64) v5, Dyn.mk Ty.bool Bool.true], [], [Decidable.decide (v6 < (↑(ByteArray.size x0) : Int)) = Bool.false, (v4 == 1) = Bool.false]) := by kernel_rfl
theorem snd68 : ∀ n, (∀ (x0 : ByteArray) ds, R68 n x0 ds → ∀ w0 O q, AtV Tryd.prog 68 (PostR ds [] [] q w0 O) 62 w0 O q [] [.code b68] (entE 0 0 sig68 (x0, ())) (entL sig68 (x0, ()))) ∧ (∀ (v4 : Int) (v5 : Int) (v6 : Int) (x0 : ByteArray) ds, R68_8 n v4 v5 v6 x0 ds → ∀ w0 O q, AtV Tryd.prog 68 (PostR ds [] [] q w0 O) 62 w0 O q [] (cutAt b68 8) (E68_8 v4 v5 v6 x0) (L68_8 v4 v5 v6 x0)) := by
  intro n
  induction n with
  | zero => exact ⟨fun _ _ h => by simp only [R68] at h, fun _ _ _ _ _ h => by simp only [R68_8] at h⟩
  | succ n ih =>
  obtain ⟨ih, ih8⟩ := ih
  refine ⟨?_, ?_⟩
  · intro x0 ds h w0 O q
    rw [R68] at h
    by_cases b0 : (Decidable.decide ((↑(ByteArray.size x0) : Int) > 0)) = true
    · rw [if_pos b0] at h
      obtain ⟨s0, h⟩ := h
      by_cases b1 : ((↑(UInt8.toNat (List.getD (Array.toList (ByteArray.data x0)) 0 0)) : Int) == 45) = true
      · rw [if_pos b1] at h
        by_cases b2 : ((↑(ByteArray.size x0) : Int) == 1) = true
        · rw [if_pos b2] at h
          subst h
          exact AtV.fin Tryd.func68 tabOk ext68Ok mixed (p68_0 x0) ⟨b0, (by decide), s0, b1, b2, rfl, rfl, trivial⟩
        · rw [if_neg b2] at h
          replace b2 := Bool.eq_false_iff.2 b2
          obtain ⟨s1, h⟩ := h
          by_cases b3 : (Decidable.decide ((↑(ByteArray.size x0) : Int) - 1 > 18)) = true
          · rw [if_pos b3] at h
            subst h
            exact AtV.fin Tryd.func68 tabOk ext68Ok mixed (p68_1 x0) ⟨b0, (by decide), s0, b1, b2, s1, b3, rfl, trivial⟩
          · rw [if_neg b3] at h
            replace b3 := Bool.eq_false_iff.2 b3
            obtain ⟨s2, h⟩ := h
            by_cases b4 : ((↑(UInt8.toNat (List.getD (Array.toList (ByteArray.data x0)) 1 0)) : Int) == 48) = true
            · rw [if_pos b4] at h
              by_cases b5 : (Decidable.decide ((↑(ByteArray.size x0) : Int) > 1)) = true
              · rw [if_pos b5] at h
                subst h
                exact AtV.fin Tryd.func68 tabOk ext68Ok mixed (p68_2 x0) ⟨b0, (by decide), s0, b1, b2, s1, b3, (by decide), s2, b4, b5, trivial⟩
              · rw [if_neg b5] at h
                replace b5 := Bool.eq_false_iff.2 b5
                exact AtV.runN tabOk ext68Ok mixed (p68_3 x0) ⟨b0, (by decide), s0, b1, b2, s1, b3, (by decide), s2, b4, b5, trivial⟩ (ih8 _ _ _ _ _ h w0 O q)
            · rw [if_neg b4] at h
              replace b4 := Bool.eq_false_iff.2 b4
              exact AtV.runN tabOk ext68Ok mixed (p68_4 x0) ⟨b0, (by decide), s0, b1, b2, s1, b3, (by decide), s2, b4, rfl, trivial⟩ (ih8 _ _ _ _ _ h w0 O q)
      · rw [if_neg b1] at h
        replace b1 := Bool.eq_false_iff.2 b1
        by_cases b2 : ((↑(ByteArray.size x0) : Int) == 0) = true
        · rw [if_pos b2] at h
          subst h
          exact AtV.fin Tryd.func68 tabOk ext68Ok mixed (p68_5 x0) ⟨b0, (by decide), s0, b1, b2, rfl, rfl, trivial⟩
        · rw [if_neg b2] at h
          replace b2 := Bool.eq_false_iff.2 b2
          obtain ⟨s1, h⟩ := h
          by_cases b3 : (Decidable.decide ((↑(ByteArray.size x0) : Int) - 0 > 18)) = true
          · rw [if_pos b3] at h
            subst h
            exact AtV.fin Tryd.func68 tabOk ext68Ok mixed (p68_6 x0) ⟨b0, (by decide), s0, b1, b2, s1, b3, rfl, trivial⟩
          · rw [if_neg b3] at h
            replace b3 := Bool.eq_false_iff.2 b3
            obtain ⟨s2, h⟩ := h
            by_cases b4 : ((↑(UInt8.toNat (List.getD (Array.toList (ByteArray.data x0)) 0 0)) : Int) == 48) = true
            · rw [if_pos b4] at h
              by_cases b5 : (Decidable.decide ((↑(ByteArray.size x0) : Int) > 1)) = true
              · rw [if_pos b5] at h
                subst h
                exact AtV.fin Tryd.func68 tabOk ext68Ok mixed (p68_7 x0) ⟨b0, (by decide), s0, b1, b2, s1, b3, (by decide), s2, b4, b5, trivial⟩
              · rw [if_neg b5] at h
                replace b5 := Bool.eq_false_iff.2 b5
                exact AtV.runN tabOk ext68Ok mixed (p68_8 x0) ⟨b0, (by decide), s0, b1, b2, s1, b3, (by decide), s2, b4, b5, trivial⟩ (ih8 _ _ _ _ _ h w0 O q)
            · rw [if_neg b4] at h
              replace b4 := Bool.eq_false_iff.2 b4
              exact AtV.runN tabOk ext68Ok mixed (p68_9 x0) ⟨b0, (by decide), s0, b1, b2, s1, b3, (by decide), s2, b4, rfl, trivial⟩ (ih8 _ _ _ _ _ h w0 O q)
    · rw [if_neg b0] at h
      replace b0 := Bool.eq_false_iff.2 b0
      by_cases b1 : ((↑(ByteArray.size x0) : Int) == 0) = true
      · rw [if_pos b1] at h
        subst h
        exact AtV.fin Tryd.func68 tabOk ext68Ok mixed (p68_10 x0) ⟨b0, rfl, b1, rfl, rfl, trivial⟩
      · rw [if_neg b1] at h
        replace b1 := Bool.eq_false_iff.2 b1
        obtain ⟨s0, h⟩ := h
        by_cases b2 : (Decidable.decide ((↑(ByteArray.size x0) : Int) - 0 > 18)) = true
        · rw [if_pos b2] at h
          subst h
          exact AtV.fin Tryd.func68 tabOk ext68Ok mixed (p68_11 x0) ⟨b0, rfl, b1, s0, b2, rfl, trivial⟩
        · rw [if_neg b2] at h
          replace b2 := Bool.eq_false_iff.2 b2
          obtain ⟨s1, h⟩ := h
          by_cases b3 : ((↑(UInt8.toNat (List.getD (Array.toList (ByteArray.data x0)) 0 0)) : Int) == 48) = true
          · rw [if_pos b3] at h
            by_cases b4 : (Decidable.decide ((↑(ByteArray.size x0) : Int) > 1)) = true
            · rw [if_pos b4] at h
              subst h
              exact AtV.fin Tryd.func68 tabOk ext68Ok mixed (p68_12 x0) ⟨b0, rfl, b1, s0, b2, (by decide), s1, b3, b4, trivial⟩
            · rw [if_neg b4] at h
              replace b4 := Bool.eq_false_iff.2 b4
              exact AtV.runN tabOk ext68Ok mixed (p68_13 x0) ⟨b0, rfl, b1, s0, b2, (by decide), s1, b3, b4, trivial⟩ (ih8 _ _ _ _ _ h w0 O q)
          · rw [if_neg b3] at h
            replace b3 := Bool.eq_false_iff.2 b3
            exact AtV.runN tabOk ext68Ok mixed (p68_14 x0) ⟨b0, rfl, b1, s0, b2, (by decide), s1, b3, rfl, trivial⟩ (ih8 _ _ _ _ _ h w0 O q)

  · intro v4 v5 v6 x0 ds h w0 O q
    rw [R68_8] at h
    by_cases b0 : (Decidable.decide (v6 < (↑(ByteArray.size x0) : Int))) = true
    · rw [if_pos b0] at h
      obtain ⟨s0, s1, h⟩ := h
      by_cases b1 : (!g67_0 (↑(UInt8.toNat (List.getD (Array.toList (ByteArray.data x0)) (Int.toNat v6) 0)) : Int)) = true
      · rw [if_pos b1] at h
        subst h
        exact AtV.fin Tryd.func68 tabOk ext68Ok mixed (p68_15 v4 v5 v6 x0) ⟨b0, s0, s1, trivial, b1, trivial⟩
      · rw [if_neg b1] at h
        replace b1 := Bool.eq_false_iff.2 b1
        obtain ⟨s2, h⟩ := h
        obtain ⟨s3, s4, h⟩ := h
        obtain ⟨s5, h⟩ := h
        obtain ⟨s6, h⟩ := h
        obtain ⟨s7, h⟩ := h
        obtain ⟨s8, h⟩ := h
        exact AtV.runN tabOk ext68Ok mixed (p68_16 v4 v5 v6 x0) ⟨b0, s0, s1, trivial, b1, s2, s3, s4, s5, s6, s7, s8, trivial⟩ (ih8 _ _ _ _ _ h w0 O q)
    · rw [if_neg b0] at h
      replace b0 := Bool.eq_false_iff.2 b0
      by_cases b1 : (v4 == 1) = true
      · rw [if_pos b1] at h
        obtain ⟨s0, h⟩ := h
        subst h
        exact AtV.fin Tryd.func68 tabOk ext68Ok mixed (p68_17 v4 v5 v6 x0) ⟨b0, b1, s0, trivial⟩
      · rw [if_neg b1] at h
        replace b1 := Bool.eq_false_iff.2 b1
        subst h
        exact AtV.fin Tryd.func68 tabOk ext68Ok mixed (p68_18 v4 v5 v6 x0) ⟨b0, b1, trivial⟩



def d68 (b : UInt8) : Bool := decide (48 ≤ b.toNat) && decide (b.toNat ≤ 57)
def dig68 : List UInt8 → Int → Int × Bool
  | [], n => (n, true)
  | b :: r, n => if d68 b then dig68 r (10 * n + ((b.toNat : Int) - 48)) else (0, false)
def fin68 (off : Nat) (p : Int × Bool) : Int × Bool := if off = 1 then (0 - p.1, p.2) else p
def num68 : List UInt8 → Int × Bool
  | [] => (0, false)
  | b :: r => if b.toNat = 45 then (if r.length = 0 ∨ 18 < r.length ∨ (r.getD 0 0).toNat = 48 then (0, false) else fin68 1 (dig68 r 0))
    else if 18 < r.length + 1 ∨ (b.toNat = 48 ∧ 0 < r.length) then (0, false) else fin68 0 (dig68 (b :: r) 0)
def g68_0 (x0 : ByteArray) : Int := (num68 x0.data.toList).1
def g68_1 (x0 : ByteArray) : Bool := (num68 x0.data.toList).2
def P68 (x0 : ByteArray) : Prop := True

theorem run68 (x0 : ByteArray) (off : Nat) (hs : x0.size ≤ off + 18) (ho : off ≤ 1) : ∀ (k j m : Nat), off + j + k = x0.size → m < 10 ^ j →
    R68_8 (k + 1) (off : Int) (m : Int) ((off + j : Nat) : Int) x0 [⟨.int .i64, (fin68 off (dig68 (x0.data.toList.drop (off + j)) (m : Int))).1⟩, ⟨.bool, (fin68 off (dig68 (x0.data.toList.drop (off + j)) (m : Int))).2⟩] := by
  intro k
  have hll : x0.data.toList.length = x0.size := rfl
  induction k with
  | zero =>
    intro j m hi hm
    have hp : 10 ^ j ≤ 10 ^ 18 := Nat.pow_le_pow_right (by decide) (by omega)
    have hm2 : m < 1000000000000000000 := Nat.lt_of_lt_of_le hm hp
    rw [R68_8, if_neg (by simp; omega), List.drop_of_length_le (by omega)]
    unfold fin68 dig68
    by_cases h1 : off = 1
    · subst h1
      rw [if_pos (by rfl)]
      exact ⟨by rw [i64_iff]; omega, rfl⟩
    · obtain rfl : off = 0 := by omega
      rw [if_neg (by decide)]
      rfl
  | succ k ih =>
    intro j m hi hm
    have hlt : off + j < x0.data.toList.length := by rw [hll]; omega
    have hcons : x0.data.toList.drop (off + j) = x0.data.toList.getD (off + j) 0 :: x0.data.toList.drop (off + j + 1) := drop_get _ _ 0 hlt
    rw [R68_8, if_pos (by simp only [decide_eq_true_eq]; omega), hcons]
    simp only [Int.toNat_natCast]
    generalize x0.data.toList.getD (off + j) 0 = b at *
    refine ⟨by omega, by omega, ?_⟩
    have hg : g67_0 (b.toNat : Int) = d68 b := by
      unfold g67_0 d68
      by_cases h1 : 48 ≤ b.toNat
      · have h1' : (b.toNat : Int) ≥ 48 := by omega
        by_cases h2 : b.toNat ≤ 57
        · have h2' : (b.toNat : Int) ≤ 57 := by omega
          simp [h1, h2, h1', h2']
        · have h2' : ¬ (b.toNat : Int) ≤ 57 := by omega
          simp [h1, h2, h1', h2']
      · have h1' : ¬ (b.toNat : Int) ≥ 48 := by omega
        simp [h1, h1']
    rw [hg]
    unfold dig68
    cases hd : d68 b with
    | false => simp [fin68]
    | true =>
      have hd' : 48 ≤ b.toNat ∧ b.toNat ≤ 57 := by unfold d68 at hd; simpa using hd
      have hp : 10 ^ j ≤ 10 ^ 17 := Nat.pow_le_pow_right (by decide) (by omega)
      have hm2 : m < 100000000000000000 := Nat.lt_of_lt_of_le hm hp
      simp only [Bool.not_true, Bool.false_eq_true, if_false, if_true]
      refine ⟨by rw [i64_iff]; omega, by omega, by omega, ?_, by rw [i64_iff]; omega, by rw [i64_iff]; omega, by rw [i64_iff]; omega, ?_⟩
      · rw [u8_iff]; omega
      · have e1 : 10 * (m : Int) + ((b.toNat : Int) - 48) = ((10 * m + (b.toNat - 48) : Nat) : Int) := by omega
        have e2 : ((off + j : Nat) : Int) + 1 = ((off + (j + 1) : Nat) : Int) := by omega
        rw [e1, e2]
        exact ih (j + 1) (10 * m + (b.toNat - 48)) (by omega) (by rw [Nat.pow_succ]; omega)

theorem top68 (x0 : ByteArray) (hm : x0.size ≤ 9223372036854775807) : ∃ n, R68 n x0 [⟨.int .i64, g68_0 x0⟩, ⟨.bool, g68_1 x0⟩] := by
  obtain ⟨⟨l⟩⟩ := x0
  unfold g68_0 g68_1
  cases l with
  | nil => exact ⟨1, by
      rw [R68, if_neg (by decide), if_pos (by decide)]
      rfl⟩
  | cons b r =>
    have hsz : (ByteArray.mk ⟨b :: r⟩).size = r.length + 1 := rfl
    rw [hsz] at hm
    have g0 : List.getD (Array.toList (ByteArray.data (ByteArray.mk ⟨b :: r⟩))) 0 0 = b := rfl
    have g1 : List.getD (Array.toList (ByteArray.data (ByteArray.mk ⟨b :: r⟩))) 1 0 = r.getD 0 0 := rfl
    by_cases hb : b.toNat = 45
    · refine ⟨(r.length - 0 + 1) + 1, ?_⟩
      rw [R68, hsz, g0, g1, if_pos (by simp only [decide_eq_true_eq]; omega)]
      refine ⟨by omega, ?_⟩
      rw [if_pos (by rw [hb]; rfl)]
      show _
      unfold num68
      simp only [if_pos hb]
      by_cases h0 : r.length = 0
      · rw [if_pos (by rw [h0]; rfl), if_pos (.inl h0)]
      · rw [if_neg (by simp; omega)]
        refine ⟨by rw [i64_iff]; omega, ?_⟩
        by_cases h18 : 18 < r.length
        · rw [if_pos (by simp only [decide_eq_true_eq]; omega), if_pos (.inr (.inl h18))]
        · rw [if_neg (by simp only [decide_eq_true_eq]; omega)]
          refine ⟨by omega, ?_⟩
          by_cases h48 : (r.getD 0 0).toNat = 48
          · rw [if_pos (by rw [h48]; rfl), if_pos (by simp only [decide_eq_true_eq]; omega), if_pos (.inr (.inr h48))]
          · rw [if_neg (by rw [beq_iff_eq]; omega), if_neg (by omega)]
            exact run68 ⟨⟨b :: r⟩⟩ 1 (by rw [hsz]; omega) (by omega) r.length 0 0 (by rw [hsz]; omega) (by decide)
    · refine ⟨(r.length + 1 + 1) + 1, ?_⟩
      rw [R68, hsz, g0, if_pos (by simp only [decide_eq_true_eq]; omega)]
      refine ⟨by omega, ?_⟩
      rw [if_neg (by simp; omega)]
      unfold num68
      simp only [if_neg hb]
      rw [if_neg (by simp; omega)]
      refine ⟨by rw [i64_iff]; omega, ?_⟩
      by_cases h18 : 18 < r.length + 1
      · rw [if_pos (by simp only [decide_eq_true_eq]; omega), if_pos (.inl h18)]
      · rw [if_neg (by simp only [decide_eq_true_eq]; omega)]
        refine ⟨by omega, ?_⟩
        by_cases h48 : b.toNat = 48
        · rw [if_pos (by rw [h48]; rfl)]
          by_cases hr : 0 < r.length
          · rw [if_pos (by simp only [decide_eq_true_eq]; omega), if_pos (.inr ⟨h48, hr⟩)]
          · rw [if_neg (by simp only [decide_eq_true_eq]; omega), if_neg (by omega)]
            exact run68 ⟨⟨b :: r⟩⟩ 0 (by rw [hsz]; omega) (by omega) (r.length + 1) 0 0 (by rw [hsz]; omega) (by decide)
        · rw [if_neg (by simp; omega), if_neg (by omega)]
          exact run68 ⟨⟨b :: r⟩⟩ 0 (by rw [hsz]; omega) (by omega) (r.length + 1) 0 0 (by rw [hsz]; omega) (by decide)

def S68 : Am.Spec := { sig := sig68, pre := fun ⟨x0, _⟩ => P68 x0, res := fun ⟨x0, _⟩ => [⟨.int .i64, g68_0 x0⟩, ⟨.bool, g68_1 x0⟩] }
theorem con68 : Contract Tryd.prog 68 S68 := contract_of Tryd.func68 hb68 (Nat.le_of_ble_eq_true (by kernel_rfl)) (fun ⟨x0, _⟩ h hwf w0 O q => by
  obtain ⟨n, hn⟩ := top68 x0 hwf.1
  exact (snd68 n).1 x0 _ hn w0 O q)

end Go.Proofs.YtakodkjcmacofaaDoor

/- Function 124 (spec.l00In): its runs between cut points. Written by a program of this repo (gen). -/
set_option linter.unusedVariables false
set_option linter.unusedSimpArgs false
set_option maxRecDepth 100000
namespace Go.Proofs.YtakodkjcmacofaaDoor
open Go Go.Am Go.Proofs
def ext124 : Ext := []
theorem ext124Ok : ExtOk Tryd.prog ext124 := trivial
/-! Function 124. -/
noncomputable def b124 : Code := bodyOf Tryd.f124
theorem hb124 : Tryd.f124.body = some b124 := by kernel_rfl
def sig124 : List AT := [AT.v (Ty.int IntKind.i64), AT.v (Ty.int IntKind.i64), AT.v (Ty.int IntKind.i64)]
def tys124 : List Ty := [Ty.bool]
def P124 (x0 : Int) (x1 : Int) (x2 : Int) : Prop := True
def g124_0 (x0 : Int) (x1 : Int) (x2 : Int) : Bool := (if (Decidable.decide (x0 ≥ x1)) = true then Decidable.decide (x0 ≤ x2) else Bool.false)
theorem p124_0 (x0 : Int) (x1 : Int) (x2 : Int) : runF tab ext124 false 15 [] 2000 [] tys124 Tryd.f124.results [true] [.code b124] (entE 0 0 sig124 (x0, x1, x2, ())) (entL sig124 (x0, x1, x2, ())) = some ([Dyn.mk Ty.bool (Decidable.decide (x0 ≤ x2))], [], [Decidable.decide (x0 ≥ x1) = Bool.true]) := by kernel_rfl
theorem p124_1 (x0 : Int) (x1 : Int) (x2 : Int) : runF tab ext124 false 15 [] 2000 [] tys124 Tryd.f124.results [false] [.code b124] (entE 0 0 sig124 (x0, x1, x2, ())) (entL sig124 (x0, x1, x2, ())) = some ([Dyn.mk Ty.bool Bool.false], [], [Decidable.decide (x0 ≥ x1) = Bool.false]) := by kernel_rfl
theorem at124 (x0 : Int) (x1 : Int) (x2 : Int) (h : P124 x0 x1 x2) (w0 : World) (O : List Nat) (q : Nat → Value) : AtV Tryd.prog 124 (PostR [⟨Ty.bool, g124_0 x0 x1 x2⟩] [] [] q w0 O) 15 w0 O q [] [.code b124] (entE 0 0 sig124 (x0, x1, x2, ())) (entL sig124 (x0, x1, x2, ())) := by
  unfold P124 at h
  unfold g124_0
  by_cases b0 : (Decidable.decide (x0 ≥ x1)) = true
  · try simp only [if_pos b0] at h ⊢
    exact AtV.fin Tryd.func124 tabOk ext124Ok mixed (p124_0 x0 x1 x2) ⟨b0, trivial⟩
  · try simp only [if_neg b0] at h ⊢
    replace b0 := Bool.eq_false_iff.2 b0
    exact AtV.fin Tryd.func124 tabOk ext124Ok mixed (p124_1 x0 x1 x2) ⟨b0, trivial⟩

def S124 : Am.Spec := { sig := sig124, pre := fun ⟨x0, x1, x2, _⟩ => P124 x0 x1 x2, res := fun ⟨x0, x1, x2, _⟩ => [⟨Ty.bool, g124_0 x0 x1 x2⟩] }
theorem con124 : Contract Tryd.prog 124 S124 := contract_of Tryd.func124 hb124 (Nat.le_of_ble_eq_true (by kernel_rfl)) (fun ⟨x0, x1, x2, _⟩ h _ w0 O q => at124 x0 x1 x2 h w0 O q)


end Go.Proofs.YtakodkjcmacofaaDoor

/- Function 69 (spec.l02Mass): its runs between cut points. Written by a program of this repo (gen). -/
set_option linter.unusedVariables false
set_option linter.unusedSimpArgs false
set_option maxRecDepth 100000
namespace Go.Proofs.YtakodkjcmacofaaDoor
open Go Go.Am Go.Proofs
def ext69 : Ext := [(124, S124)]
theorem call69_124 : Callable Tryd.prog 124 := ⟨Tryd.f124, Tryd.func124, by kernel_rfl, by kernel_rfl⟩
theorem ext69Ok : ExtOk Tryd.prog ext69 := ⟨⟨call69_124, con124⟩, trivial⟩
/-! Function 69. -/
noncomputable def b69 : Code := bodyOf Tryd.f69
theorem hb69 : Tryd.f69.body = some b69 := by kernel_rfl
def sig69 : List AT := [AT.v (Ty.int IntKind.i64)]
def tys69 : List Ty := [Ty.bool]
def P69 (x0 : Int) : Prop := True
def g69_0 (x0 : Int) : Bool := g124_0 x0 0 1000000000
theorem p69_0 (x0 : Int) : runF tab ext69 false 5 [] 2000 [] tys69 Tryd.f69.results [] [.code b69] (entE 0 0 sig69 (x0, ())) (entL sig69 (x0, ())) = some ([Dyn.mk Ty.bool (g124_0 x0 0 1000000000)], [], [True]) := by kernel_rfl
theorem at69 (x0 : Int) (h : P69 x0) (w0 : World) (O : List Nat) (q : Nat → Value) : AtV Tryd.prog 69 (PostR [⟨Ty.bool, g69_0 x0⟩] [] [] q w0 O) 5 w0 O q [] [.code b69] (entE 0 0 sig69 (x0, ())) (entL sig69 (x0, ())) := by
  unfold P69 at h
  unfold g69_0
  exact AtV.fin Tryd.func69 tabOk ext69Ok mixed (p69_0 x0) ⟨trivial, trivial⟩

def S69 : Am.Spec := { sig := sig69, pre := fun ⟨x0, _⟩ => P69 x0, res := fun ⟨x0, _⟩ => [⟨Ty.bool, g69_0 x0⟩] }
theorem con69 : Contract Tryd.prog 69 S69 := contract_of Tryd.func69 hb69 (Nat.le_of_ble_eq_true (by kernel_rfl)) (fun ⟨x0, _⟩ h _ w0 O q => at69 x0 h w0 O q)


end Go.Proofs.YtakodkjcmacofaaDoor

/- Function 15 (spec.ReadLap): its runs between cut points. Written by a program of this repo (gen). -/
set_option linter.unusedVariables false
set_option linter.unusedSimpArgs false
set_option maxRecDepth 100000
namespace Go.Proofs.YtakodkjcmacofaaDoor
open Go Go.Am Go.Proofs
def ext15 : Ext := [(66, S66), (67, S67), (68, S68), (69, S69)]
theorem call15_66 : Callable Tryd.prog 66 := ⟨Tryd.f66, Tryd.func66, by kernel_rfl, by kernel_rfl⟩
theorem call15_67 : Callable Tryd.prog 67 := ⟨Tryd.f67, Tryd.func67, by kernel_rfl, by kernel_rfl⟩
theorem call15_68 : Callable Tryd.prog 68 := ⟨Tryd.f68, Tryd.func68, by kernel_rfl, by kernel_rfl⟩
theorem call15_69 : Callable Tryd.prog 69 := ⟨Tryd.f69, Tryd.func69, by kernel_rfl, by kernel_rfl⟩
theorem ext15Ok : ExtOk Tryd.prog ext15 := ⟨⟨call15_66, con66⟩, ⟨call15_67, con67⟩, ⟨call15_68, con68⟩, ⟨call15_69, con69⟩, trivial⟩
/-! Function 15. -/
noncomputable def b15 : Code := bodyOf Tryd.f15
theorem hb15 : Tryd.f15.body = some b15 := by kernel_rfl
def sig15 : List AT := [AT.v (Ty.str)]
def tys15 : List Ty := [Ty.int IntKind.i64, Ty.bool]
def P15 (x0 : ByteArray) : Prop := ((P66 x0 58) ∧ (if ((↑(List.length (g66_0 x0 58)) : Int) != 2) = true then True else ((1 < (↑(List.length (g66_0 x0 58)) : Int)) ∧ (if ((↑(ByteArray.size (List.getD (g66_0 x0 58) 1 ByteArray.empty)) : Int) != 2) = true then True else ((1 < (↑(List.length (g66_0 x0 58)) : Int)) ∧ ((0 < (↑(ByteArray.size (List.getD (g66_0 x0 58) 1 ByteArray.empty)) : Int)) ∧ (if (!g67_0 (↑(UInt8.toNat (List.getD (Array.toList (ByteArray.data (List.getD (g66_0 x0 58) 1 ByteArray.empty))) 0 0)) : Int)) = true then True else ((1 < (↑(List.length (g66_0 x0 58)) : Int)) ∧ ((1 < (↑(ByteArray.size (List.getD (g66_0 x0 58) 1 ByteArray.empty)) : Int)) ∧ (if (!g67_0 (↑(UInt8.toNat (List.getD (Array.toList (ByteArray.data (List.getD (g66_0 x0 58) 1 ByteArray.empty))) 1 0)) : Int)) = true then True else ((0 < (↑(List.length (g66_0 x0 58)) : Int)) ∧ ((1 < (↑(List.length (g66_0 x0 58)) : Int)) ∧ ((0 < (↑(ByteArray.size (List.getD (g66_0 x0 58) 1 ByteArray.empty)) : Int)) ∧ ((InR IntKind.u8 ((↑(UInt8.toNat (List.getD (Array.toList (ByteArray.data (List.getD (g66_0 x0 58) 1 ByteArray.empty))) 0 0)) : Int) - 48)) ∧ ((InR IntKind.i64 ((↑(UInt8.toNat (List.getD (Array.toList (ByteArray.data (List.getD (g66_0 x0 58) 1 ByteArray.empty))) 0 0)) : Int) - 48)) ∧ ((InR IntKind.i64 (10 * ((↑(UInt8.toNat (List.getD (Array.toList (ByteArray.data (List.getD (g66_0 x0 58) 1 ByteArray.empty))) 0 0)) : Int) - 48))) ∧ ((1 < (↑(List.length (g66_0 x0 58)) : Int)) ∧ ((1 < (↑(ByteArray.size (List.getD (g66_0 x0 58) 1 ByteArray.empty)) : Int)) ∧ ((InR IntKind.u8 ((↑(UInt8.toNat (List.getD (Array.toList (ByteArray.data (List.getD (g66_0 x0 58) 1 ByteArray.empty))) 1 0)) : Int) - 48)) ∧ ((InR IntKind.i64 ((↑(UInt8.toNat (List.getD (Array.toList (ByteArray.data (List.getD (g66_0 x0 58) 1 ByteArray.empty))) 1 0)) : Int) - 48)) ∧ ((InR IntKind.i64 (10 * ((↑(UInt8.toNat (List.getD (Array.toList (ByteArray.data (List.getD (g66_0 x0 58) 1 ByteArray.empty))) 0 0)) : Int) - 48) + ((↑(UInt8.toNat (List.getD (Array.toList (ByteArray.data (List.getD (g66_0 x0 58) 1 ByteArray.empty))) 1 0)) : Int) - 48))) ∧ (if (!g68_1 (List.getD (g66_0 x0 58) 0 ByteArray.empty)) = true then True else (if (!g69_0 (g68_0 (List.getD (g66_0 x0 58) 0 ByteArray.empty))) = true then True else (if (Decidable.decide (10 * ((↑(UInt8.toNat (List.getD (Array.toList (ByteArray.data (List.getD (g66_0 x0 58) 1 ByteArray.empty))) 0 0)) : Int) - 48) + ((↑(UInt8.toNat (List.getD (Array.toList (ByteArray.data (List.getD (g66_0 x0 58) 1 ByteArray.empty))) 1 0)) : Int) - 48) > 59)) = true then True else ((InR IntKind.i64 (60 * g68_0 (List.getD (g66_0 x0 58) 0 ByteArray.empty))) ∧ ((InR IntKind.i64 (60 * g68_0 (List.getD (g66_0 x0 58) 0 ByteArray.empty) + (10 * ((↑(UInt8.toNat (List.getD (Array.toList (ByteArray.data (List.getD (g66_0 x0 58) 1 ByteArray.empty))) 0 0)) : Int) - 48) + ((↑(UInt8.toNat (List.getD (Array.toList (ByteArray.data (List.getD (g66_0 x0 58) 1 ByteArray.empty))) 1 0)) : Int) - 48)))) ∧ (if (!g69_0 (60 * g68_0 (List.getD (g66_0 x0 58) 0 ByteArray.empty) + (10 * ((↑(UInt8.toNat (List.getD (Array.toList (ByteArray.data (List.getD (g66_0 x0 58) 1 ByteArray.empty))) 0 0)) : Int) - 48) + ((↑(UInt8.toNat (List.getD (Array.toList (ByteArray.data (List.getD (g66_0 x0 58) 1 ByteArray.empty))) 1 0)) : Int) - 48)))) = true then True else ((InR IntKind.i64 (60 * g68_0 (List.getD (g66_0 x0 58) 0 ByteArray.empty))) ∧ ((InR IntKind.i64 (60 * g68_0 (List.getD (g66_0 x0 58) 0 ByteArray.empty) + (10 * ((↑(UInt8.toNat (List.getD (Array.toList (ByteArray.data (List.getD (g66_0 x0 58) 1 ByteArray.empty))) 0 0)) : Int) - 48) + ((↑(UInt8.toNat (List.getD (Array.toList (ByteArray.data (List.getD (g66_0 x0 58) 1 ByteArray.empty))) 1 0)) : Int) - 48)))) ∧ True)))))))))))))))))))))))))))))
def g15_0 (x0 : ByteArray) : Int := (if ((↑(List.length (g66_0 x0 58)) : Int) != 2) = true then 0 else (if ((↑(ByteArray.size (List.getD (g66_0 x0 58) 1 ByteArray.empty)) : Int) != 2) = true then 0 else (if (!g67_0 (↑(UInt8.toNat (List.getD (Array.toList (ByteArray.data (List.getD (g66_0 x0 58) 1 ByteArray.empty))) 0 0)) : Int)) = true then 0 else (if (!g67_0 (↑(UInt8.toNat (List.getD (Array.toList (ByteArray.data (List.getD (g66_0 x0 58) 1 ByteArray.empty))) 1 0)) : Int)) = true then 0 else (if (!g68_1 (List.getD (g66_0 x0 58) 0 ByteArray.empty)) = true then 0 else (if (!g69_0 (g68_0 (List.getD (g66_0 x0 58) 0 ByteArray.empty))) = true then 0 else (if (Decidable.decide (10 * ((↑(UInt8.toNat (List.getD (Array.toList (ByteArray.data (List.getD (g66_0 x0 58) 1 ByteArray.empty))) 0 0)) : Int) - 48) + ((↑(UInt8.toNat (List.getD (Array.toList (ByteArray.data (List.getD (g66_0 x0 58) 1 ByteArray.empty))) 1 0)) : Int) - 48) > 59)) = true then 0 else (if (!g69_0 (60 * g68_0 (List.getD (g66_0 x0 58) 0 ByteArray.empty) + (10 * ((↑(UInt8.toNat (List.getD (Array.toList (ByteArray.data (List.getD (g66_0 x0 58) 1 ByteArray.empty))) 0 0)) : Int) - 48) + ((↑(UInt8.toNat (List.getD (Array.toList (ByteArray.data (List.getD (g66_0 x0 58) 1 ByteArray.empty))) 1 0)) : Int) - 48)))) = true then 0 else 60 * g68_0 (List.getD (g66_0 x0 58) 0 ByteArray.empty) + (10 * ((↑(UInt8.toNat (List.getD (Array.toList (ByteArray.data (List.getD (g66_0 x0 58) 1 ByteArray.empty))) 0 0)) : Int) - 48) + ((↑(UInt8.toNat (List.getD (Array.toList (ByteArray.data (List.getD (g66_0 x0 58) 1 ByteArray.empty))) 1 0)) : Int) - 48))))))))))
def g15_1 (x0 : ByteArray) : Bool := (if ((↑(List.length (g66_0 x0 58)) : Int) != 2) = true then Bool.false else (if ((↑(ByteArray.size (List.getD (g66_0 x0 58) 1 ByteArray.empty)) : Int) != 2) = true then Bool.false else (if (!g67_0 (↑(UInt8.toNat (List.getD (Array.toList (ByteArray.data (List.getD (g66_0 x0 58) 1 ByteArray.empty))) 0 0)) : Int)) = true then Bool.false else (if (!g67_0 (↑(UInt8.toNat (List.getD (Array.toList (ByteArray.data (List.getD (g66_0 x0 58) 1 ByteArray.empty))) 1 0)) : Int)) = true then Bool.false else (if (!g68_1 (List.getD (g66_0 x0 58) 0 ByteArray.empty)) = true then Bool.false else (if (!g69_0 (g68_0 (List.getD (g66_0 x0 58) 0 ByteArray.empty))) = true then Bool.false else (if (Decidable.decide (10 * ((↑(UInt8.toNat (List.getD (Array.toList (ByteArray.data (List.getD (g66_0 x0 58) 1 ByteArray.empty))) 0 0)) : Int) - 48) + ((↑(UInt8.toNat (List.getD (Array.toList (ByteArray.data (List.getD (g66_0 x0 58) 1 ByteArray.empty))) 1 0)) : Int) - 48) > 59)) = true then Bool.false else (if (!g69_0 (60 * g68_0 (List.getD (g66_0 x0 58) 0 ByteArray.empty) + (10 * ((↑(UInt8.toNat (List.getD (Array.toList (ByteArray.data (List.getD (g66_0 x0 58) 1 ByteArray.empty))) 0 0)) : Int) - 48) + ((↑(UInt8.toNat (List.getD (Array.toList (ByteArray.data (List.getD (g66_0 x0 58) 1 ByteArray.empty))) 1 0)) : Int) - 48)))) = true then Bool.false else Bool.true))))))))
theorem p15_0 (x0 : ByteArray) : runF tab ext15 false 80 [] 2000 [] tys15 Tryd.f15.results [true, true, true, true] [.code b15] (entE 0 0 sig15 (x0, ())) (entL sig15 (x0, ())) = some ([Dyn.mk (Ty.int IntKind.i64) 0, Dyn.mk Ty.bool Bool.false], [], [P66 x0 58, ((↑(List.length (g66_0 x0 58)) : Int) != 2) = Bool.true, Bool.true = Bool.true, Bool.true = Bool.true, Bool.true = Bool.true]) := by kernel_rfl
theorem p15_1 (x0 : ByteArray) : runF tab ext15 false 80 [] 2000 [] tys15 Tryd.f15.results [false, true, true, true] [.code b15] (entE 0 0 sig15 (x0, ())) (entL sig15 (x0, ())) = some ([Dyn.mk (Ty.int IntKind.i64) 0, Dyn.mk Ty.bool Bool.false], [], [P66 x0 58, ((↑(List.length (g66_0 x0 58)) : Int) != 2) = Bool.false, (0 : Int) ≤ (1 : Int), 1 < (↑(List.length (g66_0 x0 58)) : Int), ((↑(ByteArray.size (List.getD (g66_0 x0 58) 1 ByteArray.empty)) : Int) != 2) = Bool.true, Bool.true = Bool.true, Bool.true = Bool.true]) := by kernel_rfl
theorem p15_2 (x0 : ByteArray) : runF tab ext15 false 80 [] 2000 [] tys15 Tryd.f15.results [false, false, true, true] [.code b15] (entE 0 0 sig15 (x0, ())) (entL sig15 (x0, ())) = some ([Dyn.mk (Ty.int IntKind.i64) 0, Dyn.mk Ty.bool Bool.false], [], [P66 x0 58, ((↑(List.length (g66_0 x0 58)) : Int) != 2) = Bool.false, (0 : Int) ≤ (1 : Int), 1 < (↑(List.length (g66_0 x0 58)) : Int), ((↑(ByteArray.size (List.getD (g66_0 x0 58) 1 ByteArray.empty)) : Int) != 2) = Bool.false, (0 : Int) ≤ (1 : Int), 1 < (↑(List.length (g66_0 x0 58)) : Int), (0 : Int) ≤ (0 : Int), 0 < (↑(ByteArray.size (List.getD (g66_0 x0 58) 1 ByteArray.empty)) : Int), True, (!g67_0 (↑(UInt8.toNat (List.getD (Array.toList (ByteArray.data (List.getD (g66_0 x0 58) 1 ByteArray.empty))) 0 0)) : Int)) = Bool.true, Bool.true = Bool.true]) := by kernel_rfl
theorem p15_3 (x0 : ByteArray) : runF tab ext15 false 80 [] 2000 [] tys15 Tryd.f15.results [false, false, false, true] [.code b15] (entE 0 0 sig15 (x0, ())) (entL sig15 (x0, ())) = some ([Dyn.mk (Ty.int IntKind.i64) 0, Dyn.mk Ty.bool Bool.false], [], [P66 x0 58, ((↑(List.length (g66_0 x0 58)) : Int) != 2) = Bool.false, (0 : Int) ≤ (1 : Int), 1 < (↑(List.length (g66_0 x0 58)) : Int), ((↑(ByteArray.size (List.getD (g66_0 x0 58) 1 ByteArray.empty)) : Int) != 2) = Bool.false, (0 : Int) ≤ (1 : Int), 1 < (↑(List.length (g66_0 x0 58)) : Int), (0 : Int) ≤ (0 : Int), 0 < (↑(ByteArray.size (List.getD (g66_0 x0 58) 1 ByteArray.empty)) : Int), True, (!g67_0 (↑(UInt8.toNat (List.getD (Array.toList (ByteArray.data (List.getD (g66_0 x0 58) 1 ByteArray.empty))) 0 0)) : Int)) = Bool.false, (0 : Int) ≤ (1 : Int), 1 < (↑(List.length (g66_0 x0 58)) : Int), (0 : Int) ≤ (1 : Int), 1 < (↑(ByteArray.size (List.getD (g66_0 x0 58) 1 ByteArray.empty)) : Int), True, (!g67_0 (↑(UInt8.toNat (List.getD (Array.toList (ByteArray.data (List.getD (g66_0 x0 58) 1 ByteArray.empty))) 1 0)) : Int)) = Bool.true]) := by kernel_rfl
theorem p15_4 (x0 : ByteArray) : runF tab ext15 false 80 [] 2000 [] tys15 Tryd.f15.results [false, false, false, false, true, true, true, true] [.code b15] (entE 0 0 sig15 (x0, ())) (entL sig15 (x0, ())) = some ([Dyn.mk (Ty.int IntKind.i64) 0, Dyn.mk Ty.bool Bool.false], [], [P66 x0 58, ((↑(List.length (g66_0 x0 58)) : Int) != 2) = Bool.false, (0 : Int) ≤ (1 : Int), 1 < (↑(List.length (g66_0 x0 58)) : Int), ((↑(ByteArray.size (List.getD (g66_0 x0 58) 1 ByteArray.empty)) : Int) != 2) = Bool.false, (0 : Int) ≤ (1 : Int), 1 < (↑(List.length (g66_0 x0 58)) : Int), (0 : Int) ≤ (0 : Int), 0 < (↑(ByteArray.size (List.getD (g66_0 x0 58) 1 ByteArray.empty)) : Int), True, (!g67_0 (↑(UInt8.toNat (List.getD (Array.toList (ByteArray.data (List.getD (g66_0 x0 58) 1 ByteArray.empty))) 0 0)) : Int)) = Bool.false, (0 : Int) ≤ (1 : Int), 1 < (↑(List.length (g66_0 x0 58)) : Int), (0 : Int) ≤ (1 : Int), 1 < (↑(ByteArray.size (List.getD (g66_0 x0 58) 1 ByteArray.empty)) : Int), True, (!g67_0 (↑(UInt8.toNat (List.getD (Array.toList (ByteArray.data (List.getD (g66_0 x0 58) 1 ByteArray.empty))) 1 0)) : Int)) = Bool.false, (0 : Int) ≤ (0 : Int), 0 < (↑(List.length (g66_0 x0 58)) : Int), True, (0 : Int) ≤ (1 : Int), 1 < (↑(List.length (g66_0 x0 58)) : Int), (0 : Int) ≤ (0 : Int), 0 < (↑(ByteArray.size (List.getD (g66_0 x0 58) 1 ByteArray.empty)) : Int), InR IntKind.u8 ((↑(UInt8.toNat (List.getD (Array.toList (ByteArray.data (List.getD (g66_0 x0 58) 1 ByteArray.empty))) 0 0)) : Int) - 48), InR IntKind.i64 ((↑(UInt8.toNat (List.getD (Array.toList (ByteArray.data (List.getD (g66_0 x0 58) 1 ByteArray.empty))) 0 0)) : Int) - 48), InR IntKind.i64 (10 * ((↑(UInt8.toNat (List.getD (Array.toList (ByteArray.data (List.getD (g66_0 x0 58) 1 ByteArray.empty))) 0 0)) : Int) - 48)), (0 : Int) ≤ (1 : Int), 1 < (↑(List.length (g66_0 x0 58)) : Int), (0 : Int) ≤ (1 : Int), 1 < (↑(ByteArray.size (List.getD (g66_0 x0 58) 1 ByteArray.empty)) : Int), InR IntKind.u8 ((↑(UInt8.toNat (List.getD (Array.toList (ByteArray.data (List.getD (g66_0 x0 58) 1 ByteArray.empty))) 1 0)) : Int) - 48), InR IntKind.i64 ((↑(UInt8.toNat (List.getD (Array.toList (ByteArray.data (List.getD (g66_0 x0 58) 1 ByteArray.empty))) 1 0)) : Int) - 48), InR IntKind.i64 (10 * ((↑(UInt8.toNat (List.getD (Array.toList (ByteArray.data (List.getD (g66_0 x0 58) 1 ByteArray.empty))) 0 0)) : Int) - 48) + ((↑(UInt8.toNat (List.getD (Array.toList (ByteArray.data (List.getD (g66_0 x0 58) 1 ByteArray.empty))) 1 0)) : Int) - 48)), (!g68_1 (List.getD (g66_0 x0 58) 0 ByteArray.empty)) = Bool.true, Bool.true = Bool.true, Bool.true = Bool.true, Bool.true = Bool.true]) := by kernel_rfl
theorem p15_5 (x0 : ByteArray) : runF tab ext15 false 80 [] 2000 [] tys15 Tryd.f15.results [false, false, false, false, false, true, true, true] [.code b15] (entE 0 0 sig15 (x0, ())) (entL sig15 (x0, ())) = some ([Dyn.mk (Ty.int IntKind.i64) 0, Dyn.mk Ty.bool Bool.false], [], [P66 x0 58, ((↑(List.length (g66_0 x0 58)) : Int) != 2) = Bool.false, (0 : Int) ≤ (1 : Int), 1 < (↑(List.length (g66_0 x0 58)) : Int), ((↑(ByteArray.size (List.getD (g66_0 x0 58) 1 ByteArray.empty)) : Int) != 2) = Bool.false, (0 : Int) ≤ (1 : Int), 1 < (↑(List.length (g66_0 x0 58)) : Int), (0 : Int) ≤ (0 : Int), 0 < (↑(ByteArray.size (List.getD (g66_0 x0 58) 1 ByteArray.empty)) : Int), True, (!g67_0 (↑(UInt8.toNat (List.getD (Array.toList (ByteArray.data (List.getD (g66_0 x0 58) 1 ByteArray.empty))) 0 0)) : Int)) = Bool.false, (0 : Int) ≤ (1 : Int), 1 < (↑(List.length (g66_0 x0 58)) : Int), (0 : Int) ≤ (1 : Int), 1 < (↑(ByteArray.size (List.getD (g66_0 x0 58) 1 ByteArray.empty)) : Int), True, (!g67_0 (↑(UInt8.toNat (List.getD (Array.toList (ByteArray.data (List.getD (g66_0 x0 58) 1 ByteArray.empty))) 1 0)) : Int)) = Bool.false, (0 : Int) ≤ (0 : Int), 0 < (↑(List.length (g66_0 x0 58)) : Int), True, (0 : Int) ≤ (1 : Int), 1 < (↑(List.length (g66_0 x0 58)) : Int), (0 : Int) ≤ (0 : Int), 0 < (↑(ByteArray.size (List.getD (g66_0 x0 58) 1 ByteArray.empty)) : Int), InR IntKind.u8 ((↑(UInt8.toNat (List.getD (Array.toList (ByteArray.data (List.getD (g66_0 x0 58) 1 ByteArray.empty))) 0 0)) : Int) - 48), InR IntKind.i64 ((↑(UInt8.toNat (List.getD (Array.toList (ByteArray.data (List.getD (g66_0 x0 58) 1 ByteArray.empty))) 0 0)) : Int) - 48), InR IntKind.i64 (10 * ((↑(UInt8.toNat (List.getD (Array.toList (ByteArray.data (List.getD (g66_0 x0 58) 1 ByteArray.empty))) 0 0)) : Int) - 48)), (0 : Int) ≤ (1 : Int), 1 < (↑(List.length (g66_0 x0 58)) : Int), (0 : Int) ≤ (1 : Int), 1 < (↑(ByteArray.size (List.getD (g66_0 x0 58) 1 ByteArray.empty)) : Int), InR IntKind.u8 ((↑(UInt8.toNat (List.getD (Array.toList (ByteArray.data (List.getD (g66_0 x0 58) 1 ByteArray.empty))) 1 0)) : Int) - 48), InR IntKind.i64 ((↑(UInt8.toNat (List.getD (Array.toList (ByteArray.data (List.getD (g66_0 x0 58) 1 ByteArray.empty))) 1 0)) : Int) - 48), InR IntKind.i64 (10 * ((↑(UInt8.toNat (List.getD (Array.toList (ByteArray.data (List.getD (g66_0 x0 58) 1 ByteArray.empty))) 0 0)) : Int) - 48) + ((↑(UInt8.toNat (List.getD (Array.toList (ByteArray.data (List.getD (g66_0 x0 58) 1 ByteArray.empty))) 1 0)) : Int) - 48)), (!g68_1 (List.getD (g66_0 x0 58) 0 ByteArray.empty)) = Bool.false, True, (!g69_0 (g68_0 (List.getD (g66_0 x0 58) 0 ByteArray.empty))) = Bool.true, Bool.true = Bool.true, Bool.true = Bool.true]) := by kernel_rfl
theorem p15_6 (x0 : ByteArray) : runF tab ext15 false 80 [] 2000 [] tys15 Tryd.f15.results [false, false, false, false, false, false, true, true] [.code b15] (entE 0 0 sig15 (x0, ())) (entL sig15 (x0, ())) = some ([Dyn.mk (Ty.int IntKind.i64) 0, Dyn.mk Ty.bool Bool.false], [], [P66 x0 58, ((↑(List.length (g66_0 x0 58)) : Int) != 2) = Bool.false, (0 : Int) ≤ (1 : Int), 1 < (↑(List.length (g66_0 x0 58)) : Int), ((↑(ByteArray.size (List.getD (g66_0 x0 58) 1 ByteArray.empty)) : Int) != 2) = Bool.false, (0 : Int) ≤ (1 : Int), 1 < (↑(List.length (g66_0 x0 58)) : Int), (0 : Int) ≤ (0 : Int), 0 < (↑(ByteArray.size (List.getD (g66_0 x0 58) 1 ByteArray.empty)) : Int), True, (!g67_0 (↑(UInt8.toNat (List.getD (Array.toList (ByteArray.data (List.getD (g66_0 x0 58) 1 ByteArray.empty))) 0 0)) : Int)) = Bool.false, (0 : Int) ≤ (1 : Int), 1 < (↑(List.length (g66_0 x0 58)) : Int), (0 : Int) ≤ (1 : Int), 1 < (↑(ByteArray.size (List.getD (g66_0 x0 58) 1 ByteArray.empty)) : Int), True, (!g67_0 (↑(UInt8.toNat (List.getD (Array.toList (ByteArray.data (List.getD (g66_0 x0 58) 1 ByteArray.empty))) 1 0)) : Int)) = Bool.false, (0 : Int) ≤ (0 : Int), 0 < (↑(List.length (g66_0 x0 58)) : Int), True, (0 : Int) ≤ (1 : Int), 1 < (↑(List.length (g66_0 x0 58)) : Int), (0 : Int) ≤ (0 : Int), 0 < (↑(ByteArray.size (List.getD (g66_0 x0 58) 1 ByteArray.empty)) : Int), InR IntKind.u8 ((↑(UInt8.toNat (List.getD (Array.toList (ByteArray.data (List.getD (g66_0 x0 58) 1 ByteArray.empty))) 0 0)) : Int) - 48), InR IntKind.i64 ((↑(UInt8.toNat (List.getD (Array.toList (ByteArray.data (List.getD (g66_0 x0 58) 1 ByteArray.empty))) 0 0)) : Int) - 48), InR IntKind.i64 (10 * ((↑(UInt8.toNat (List.getD (Array.toList (ByteArray.data (List.getD (g66_0 x0 58) 1 ByteArray.empty))) 0 0)) : Int) - 48)), (0 : Int) ≤ (1 : Int), 1 < (↑(List.length (g66_0 x0 58)) : Int), (0 : Int) ≤ (1 : Int), 1 < (↑(ByteArray.size (List.getD (g66_0 x0 58) 1 ByteArray.empty)) : Int), InR IntKind.u8 ((↑(UInt8.toNat (List.getD (Array.toList (ByteArray.data (List.getD (g66_0 x0 58) 1 ByteArray.empty))) 1 0)) : Int) - 48), InR IntKind.i64 ((↑(UInt8.toNat (List.getD (Array.toList (ByteArray.data (List.getD (g66_0 x0 58) 1 ByteArray.empty))) 1 0)) : Int) - 48), InR IntKind.i64 (10 * ((↑(UInt8.toNat (List.getD (Array.toList (ByteArray.data (List.getD (g66_0 x0 58) 1 ByteArray.empty))) 0 0)) : Int) - 48) + ((↑(UInt8.toNat (List.getD (Array.toList (ByteArray.data (List.getD (g66_0 x0 58) 1 ByteArray.empty))) 1 0)) : Int) - 48)), (!g68_1 (List.getD (g66_0 x0 58) 0 ByteArray.empty)) = Bool.false, True, (!g69_0 (g68_0 (List.getD (g66_0 x0 58) 0 ByteArray.empty))) = Bool.false, Decidable.decide (10 * ((↑(UInt8.toNat (List.getD (Array.toList (ByteArray.data (List.getD (g66_0 x0 58) 1 ByteArray.empty))) 0 0)) : Int) - 48) + ((↑(UInt8.toNat (List.getD (Array.toList (ByteArray.data (List.getD (g66_0 x0 58) 1 ByteArray.empty))) 1 0)) : Int) - 48) > 59) = Bool.true, Bool.true = Bool.true]) := by kernel_rfl
theorem p15_7 (x0 : ByteArray) : runF tab ext15 false 80 [] 2000 [] tys15 Tryd.f15.results [false, false, false, false, false, false, false, true] [.code b15] (entE 0 0 sig15 (x0, ())) (entL sig15 (x0, ())) = some ([Dyn.mk (Ty.int IntKind.i64) 0, Dyn.mk Ty.bool Bool.false], [], [P66 x0 58, ((↑(List.length (g66_0 x0 58)) : Int) != 2) = Bool.false, (0 : Int) ≤ (1 : Int), 1 < (↑(List.length (g66_0 x0 58)) : Int), ((↑(ByteArray.size (List.getD (g66_0 x0 58) 1 ByteArray.empty)) : Int) != 2) = Bool.false, (0 : Int) ≤ (1 : Int), 1 < (↑(List.length (g66_0 x0 58)) : Int), (0 : Int) ≤ (0 : Int), 0 < (↑(ByteArray.size (List.getD (g66_0 x0 58) 1 ByteArray.empty)) : Int), True, (!g67_0 (↑(UInt8.toNat (List.getD (Array.toList (ByteArray.data (List.getD (g66_0 x0 58) 1 ByteArray.empty))) 0 0)) : Int)) = Bool.false, (0 : Int) ≤ (1 : Int), 1 < (↑(List.length (g66_0 x0 58)) : Int), (0 : Int) ≤ (1 : Int), 1 < (↑(ByteArray.size (List.getD (g66_0 x0 58) 1 ByteArray.empty)) : Int), True, (!g67_0 (↑(UInt8.toNat (List.getD (Array.toList (ByteArray.data (List.getD (g66_0 x0 58) 1 ByteArray.empty))) 1 0)) : Int)) = Bool.false, (0 : Int) ≤ (0 : Int), 0 < (↑(List.length (g66_0 x0 58)) : Int), True, (0 : Int) ≤ (1 : Int), 1 < (↑(List.length (g66_0 x0 58)) : Int), (0 : Int) ≤ (0 : Int), 0 < (↑(ByteArray.size (List.getD (g66_0 x0 58) 1 ByteArray.empty)) : Int), InR IntKind.u8 ((↑(UInt8.toNat (List.getD (Array.toList (ByteArray.data (List.getD (g66_0 x0 58) 1 ByteArray.empty))) 0 0)) : Int) - 48), InR IntKind.i64 ((↑(UInt8.toNat (List.getD (Array.toList (ByteArray.data (List.getD (g66_0 x0 58) 1 ByteArray.empty))) 0 0)) : Int) - 48), InR IntKind.i64 (10 * ((↑(UInt8.toNat (List.getD (Array.toList (ByteArray.data (List.getD (g66_0 x0 58) 1 ByteArray.empty))) 0 0)) : Int) - 48)), (0 : Int) ≤ (1 : Int), 1 < (↑(List.length (g66_0 x0 58)) : Int), (0 : Int) ≤ (1 : Int), 1 < (↑(ByteArray.size (List.getD (g66_0 x0 58) 1 ByteArray.empty)) : Int), InR IntKind.u8 ((↑(UInt8.toNat (List.getD (Array.toList (ByteArray.data (List.getD (g66_0 x0 58) 1 ByteArray.empty))) 1 0)) : Int) - 48), InR IntKind.i64 ((↑(UInt8.toNat (List.getD (Array.toList (ByteArray.data (List.getD (g66_0 x0 58) 1 ByteArray.empty))) 1 0)) : Int) - 48), InR IntKind.i64 (10 * ((↑(UInt8.toNat (List.getD (Array.toList (ByteArray.data (List.getD (g66_0 x0 58) 1 ByteArray.empty))) 0 0)) : Int) - 48) + ((↑(UInt8.toNat (List.getD (Array.toList (ByteArray.data (List.getD (g66_0 x0 58) 1 ByteArray.empty))) 1 0)) : Int) - 48)), (!g68_1 (List.getD (g66_0 x0 58) 0 ByteArray.empty)) = Bool.false, True, (!g69_0 (g68_0 (List.getD (g66_0 x0 58) 0 ByteArray.empty))) = Bool.false, Decidable.decide (10 * ((↑(UInt8.toNat (List.getD (Array.toList (ByteArray.data (List.getD (g66_0 x0 58) 1 ByteArray.empty))) 0 0)) : Int) - 48) + ((↑(UInt8.toNat (List.getD (Array.toList (ByteArray.data (List.getD (g66_0 x0 58) 1 ByteArray.empty))) 1 0)) : Int) - 48) > 59) = Bool.false, InR IntKind.i64 (60 * g68_0 (List.getD (g66_0 x0 58) 0 ByteArray.empty)), InR IntKind.i64 (60 * g68_0 (List.getD (g66_0 x0 58) 0 ByteArray.empty) + (10 * ((↑(UInt8.toNat (List.getD (Array.toList (ByteArray.data (List.getD (g66_0 x0 58) 1 ByteArray.empty))) 0 0)) : Int) - 48) + ((↑(UInt8.toNat (List.getD (Array.toList (ByteArray.data (List.getD (g66_0 x0 58) 1 ByteArray.empty))) 1 0)) : Int) - 48))), True, (!g69_0 (60 * g68_0 (List.getD (g66_0 x0 58) 0 ByteArray.empty) + (10 * ((↑(UInt8.toNat (List.getD (Array.toList (ByteArray.data (List.getD (g66_0 x0 58) 1 ByteArray.empty))) 0 0)) : Int) - 48) + ((↑(UInt8.toNat (List.getD (Array.toList (ByteArray.data (List.getD (g66_0 x0 58) 1 ByteArray.empty))) 1 0)) : Int) - 48)))) = Bool.true]) := by kernel_rfl
theorem p15_8 (x0 : ByteArray) : runF tab ext15 false 80 [] 2000 [] tys15 Tryd.f15.results [false, false, false, false, false, false, false, false] [.code b15] (entE 0 0 sig15 (x0, ())) (entL sig15 (x0, ())) = some ([Dyn.mk (Ty.int IntKind.i64) (60 * g68_0 (List.getD (g66_0 x0 58) 0 ByteArray.empty) + (10 * ((↑(UInt8.toNat (List.getD (Array.toList (ByteArray.data (List.getD (g66_0 x0 58) 1 ByteArray.empty))) 0 0)) : Int) - 48) + ((↑(UInt8.toNat (List.getD (Array.toList (ByteArray.data (List.getD (g66_0 x0 58) 1 ByteArray.empty))) 1 0)) : Int) - 48))), Dyn.mk Ty.bool Bool.true], [], [P66 x0 58, ((↑(List.length (g66_0 x0 58)) : Int) != 2) = Bool.false, (0 : Int) ≤ (1 : Int), 1 < (↑(List.length (g66_0 x0 58)) : Int), ((↑(ByteArray.size (List.getD (g66_0 x0 58) 1 ByteArray.empty)) : Int) != 2) = Bool.false, (0 : Int) ≤ (1 : Int), 1 < (↑(List.length (g66_0 x0 58)) : Int), (0 : Int) ≤ (0 : Int), 0 < (↑(ByteArray.size (List.getD (g66_0 x0 58) 1 ByteArray.empty)) : Int), True, (!g67_0 (↑(UInt8.toNat (List.getD (Array.toList (ByteArray.data (List.getD (g66_0 x0 58) 1 ByteArray.empty))) 0 0)) : Int)) = Bool.false, (0 : Int) ≤ (1 : Int), 1 < (↑(List.length (g66_0 x0 58)) : Int), (0 : Int) ≤ (1 : Int), 1 < (↑(ByteArray.size (List.getD (g66_0 x0 58) 1 ByteArray.empty)) : Int), True, (!g67_0 (↑(UInt8.toNat (List.getD (Array.toList (ByteArray.data (List.getD (g66_0 x0 58) 1 ByteArray.empty))) 1 0)) : Int)) = Bool.false, (0 : Int) ≤ (0 : Int), 0 < (↑(List.length (g66_0 x0 58)) : Int), True, (0 : Int) ≤ (1 : Int), 1 < (↑(List.length (g66_0 x0 58)) : Int), (0 : Int) ≤ (0 : Int), 0 < (↑(ByteArray.size (List.getD (g66_0 x0 58) 1 ByteArray.empty)) : Int), InR IntKind.u8 ((↑(UInt8.toNat (List.getD (Array.toList (ByteArray.data (List.getD (g66_0 x0 58) 1 ByteArray.empty))) 0 0)) : Int) - 48), InR IntKind.i64 ((↑(UInt8.toNat (List.getD (Array.toList (ByteArray.data (List.getD (g66_0 x0 58) 1 ByteArray.empty))) 0 0)) : Int) - 48), InR IntKind.i64 (10 * ((↑(UInt8.toNat (List.getD (Array.toList (ByteArray.data (List.getD (g66_0 x0 58) 1 ByteArray.empty))) 0 0)) : Int) - 48)), (0 : Int) ≤ (1 : Int), 1 < (↑(List.length (g66_0 x0 58)) : Int), (0 : Int) ≤ (1 : Int), 1 < (↑(ByteArray.size (List.getD (g66_0 x0 58) 1 ByteArray.empty)) : Int), InR IntKind.u8 ((↑(UInt8.toNat (List.getD (Array.toList (ByteArray.data (List.getD (g66_0 x0 58) 1 ByteArray.empty))) 1 0)) : Int) - 48), InR IntKind.i64 ((↑(UInt8.toNat (List.getD (Array.toList (ByteArray.data (List.getD (g66_0 x0 58) 1 ByteArray.empty))) 1 0)) : Int) - 48), InR IntKind.i64 (10 * ((↑(UInt8.toNat (List.getD (Array.toList (ByteArray.data (List.getD (g66_0 x0 58) 1 ByteArray.empty))) 0 0)) : Int) - 48) + ((↑(UInt8.toNat (List.getD (Array.toList (ByteArray.data (List.getD (g66_0 x0 58) 1 ByteArray.empty))) 1 0)) : Int) - 48)), (!g68_1 (List.getD (g66_0 x0 58) 0 ByteArray.empty)) = Bool.false, True, (!g69_0 (g68_0 (List.getD (g66_0 x0 58) 0 ByteArray.empty))) = Bool.false, Decidable.decide (10 * ((↑(UInt8.toNat (List.getD (Array.toList (ByteArray.data (List.getD (g66_0 x0 58) 1 ByteArray.empty))) 0 0)) : Int) - 48) + ((↑(UInt8.toNat (List.getD (Array.toList (ByteArray.data (List.getD (g66_0 x0 58) 1 ByteArray.empty))) 1 0)) : Int) - 48) > 59) = Bool.false, InR IntKind.i64 (60 * g68_0 (List.getD (g66_0 x0 58) 0 ByteArray.empty)), InR IntKind.i64 (60 * g68_0 (List.getD (g66_0 x0 58) 0 ByteArray.empty) + (10 * ((↑(UInt8.toNat (List.getD (Array.toList (ByteArray.data (List.getD (g66_0 x0 58) 1 ByteArray.empty))) 0 0)) : Int) - 48) + ((↑(UInt8.toNat (List.getD (Array.toList (ByteArray.data (List.getD (g66_0 x0 58) 1 ByteArray.empty))) 1 0)) : Int) - 48))), True, (!g69_0 (60 * g68_0 (List.getD (g66_0 x0 58) 0 ByteArray.empty) + (10 * ((↑(UInt8.toNat (List.getD (Array.toList (ByteArray.data (List.getD (g66_0 x0 58) 1 ByteArray.empty))) 0 0)) : Int) - 48) + ((↑(UInt8.toNat (List.getD (Array.toList (ByteArray.data (List.getD (g66_0 x0 58) 1 ByteArray.empty))) 1 0)) : Int) - 48)))) = Bool.false, InR IntKind.i64 (60 * g68_0 (List.getD (g66_0 x0 58) 0 ByteArray.empty)), InR IntKind.i64 (60 * g68_0 (List.getD (g66_0 x0 58) 0 ByteArray.empty) + (10 * ((↑(UInt8.toNat (List.getD (Array.toList (ByteArray.data (List.getD (g66_0 x0 58) 1 ByteArray.empty))) 0 0)) : Int) - 48) + ((↑(UInt8.toNat (List.getD (Array.toList (ByteArray.data (List.getD (g66_0 x0 58) 1 ByteArray.empty))) 1 0)) : Int) - 48)))]) := by kernel_rfl
theorem at15 (x0 : ByteArray) (h : P15 x0) (w0 : World) (O : List Nat) (q : Nat → Value) : AtV Tryd.prog 15 (PostR [⟨Ty.int IntKind.i64, g15_0 x0⟩, ⟨Ty.bool, g15_1 x0⟩] [] [] q w0 O) 80 w0 O q [] [.code b15] (entE 0 0 sig15 (x0, ())) (entL sig15 (x0, ())) := by
  unfold P15 at h
  unfold g15_0 g15_1
  obtain ⟨s0, h⟩ := h
  by_cases b0 : ((↑(List.length (g66_0 x0 58)) : Int) != 2) = true
  · try simp only [if_pos b0] at h ⊢
    exact AtV.fin Tryd.func15 tabOk ext15Ok mixed (p15_0 x0) ⟨s0, b0, rfl, rfl, rfl, trivial⟩
  · try simp only [if_neg b0] at h ⊢
    replace b0 := Bool.eq_false_iff.2 b0
    obtain ⟨s1, h⟩ := h
    by_cases b1 : ((↑(ByteArray.size (List.getD (g66_0 x0 58) 1 ByteArray.empty)) : Int) != 2) = true
    · try simp only [if_pos b1] at h ⊢
      exact AtV.fin Tryd.func15 tabOk ext15Ok mixed (p15_1 x0) ⟨s0, b0, (by decide), s1, b1, rfl, rfl, trivial⟩
    · try simp only [if_neg b1] at h ⊢
      replace b1 := Bool.eq_false_iff.2 b1
      obtain ⟨s2, h⟩ := h
      obtain ⟨s3, h⟩ := h
      by_cases b2 : (!g67_0 (↑(UInt8.toNat (List.getD (Array.toList (ByteArray.data (List.getD (g66_0 x0 58) 1 ByteArray.empty))) 0 0)) : Int)) = true
      · try simp only [if_pos b2] at h ⊢
        exact AtV.fin Tryd.func15 tabOk ext15Ok mixed (p15_2 x0) ⟨s0, b0, (by decide), s1, b1, (by decide), s2, (by decide), s3, trivial, b2, rfl, trivial⟩
      · try simp only [if_neg b2] at h ⊢
        replace b2 := Bool.eq_false_iff.2 b2
        obtain ⟨s4, h⟩ := h
        obtain ⟨s5, h⟩ := h
        by_cases b3 : (!g67_0 (↑(UInt8.toNat (List.getD (Array.toList (ByteArray.data (List.getD (g66_0 x0 58) 1 ByteArray.empty))) 1 0)) : Int)) = true
        · try simp only [if_pos b3] at h ⊢
          exact AtV.fin Tryd.func15 tabOk ext15Ok mixed (p15_3 x0) ⟨s0, b0, (by decide), s1, b1, (by decide), s2, (by decide), s3, trivial, b2, (by decide), s4, (by decide), s5, trivial, b3, trivial⟩
        · try simp only [if_neg b3] at h ⊢
          replace b3 := Bool.eq_false_iff.2 b3
          obtain ⟨s6, h⟩ := h
          obtain ⟨s7, h⟩ := h
          obtain ⟨s8, h⟩ := h
          obtain ⟨s9, h⟩ := h
          obtain ⟨s10, h⟩ := h
          obtain ⟨s11, h⟩ := h
          obtain ⟨s12, h⟩ := h
          obtain ⟨s13, h⟩ := h
          obtain ⟨s14, h⟩ := h
          obtain ⟨s15, h⟩ := h
          obtain ⟨s16, h⟩ := h
          by_cases b4 : (!g68_1 (List.getD (g66_0 x0 58) 0 ByteArray.empty)) = true
          · try simp only [if_pos b4] at h ⊢
            exact AtV.fin Tryd.func15 tabOk ext15Ok mixed (p15_4 x0) ⟨s0, b0, (by decide), s1, b1, (by decide), s2, (by decide), s3, trivial, b2, (by decide), s4, (by decide), s5, trivial, b3, (by decide), s6, trivial, (by decide), s7, (by decide), s8, s9, s10, s11, (by decide), s12, (by decide), s13, s14, s15, s16, b4, rfl, rfl, rfl, trivial⟩
          · try simp only [if_neg b4] at h ⊢
            replace b4 := Bool.eq_false_iff.2 b4
            by_cases b5 : (!g69_0 (g68_0 (List.getD (g66_0 x0 58) 0 ByteArray.empty))) = true
            · try simp only [if_pos b5] at h ⊢
              exact AtV.fin Tryd.func15 tabOk ext15Ok mixed (p15_5 x0) ⟨s0, b0, (by decide), s1, b1, (by decide), s2, (by decide), s3, trivial, b2, (by decide), s4, (by decide), s5, trivial, b3, (by decide), s6, trivial, (by decide), s7, (by decide), s8, s9, s10, s11, (by decide), s12, (by decide), s13, s14, s15, s16, b4, trivial, b5, rfl, rfl, trivial⟩
            · try simp only [if_neg b5] at h ⊢
              replace b5 := Bool.eq_false_iff.2 b5
              by_cases b6 : (Decidable.decide (10 * ((↑(UInt8.toNat (List.getD (Array.toList (ByteArray.data (List.getD (g66_0 x0 58) 1 ByteArray.empty))) 0 0)) : Int) - 48) + ((↑(UInt8.toNat (List.getD (Array.toList (ByteArray.data (List.getD (g66_0 x0 58) 1 ByteArray.empty))) 1 0)) : Int) - 48) > 59)) = true
              · try simp only [if_pos b6] at h ⊢
                exact AtV.fin Tryd.func15 tabOk ext15Ok mixed (p15_6 x0) ⟨s0, b0, (by decide), s1, b1, (by decide), s2, (by decide), s3, trivial, b2, (by decide), s4, (by decide), s5, trivial, b3, (by decide), s6, trivial, (by decide), s7, (by decide), s8, s9, s10, s11, (by decide), s12, (by decide), s13, s14, s15, s16, b4, trivial, b5, b6, rfl, trivial⟩
              · try simp only [if_neg b6] at h ⊢
                replace b6 := Bool.eq_false_iff.2 b6
                obtain ⟨s17, h⟩ := h
                obtain ⟨s18, h⟩ := h
                by_cases b7 : (!g69_0 (60 * g68_0 (List.getD (g66_0 x0 58) 0 ByteArray.empty) + (10 * ((↑(UInt8.toNat (List.getD (Array.toList (ByteArray.data (List.getD (g66_0 x0 58) 1 ByteArray.empty))) 0 0)) : Int) - 48) + ((↑(UInt8.toNat (List.getD (Array.toList (ByteArray.data (List.getD (g66_0 x0 58) 1 ByteArray.empty))) 1 0)) : Int) - 48)))) = true
                · try simp only [if_pos b7] at h ⊢
                  exact AtV.fin Tryd.func15 tabOk ext15Ok mixed (p15_7 x0) ⟨s0, b0, (by decide), s1, b1, (by decide), s2, (by decide), s3, trivial, b2, (by decide), s4, (by decide), s5, trivial, b3, (by decide), s6, trivial, (by decide), s7, (by decide), s8, s9, s10, s11, (by decide), s12, (by decide), s13, s14, s15, s16, b4, trivial, b5, b6, s17, s18, trivial, b7, trivial⟩
                · try simp only [if_neg b7] at h ⊢
                  replace b7 := Bool.eq_false_iff.2 b7
                  obtain ⟨s19, h⟩ := h
                  obtain ⟨s20, h⟩ := h
                  exact AtV.fin Tryd.func15 tabOk ext15Ok mixed (p15_8 x0) ⟨s0, b0, (by decide), s1, b1, (by decide), s2, (by decide), s3, trivial, b2, (by decide), s4, (by decide), s5, trivial, b3, (by decide), s6, trivial, (by decide), s7, (by decide), s8, s9, s10, s11, (by decide), s12, (by decide), s13, s14, s15, s16, b4, trivial, b5, b6, s17, s18, trivial, b7, s19, s20, trivial⟩

def S15 : Am.Spec := { sig := sig15, pre := fun ⟨x0, _⟩ => P15 x0, res := fun ⟨x0, _⟩ => [⟨Ty.int IntKind.i64, g15_0 x0⟩, ⟨Ty.bool, g15_1 x0⟩] }
theorem con15 : Contract Tryd.prog 15 S15 := contract_of Tryd.func15 hb15 (Nat.le_of_ble_eq_true (by kernel_rfl)) (fun ⟨x0, _⟩ h _ w0 O q => at15 x0 h w0 O q)


end Go.Proofs.YtakodkjcmacofaaDoor

/- The contracts of the library that this program uses, laid at this program. Written by a tool of the kit. -/
set_option linter.unusedVariables false
set_option maxRecDepth 100000
namespace Go.Proofs
open Go.Shelf
def Tryd.lays156_ren : Go.Shelf.Ren := ⟨fun | 156 => 157 | 165 => 169 | 166 => 93 | 169 => 97 | 240 => 140 | 241 => 187 | 276 => 166 | 277 => 196 | n => n, fun | 31 => 67 | 9 => 9 | 3 => 3 | 4 => 4 | 0 => 0 | 20 => 20 | 72 => 95 | 76 => 98 | 70 => 93 | 37 => 45 | 75 => 97 | 127 => 133 | 164 => 143 | 5 => 5 | 80 => 102 | n => n, fun | n => n⟩
theorem Tryd.lays156 : Go.Proofs.Lays.n156 Tryd.prog Tryd.lays156_ren := {
  mixed := by kernel_rfl
  f156 := Tryd.func157.trans (congrArg some (by kernel_rfl))
  f165 := Tryd.func169.trans (congrArg some (by kernel_rfl))
  f166 := Tryd.func93.trans (congrArg some (by kernel_rfl))
  f169 := Tryd.func97.trans (congrArg some (by kernel_rfl))
  f240 := Tryd.func140.trans (congrArg some (by kernel_rfl))
  f241 := Tryd.func187.trans (congrArg some (by kernel_rfl))
  f276 := Tryd.func166.trans (congrArg some (by kernel_rfl))
  f277 := Tryd.func196.trans (congrArg some (by kernel_rfl))
  t0 := Tryd.underlying0
  a0 := Tryd.isAgg0
  z0 := Tryd.sizeOf0
  v0 := Tryd.zeroValue0
  t3 := Tryd.underlying3
  a3 := Tryd.isAgg3
  z3 := Tryd.sizeOf3
  v3 := Tryd.zeroValue3
  t4 := Tryd.underlying4
  a4 := Tryd.isAgg4
  z4 := Tryd.sizeOf4
  v4 := Tryd.zeroValue4
  t9 := Tryd.underlying9
  a9 := Tryd.isAgg9
  z9 := Tryd.sizeOf9
  v9 := Tryd.zeroValue9
  t20 := Tryd.underlying20
  a20 := Tryd.isAgg20
  z20 := Tryd.sizeOf20
  v20 := Tryd.zeroValue20
  t31 := Tryd.underlying67
  a31 := Tryd.isAgg67
  z31 := Tryd.sizeOf67
  v31 := Tryd.zeroValue67
  t37 := Tryd.underlying45
  a37 := Tryd.isAgg45
  z37 := Tryd.sizeOf45
  v37 := Tryd.zeroValue45
  t70 := Tryd.underlying93
  a70 := Tryd.isAgg93
  z70 := Tryd.sizeOf93
  v70 := Tryd.zeroValue93
  t72 := Tryd.underlying95
  a72 := Tryd.isAgg95
  z72 := Tryd.sizeOf95
  v72 := Tryd.zeroValue95
  t75 := Tryd.underlying97
  a75 := Tryd.isAgg97
  z75 := Tryd.sizeOf97
  v75 := Tryd.zeroValue97
  t76 := Tryd.underlying98
  a76 := Tryd.isAgg98
  z76 := Tryd.sizeOf98
  v76 := Tryd.zeroValue98
  t127 := Tryd.underlying133
  a127 := Tryd.isAgg133
  z127 := Tryd.sizeOf133
  v127 := Tryd.zeroValue133
  t164 := Tryd.underlying143
  a164 := Tryd.isAgg143
  z164 := Tryd.sizeOf143
  v164 := Tryd.zeroValue143 }
theorem Tryd.Builder_Extra_156 : Builder.Extra Tryd.prog Tryd.lays156_ren := {
  sizeBuilder := by kernel_rfl
  liesBuilder := by kernel_rfl
  t5 := Tryd.underlying5
  a5 := Tryd.isAgg5
  z5 := Tryd.sizeOf5
  v5 := Tryd.zeroValue5
  infoByte := by kernel_rfl
  cellsByte := by kernel_rfl
  sizeByte := by kernel_rfl
  neB5 := by decide }
open Go.RowKit in theorem Tryd.strings_Join_none (a : Option Addr) (c : Nat) (sep : ByteArray) (w : World) :
    Calls Tryd.prog 157 #[.slice a 0 c, .string sep] w fun e w' => e = .returned (.string ⟨#[]⟩) ∧ w' = w := Any.strings_Join_none Tryd.lays156 Tryd.Builder_Extra_156 a c sep w
open Go.RowKit in theorem Tryd.strings_Join (bk o c : Nat) (xs : List ByteArray) (sep : ByteArray) (w : World) (hcells : ∀ (j : Nat) x, xs[j]? = some x → w.cell? ⟨bk, o + j, none⟩ = some (.string x)) (hbk : bk < w.heap.size) (hN : xs.length ≤ 140737488355328) (hcap : xs.length ≤ c) (hlen : (Lib.join (xs.map (·.data.toList)) sep.data.toList).length ≤ 140737488355328) :
    Calls Tryd.prog 157 #[.slice (some ⟨bk, o, none⟩) xs.length c, .string sep] w fun e w' => e = .returned (.string ⟨(Lib.join (xs.map (·.data.toList)) sep.data.toList).toArray⟩) ∧ Below w.heap.size w w' := Any.strings_Join Tryd.lays156 Tryd.Builder_Extra_156 bk o c xs sep w hcells hbk hN hcap hlen
def Tryd.laysM173_ren : Go.Shelf.Ren := ⟨fun | 173 => 141 | 246 => 167 | 283 => 181 | 284 => 182 | 285 => 183 | 286 => 184 | 129 => 192 | 317 => 191 | 318 => 193 | 319 => 194 | 320 => 195 | 337 => 197 | 338 => 198 | n => n, fun | 2 => 2 | 3 => 3 | 9 => 9 | 4 => 4 | 171 => 157 | 0 => 0 | 53 => 134 | 37 => 45 | 5 => 5 | 173 => 160 | 212 => 169 | 51 => 162 | 20 => 20 | 213 => 170 | 46 => 145 | 232 => 179 | 233 => 180 | n => n, fun | 17 => 1 | 18 => 4 | 19 => 5 | n => n⟩
theorem Tryd.laysM173 : Go.Proofs.LaysM.n173 Tryd.prog Tryd.laysM173_ren := {
  mixed := by kernel_rfl
  f129 := Tryd.func192.trans (congrArg some (by kernel_rfl))
  f173 := Tryd.func141.trans (congrArg some (by kernel_rfl))
  f246 := Tryd.func167.trans (congrArg some (by kernel_rfl))
  f283 := Tryd.func181.trans (congrArg some (by kernel_rfl))
  f284 := Tryd.func182.trans (congrArg some (by kernel_rfl))
  f285 := Tryd.func183.trans (congrArg some (by kernel_rfl))
  f286 := Tryd.func184.trans (congrArg some (by kernel_rfl))
  f317 := Tryd.func191.trans (congrArg some (by kernel_rfl))
  f318 := Tryd.func193.trans (congrArg some (by kernel_rfl))
  f319 := Tryd.func194.trans (congrArg some (by kernel_rfl))
  f320 := Tryd.func195.trans (congrArg some (by kernel_rfl))
  f337 := Tryd.func197.trans (congrArg some (by kernel_rfl))
  f338 := Tryd.func198.trans (congrArg some (by kernel_rfl))
  t0 := Tryd.underlying0
  a0 := Tryd.isAgg0
  z0 := Tryd.sizeOf0
  v0 := Tryd.zeroValue0
  t2 := Tryd.underlying2
  a2 := Tryd.isAgg2
  z2 := Tryd.sizeOf2
  v2 := Tryd.zeroValue2
  t3 := Tryd.underlying3
  a3 := Tryd.isAgg3
  z3 := Tryd.sizeOf3
  v3 := Tryd.zeroValue3
  t4 := Tryd.underlying4
  a4 := Tryd.isAgg4
  z4 := Tryd.sizeOf4
  v4 := Tryd.zeroValue4
  t5 := Tryd.underlying5
  a5 := Tryd.isAgg5
  z5 := Tryd.sizeOf5
  v5 := Tryd.zeroValue5
  t9 := Tryd.underlying9
  a9 := Tryd.isAgg9
  z9 := Tryd.sizeOf9
  v9 := Tryd.zeroValue9
  t20 := Tryd.underlying20
  a20 := Tryd.isAgg20
  z20 := Tryd.sizeOf20
  v20 := Tryd.zeroValue20
  t37 := Tryd.underlying45
  a37 := Tryd.isAgg45
  z37 := Tryd.sizeOf45
  v37 := Tryd.zeroValue45
  t46 := Tryd.underlying145
  a46 := Tryd.isAgg145
  z46 := Tryd.sizeOf145
  v46 := Tryd.zeroValue145
  t51 := Tryd.underlying162
  a51 := Tryd.isAgg162
  z51 := Tryd.sizeOf162
  v51 := Tryd.zeroValue162
  t53 := Tryd.underlying134
  a53 := Tryd.isAgg134
  z53 := Tryd.sizeOf134
  v53 := Tryd.zeroValue134
  t171 := Tryd.underlying157
  a171 := Tryd.isAgg157
  z171 := Tryd.sizeOf157
  v171 := Tryd.zeroValue157
  t173 := Tryd.underlying160
  a173 := Tryd.isAgg160
  z173 := Tryd.sizeOf160
  v173 := Tryd.zeroValue160
  t212 := Tryd.underlying169
  a212 := Tryd.isAgg169
  z212 := Tryd.sizeOf169
  v212 := Tryd.zeroValue169
  t213 := Tryd.underlying170
  a213 := Tryd.isAgg170
  z213 := Tryd.sizeOf170
  t232 := Tryd.underlying179
  a232 := Tryd.isAgg179
  z232 := Tryd.sizeOf179
  v232 := Tryd.zeroValue179
  t233 := Tryd.underlying180
  a233 := Tryd.isAgg180
  z233 := Tryd.sizeOf180
  v233 := Tryd.zeroValue180
  g17 := by kernel_rfl
  g18 := by kernel_rfl
  g19 := by kernel_rfl
  i0 := by kernel_rfl
  i2 := by kernel_rfl
  i3 := by kernel_rfl
  i4 := by kernel_rfl
  i5 := by kernel_rfl
  i9 := by kernel_rfl
  i20 := by kernel_rfl
  i37 := by kernel_rfl
  i46 := by kernel_rfl
  i51 := by kernel_rfl
  i53 := by kernel_rfl
  i171 := by kernel_rfl
  i173 := by kernel_rfl
  i212 := by kernel_rfl
  i232 := by kernel_rfl
  i233 := by kernel_rfl
  m17 := by kernel_rfl
  m18 := by kernel_rfl
  m19 := by kernel_rfl }
open Go.RowKit Go.Sort Go.Lib in theorem Tryd.strconv_FormatInt_10 (n : Int) (h0 : -9223372036854775808 ≤ n) (h1 : n ≤ 9223372036854775807) (w : World) (htab : Lib.TabIs Tryd.prog w "internal/strconv.uint64pow10" .u64 Lib.pow10Tab) :
    Calls Tryd.prog 141 #[.int .i64 n, .int .i64 10] w fun e w' => e = .returned (.string ⟨(Lib.itoa n).toArray⟩) ∧ ∃ k os, w' = grow (w.drewN k) os := Any.strconv_FormatInt_10 Tryd.laysM173 n h0 h1 w htab
def Tryd.lays144_ren : Go.Shelf.Ren := ⟨fun | 144 => 163 | 143 => 162 | 219 => 147 | 217 => 171 | 225 => 172 | 224 => 173 | 267 => 174 | 266 => 188 | 314 => 189 | n => n, fun | 9 => 9 | 4 => 4 | 3 => 3 | 5 => 5 | 46 => 145 | 146 => 163 | 51 => 162 | n => n, fun | 1 => 0 | n => n⟩
theorem Tryd.lays144 : Go.Proofs.Lays.n144 Tryd.prog Tryd.lays144_ren := {
  mixed := by kernel_rfl
  f143 := Tryd.func162.trans (congrArg some (by kernel_rfl))
  f144 := Tryd.func163.trans (congrArg some (by kernel_rfl))
  f217 := Tryd.func171.trans (congrArg some (by kernel_rfl))
  f219 := Tryd.func147.trans (congrArg some (by kernel_rfl))
  f224 := Tryd.func173.trans (congrArg some (by kernel_rfl))
  f225 := Tryd.func172.trans (congrArg some (by kernel_rfl))
  f266 := Tryd.func188.trans (congrArg some (by kernel_rfl))
  f267 := Tryd.func174.trans (congrArg some (by kernel_rfl))
  f314 := Tryd.func189.trans (congrArg some (by kernel_rfl))
  t3 := Tryd.underlying3
  a3 := Tryd.isAgg3
  z3 := Tryd.sizeOf3
  v3 := Tryd.zeroValue3
  t4 := Tryd.underlying4
  a4 := Tryd.isAgg4
  z4 := Tryd.sizeOf4
  v4 := Tryd.zeroValue4
  t5 := Tryd.underlying5
  a5 := Tryd.isAgg5
  z5 := Tryd.sizeOf5
  v5 := Tryd.zeroValue5
  t9 := Tryd.underlying9
  a9 := Tryd.isAgg9
  z9 := Tryd.sizeOf9
  v9 := Tryd.zeroValue9
  t46 := Tryd.underlying145
  a46 := Tryd.isAgg145
  z46 := Tryd.sizeOf145
  v46 := Tryd.zeroValue145
  t51 := Tryd.underlying162
  a51 := Tryd.isAgg162
  z51 := Tryd.sizeOf162
  v51 := Tryd.zeroValue162
  t146 := Tryd.underlying163
  a146 := Tryd.isAgg163
  z146 := Tryd.sizeOf163
  v146 := Tryd.zeroValue163
  g1 := by kernel_rfl }
open Go.RowKit Go.Lib in theorem Tryd.strings_Contains (s sub : ByteArray) (m : Int) (w : World) (hs : s.size < 4294967281) (hm : w.cell? ⟨0, 0, none⟩ = some (.int .i64 m)) :
    Calls Tryd.prog 163 #[.string s, .string sub] w fun e w' => e = .returned (.bool (Lib.contains s.data.toList sub.data.toList)) ∧ w' = w := Any.strings_Contains Tryd.lays144 s sub m w hs hm
def Tryd.lays145_ren : Go.Shelf.Ren := ⟨fun | 145 => 64 | 220 => 123 | 219 => 147 | 217 => 171 | 225 => 172 | 224 => 173 | 267 => 174 | 266 => 188 | 314 => 189 | n => n, fun | 9 => 9 | 4 => 4 | 59 => 64 | 3 => 3 | 5 => 5 | 46 => 145 | 146 => 163 | 51 => 162 | n => n, fun | 1 => 0 | n => n⟩
theorem Tryd.lays145 : Go.Proofs.Lays.n145 Tryd.prog Tryd.lays145_ren := {
  mixed := by kernel_rfl
  f145 := Tryd.func64.trans (congrArg some (by kernel_rfl))
  f217 := Tryd.func171.trans (congrArg some (by kernel_rfl))
  f219 := Tryd.func147.trans (congrArg some (by kernel_rfl))
  f220 := Tryd.func123.trans (congrArg some (by kernel_rfl))
  f224 := Tryd.func173.trans (congrArg some (by kernel_rfl))
  f225 := Tryd.func172.trans (congrArg some (by kernel_rfl))
  f266 := Tryd.func188.trans (congrArg some (by kernel_rfl))
  f267 := Tryd.func174.trans (congrArg some (by kernel_rfl))
  f314 := Tryd.func189.trans (congrArg some (by kernel_rfl))
  t3 := Tryd.underlying3
  a3 := Tryd.isAgg3
  z3 := Tryd.sizeOf3
  v3 := Tryd.zeroValue3
  t4 := Tryd.underlying4
  a4 := Tryd.isAgg4
  z4 := Tryd.sizeOf4
  v4 := Tryd.zeroValue4
  t5 := Tryd.underlying5
  a5 := Tryd.isAgg5
  z5 := Tryd.sizeOf5
  v5 := Tryd.zeroValue5
  t9 := Tryd.underlying9
  a9 := Tryd.isAgg9
  z9 := Tryd.sizeOf9
  v9 := Tryd.zeroValue9
  t46 := Tryd.underlying145
  a46 := Tryd.isAgg145
  z46 := Tryd.sizeOf145
  v46 := Tryd.zeroValue145
  t51 := Tryd.underlying162
  a51 := Tryd.isAgg162
  z51 := Tryd.sizeOf162
  v51 := Tryd.zeroValue162
  t59 := Tryd.underlying64
  a59 := Tryd.isAgg64
  z59 := Tryd.sizeOf64
  v59 := Tryd.zeroValue64
  t146 := Tryd.underlying163
  a146 := Tryd.isAgg163
  z146 := Tryd.sizeOf163
  v146 := Tryd.zeroValue163
  g1 := by kernel_rfl }
open Go.RowKit Go.Lib in theorem Tryd.strings_Cut (s sep : ByteArray) (m : Int) (w : World) (hs : s.size < 4294967281) (hm : w.cell? ⟨0, 0, none⟩ = some (.int .i64 m)) :
    Calls Tryd.prog 64 #[.string s, .string sep] w fun e w' => e = .returned (.tuple #[.string ⟨(Lib.cut s.data.toList sep.data.toList).1.toArray⟩, .string ⟨(Lib.cut s.data.toList sep.data.toList).2.1.toArray⟩, .bool (Lib.cut s.data.toList sep.data.toList).2.2]) ∧ ∃ n, w' = w.drewN n := Any.strings_Cut Tryd.lays145 s sep m w hs hm
def Tryd.lays146_ren : Go.Shelf.Ren := ⟨fun | 146 => 87 | 221 => 134 | 268 => 160 | 138 => 161 | 143 => 162 | 195 => 177 | 197 => 178 | 218 => 179 | 219 => 147 | 260 => 190 | 217 => 171 | 225 => 172 | 224 => 173 | 267 => 174 | 266 => 188 | 314 => 189 | n => n, fun | 9 => 9 | 31 => 67 | 3 => 3 | 4 => 4 | 0 => 0 | 105 => 154 | 21 => 21 | 5 => 5 | 46 => 145 | 119 => 174 | 139 => 177 | 138 => 176 | 146 => 163 | 51 => 162 | n => n, fun | 1 => 0 | 3 => 2 | 4 => 3 | n => n⟩
theorem Tryd.lays146 : Go.Proofs.Lays.n146 Tryd.prog Tryd.lays146_ren := {
  mixed := by kernel_rfl
  f138 := Tryd.func161.trans (congrArg some (by kernel_rfl))
  f143 := Tryd.func162.trans (congrArg some (by kernel_rfl))
  f146 := Tryd.func87.trans (congrArg some (by kernel_rfl))
  f195 := Tryd.func177.trans (congrArg some (by kernel_rfl))
  f197 := Tryd.func178.trans (congrArg some (by kernel_rfl))
  f217 := Tryd.func171.trans (congrArg some (by kernel_rfl))
  f218 := Tryd.func179.trans (congrArg some (by kernel_rfl))
  f219 := Tryd.func147.trans (congrArg some (by kernel_rfl))
  f221 := Tryd.func134.trans (congrArg some (by kernel_rfl))
  f224 := Tryd.func173.trans (congrArg some (by kernel_rfl))
  f225 := Tryd.func172.trans (congrArg some (by kernel_rfl))
  f260 := Tryd.func190.trans (congrArg some (by kernel_rfl))
  f266 := Tryd.func188.trans (congrArg some (by kernel_rfl))
  f267 := Tryd.func174.trans (congrArg some (by kernel_rfl))
  f268 := Tryd.func160.trans (congrArg some (by kernel_rfl))
  f314 := Tryd.func189.trans (congrArg some (by kernel_rfl))
  t0 := Tryd.underlying0
  a0 := Tryd.isAgg0
  z0 := Tryd.sizeOf0
  v0 := Tryd.zeroValue0
  t3 := Tryd.underlying3
  a3 := Tryd.isAgg3
  z3 := Tryd.sizeOf3
  v3 := Tryd.zeroValue3
  t4 := Tryd.underlying4
  a4 := Tryd.isAgg4
  z4 := Tryd.sizeOf4
  v4 := Tryd.zeroValue4
  t5 := Tryd.underlying5
  a5 := Tryd.isAgg5
  z5 := Tryd.sizeOf5
  v5 := Tryd.zeroValue5
  t9 := Tryd.underlying9
  a9 := Tryd.isAgg9
  z9 := Tryd.sizeOf9
  v9 := Tryd.zeroValue9
  t21 := Tryd.underlying21
  a21 := Tryd.isAgg21
  z21 := Tryd.sizeOf21
  v21 := Tryd.zeroValue21
  t31 := Tryd.underlying67
  a31 := Tryd.isAgg67
  z31 := Tryd.sizeOf67
  v31 := Tryd.zeroValue67
  t46 := Tryd.underlying145
  a46 := Tryd.isAgg145
  z46 := Tryd.sizeOf145
  v46 := Tryd.zeroValue145
  t51 := Tryd.underlying162
  a51 := Tryd.isAgg162
  z51 := Tryd.sizeOf162
  v51 := Tryd.zeroValue162
  t105 := Tryd.underlying154
  a105 := Tryd.isAgg154
  z105 := Tryd.sizeOf154
  v105 := Tryd.zeroValue154
  t119 := Tryd.underlying174
  a119 := Tryd.isAgg174
  z119 := Tryd.sizeOf174
  t138 := Tryd.underlying176
  a138 := Tryd.isAgg176
  z138 := Tryd.sizeOf176
  v138 := Tryd.zeroValue176
  t139 := Tryd.underlying177
  a139 := Tryd.isAgg177
  z139 := Tryd.sizeOf177
  v139 := Tryd.zeroValue177
  t146 := Tryd.underlying163
  a146 := Tryd.isAgg163
  z146 := Tryd.sizeOf163
  v146 := Tryd.zeroValue163
  g1 := by kernel_rfl
  g3 := by kernel_rfl
  g4 := by kernel_rfl }
open Go.RowKit Go.Lib in theorem Tryd.strings_Split (s sep : ByteArray) (m : Int) (w : World) (hs : s.size < 4294967281) (hm : w.cell? ⟨0, 0, none⟩ = some (.int .i64 m)) (h1 : 1 ≤ sep.size) :
    Calls Tryd.prog 87 #[.string s, .string sep] w fun e w' =>
      e = .returned (.slice (some ⟨w.heap.size, 0, none⟩) (Lib.countB s sep + 1) (Lib.countB s sep + 1)) ∧ w' = w.alloc (.cells ((Lib.splitB sep 0 (Lib.countB s sep) s).map Value.string).toArray 9) := Any.strings_Split Tryd.lays146 (by kernel_rfl) s sep m w hs hm h1
def Tryd.lays105_ren : Go.Shelf.Ren := ⟨fun | 105 => 143 | 212 => 168 | 99 => 84 | 165 => 169 | 166 => 93 | 170 => 170 | 169 => 97 | 263 => 185 | 264 => 186 | 206 => 131 | 240 => 140 | 241 => 187 | 276 => 166 | 277 => 196 | n => n, fun | 9 => 9 | 3 => 3 | 4 => 4 | 20 => 20 | 0 => 0 | 46 => 145 | 109 => 146 | 5 => 5 | 72 => 95 | 76 => 98 | 51 => 162 | 146 => 163 | 53 => 134 | 148 => 165 | 70 => 93 | 37 => 45 | 75 => 97 | 127 => 133 | 164 => 143 | 80 => 102 | n => n, fun | n => n⟩
theorem Tryd.lays105 : Go.Proofs.Lays.n105 Tryd.prog Tryd.lays105_ren := {
  mixed := by kernel_rfl
  f99 := Tryd.func84.trans (congrArg some (by kernel_rfl))
  f105 := Tryd.func143.trans (congrArg some (by kernel_rfl))
  f165 := Tryd.func169.trans (congrArg some (by kernel_rfl))
  f166 := Tryd.func93.trans (congrArg some (by kernel_rfl))
  f169 := Tryd.func97.trans (congrArg some (by kernel_rfl))
  f170 := Tryd.func170.trans (congrArg some (by kernel_rfl))
  f206 := Tryd.func131.trans (congrArg some (by kernel_rfl))
  f212 := Tryd.func168.trans (congrArg some (by kernel_rfl))
  f240 := Tryd.func140.trans (congrArg some (by kernel_rfl))
  f241 := Tryd.func187.trans (congrArg some (by kernel_rfl))
  f263 := Tryd.func185.trans (congrArg some (by kernel_rfl))
  f264 := Tryd.func186.trans (congrArg some (by kernel_rfl))
  f276 := Tryd.func166.trans (congrArg some (by kernel_rfl))
  f277 := Tryd.func196.trans (congrArg some (by kernel_rfl))
  t0 := Tryd.underlying0
  a0 := Tryd.isAgg0
  z0 := Tryd.sizeOf0
  v0 := Tryd.zeroValue0
  t3 := Tryd.underlying3
  a3 := Tryd.isAgg3
  z3 := Tryd.sizeOf3
  v3 := Tryd.zeroValue3
  t4 := Tryd.underlying4
  a4 := Tryd.isAgg4
  z4 := Tryd.sizeOf4
  v4 := Tryd.zeroValue4
  t5 := Tryd.underlying5
  a5 := Tryd.isAgg5
  z5 := Tryd.sizeOf5
  v5 := Tryd.zeroValue5
  t9 := Tryd.underlying9
  a9 := Tryd.isAgg9
  z9 := Tryd.sizeOf9
  v9 := Tryd.zeroValue9
  t20 := Tryd.underlying20
  a20 := Tryd.isAgg20
  z20 := Tryd.sizeOf20
  v20 := Tryd.zeroValue20
  t37 := Tryd.underlying45
  a37 := Tryd.isAgg45
  z37 := Tryd.sizeOf45
  v37 := Tryd.zeroValue45
  t46 := Tryd.underlying145
  a46 := Tryd.isAgg145
  z46 := Tryd.sizeOf145
  v46 := Tryd.zeroValue145
  t51 := Tryd.underlying162
  a51 := Tryd.isAgg162
  z51 := Tryd.sizeOf162
  v51 := Tryd.zeroValue162
  t53 := Tryd.underlying134
  a53 := Tryd.isAgg134
  z53 := Tryd.sizeOf134
  v53 := Tryd.zeroValue134
  t70 := Tryd.underlying93
  a70 := Tryd.isAgg93
  z70 := Tryd.sizeOf93
  v70 := Tryd.zeroValue93
  t72 := Tryd.underlying95
  a72 := Tryd.isAgg95
  z72 := Tryd.sizeOf95
  v72 := Tryd.zeroValue95
  t75 := Tryd.underlying97
  a75 := Tryd.isAgg97
  z75 := Tryd.sizeOf97
  v75 := Tryd.zeroValue97
  t76 := Tryd.underlying98
  a76 := Tryd.isAgg98
  z76 := Tryd.sizeOf98
  v76 := Tryd.zeroValue98
  t109 := Tryd.underlying146
  a109 := Tryd.isAgg146
  z109 := Tryd.sizeOf146
  v109 := Tryd.zeroValue146
  t127 := Tryd.underlying133
  a127 := Tryd.isAgg133
  z127 := Tryd.sizeOf133
  v127 := Tryd.zeroValue133
  t146 := Tryd.underlying163
  a146 := Tryd.isAgg163
  z146 := Tryd.sizeOf163
  v146 := Tryd.zeroValue163
  t148 := Tryd.underlying165
  a148 := Tryd.isAgg165
  z148 := Tryd.sizeOf165
  v148 := Tryd.zeroValue165
  t164 := Tryd.underlying143
  a164 := Tryd.isAgg143
  z164 := Tryd.sizeOf143
  v164 := Tryd.zeroValue143 }
theorem Tryd.Builder_Extra_105 : Builder.Extra Tryd.prog Tryd.lays105_ren := {
  sizeBuilder := by kernel_rfl
  liesBuilder := by kernel_rfl
  t5 := Tryd.underlying5
  a5 := Tryd.isAgg5
  z5 := Tryd.sizeOf5
  v5 := Tryd.zeroValue5
  infoByte := by kernel_rfl
  cellsByte := by kernel_rfl
  sizeByte := by kernel_rfl
  neB5 := by decide }
open Go.RowKit Go.Lib in theorem Tryd.strings_Repeat (s : ByteArray) (c : Nat) (w : World) (hc : c ≤ 9223372036854775807) (hlen : s.size * c ≤ 140737488355328) :
    Calls Tryd.prog 143 #[.string s, .int .i64 c] w fun e w' => e = .returned (.string ⟨(Lib.repeatL s.data.toList c).toArray⟩) ∧ Below w.heap.size w w' := Any.strings_Repeat Tryd.lays105 Tryd.Builder_Extra_105 s c w hc hlen
end Go.Proofs

/- Function 64 (strings.Cut): its contract, off what is known of the library. -/
set_option linter.unusedVariables false
set_option linter.unusedSimpArgs false
set_option maxRecDepth 100000
namespace Go.Proofs.YtakodkjcmacofaaDoor
open Go Go.Am Go.Proofs

def sig64 : List AT := [AT.v Ty.str, AT.v Ty.str]
def g64_0 (x0 x1 : ByteArray) : ByteArray := ⟨(Lib.cut x0.data.toList x1.data.toList).1.toArray⟩
def g64_1 (x0 x1 : ByteArray) : ByteArray := ⟨(Lib.cut x0.data.toList x1.data.toList).2.1.toArray⟩
def g64_2 (x0 x1 : ByteArray) : Bool := (Lib.cut x0.data.toList x1.data.toList).2.2
def P64 (x0 x1 : ByteArray) : Prop := x0.size < 4294967281
def S64 : Am.Spec := { sig := sig64, pre := fun ⟨x0, x1, _⟩ => P64 x0 x1, res := fun ⟨x0, x1, _⟩ => [⟨Ty.str, g64_0 x0 x1⟩, ⟨Ty.str, g64_1 x0 x1⟩, ⟨Ty.bool, g64_2 x0 x1⟩] }
theorem cutLen64 (s sep : List UInt8) : (Lib.cut s sep).1.length ≤ s.length ∧ (Lib.cut s sep).2.1.length ≤ s.length := by
  unfold Lib.cut
  split
  · exact ⟨by simp; omega, by simp⟩
  · exact ⟨Nat.le_refl _, Nat.zero_le _⟩
theorem con64 : Contract Tryd.prog 64 S64 := contract_flat rfl fun w ⟨x0, x1, _⟩ vs bss hg hp hw ha => by
  obtain ⟨v0, s0, _, _, rfl, _, ⟨_, rfl, _⟩, v1, s1, _, _, rfl, _, ⟨_, rfl, _⟩, rfl, _⟩ := ha
  have hp : x0.size < 4294967281 := hp
  obtain ⟨l1, l2⟩ := cutLen64 x0.data.toList x1.data.toList
  have e : x0.data.toList.length = x0.size := rfl
  refine ⟨fun d hd => ?_, ?_⟩
  · simp only [S64, List.mem_cons, List.mem_nil_iff, or_false] at hd
    rcases hd with rfl | rfl | rfl
    · refine ⟨rfl, ?_⟩
      show (List.toArray _).size ≤ maxLen
      rw [List.size_toArray]; unfold maxLen; omega
    · refine ⟨rfl, ?_⟩
      show (List.toArray _).size ≤ maxLen
      rw [List.size_toArray]; unfold maxLen; omega
    · exact ⟨rfl, trivial⟩
  · obtain ⟨m, hm⟩ := maxLenG hg
    refine (Tryd.strings_Cut x0 x1 m w hp hm).mono ?_
    rintro e w' ⟨rfl, n, rfl⟩
    exact ⟨rfl, ⟨rfl, rfl, rfl, Nat.le_refl _, fun _ _ _ => rfl⟩⟩

end Go.Proofs.YtakodkjcmacofaaDoor

/- Function 65 (impl.number): its runs between cut points. Written by a program of this repo (gen). -/
set_option linter.unusedVariables false
set_option linter.unusedSimpArgs false
set_option maxRecDepth 100000
namespace Go.Proofs.YtakodkjcmacofaaDoor
open Go Go.Am Go.Proofs
def ext65 : Ext := []
theorem ext65Ok : ExtOk Tryd.prog ext65 := trivial
/-! Function 65. -/
noncomputable def b65 : Code := bodyOf Tryd.f65
theorem hb65 : Tryd.f65.body = some b65 := by kernel_rfl
def sig65 : List AT := [AT.v (Ty.str)]
def tys65 : List Ty := [Ty.int IntKind.i64]
def E65_5 (v3 : Int) (v17 : Int) (x0 : ByteArray) : Env := [(3, PV.a (Atom.val (Value.int IntKind.i64 v3))), (15, PV.a (Atom.osl 0 Option.none)), (16, PV.a (Atom.val (Value.int IntKind.i64 (↑(List.length (bytesOf x0)) : Int)))), (17, PV.a (Atom.val (Value.int IntKind.i64 v17)))]
def L65_5 (v3 : Int) (v17 : Int) (x0 : ByteArray) : Heap := [Option.some (Arr.mk (Ty.int IntKind.u8) (bytesOf x0) Bool.false)]
mutual
def R65 : Nat → ByteArray → List Dyn → Prop
  | 0, _, _ => False
  | n + 1, x0, ds => (if (Decidable.decide ((↑(ByteArray.size x0) : Int) < 1)) = true then (ds = [Dyn.mk (Ty.int IntKind.i64) (-1)]) else (if (Decidable.decide ((↑(ByteArray.size x0) : Int) > 12)) = true then (ds = [Dyn.mk (Ty.int IntKind.i64) (-1)]) else (R65_5 n (0) (0) (x0) ds)))
def R65_5 : Nat → Int → Int → ByteArray → List Dyn → Prop
  | 0, _, _, _, _ => False
  | n + 1, v3, v17, x0, ds => (if (Decidable.decide (v17 < (↑(List.length (bytesOf x0)) : Int))) = true then ((0 ≤ v17) ∧ (v17 < (↑(List.length (bytesOf x0)) : Int)) ∧ (if (Decidable.decide (List.getD (bytesOf x0) (Int.toNat v17) 0 < 48)) = true then (ds = [Dyn.mk (Ty.int IntKind.i64) (-1)]) else (if (Decidable.decide (List.getD (bytesOf x0) (Int.toNat v17) 0 > 57)) = true then (ds = [Dyn.mk (Ty.int IntKind.i64) (-1)]) else ((InR IntKind.i64 (10 * v3)) ∧ ((InR IntKind.u8 (List.getD (bytesOf x0) (Int.toNat v17) 0 - 48)) ∧ ((InR IntKind.i64 (List.getD (bytesOf x0) (Int.toNat v17) 0 - 48)) ∧ ((InR IntKind.i64 (10 * v3 + (List.getD (bytesOf x0) (Int.toNat v17) 0 - 48))) ∧ ((InR IntKind.i64 (v17 + 1)) ∧ (R65_5 n (10 * v3 + (List.getD (bytesOf x0) (Int.toNat v17) 0 - 48)) (v17 + 1) (x0) ds))))))))) else (ds = [Dyn.mk (Ty.int IntKind.i64) v3]))
end
theorem p65_0 (x0 : ByteArray) : runF tab ext65 false 35 [] 2000 [] tys65 Tryd.f65.results [true, true] [.code b65] (entE 0 0 sig65 (x0, ())) (entL sig65 (x0, ())) = some ([Dyn.mk (Ty.int IntKind.i64) (-1)], [], [Decidable.decide ((↑(ByteArray.size x0) : Int) < 1) = Bool.true, Bool.true = Bool.true]) := by kernel_rfl
theorem p65_1 (x0 : ByteArray) : runF tab ext65 false 35 [] 2000 [] tys65 Tryd.f65.results [false, true] [.code b65] (entE 0 0 sig65 (x0, ())) (entL sig65 (x0, ())) = some ([Dyn.mk (Ty.int IntKind.i64) (-1)], [], [Decidable.decide ((↑(ByteArray.size x0) : Int) < 1) = Bool.false, Decidable.decide ((↑(ByteArray.size x0) : Int) > 12) = Bool.true]) := by kernel_rfl
theorem p65_2 (x0 : ByteArray) : Am.runN tab ext65 false 35 [] 2000 [] [] [3, 15, 16, 17] [0] [false, false] [.code b65] (entE 0 0 sig65 (x0, ())) (entL sig65 (x0, ())) = some (cutAt b65 5, E65_5 (0) (0) (x0), L65_5 (0) (0) (x0), [Decidable.decide ((↑(ByteArray.size x0) : Int) < 1) = Bool.false, Decidable.decide ((↑(ByteArray.size x0) : Int) > 12) = Bool.false]) := by kernel_rfl
theorem p65_3 (v3 : Int) (v17 : Int) (x0 : ByteArray) : runF tab ext65 false 35 [] 2000 [] tys65 Tryd.f65.results [true, true, true] (cutAt b65 5) (E65_5 v3 v17 x0) (L65_5 v3 v17 x0) = some ([Dyn.mk (Ty.int IntKind.i64) (-1)], [], [Decidable.decide (v17 < (↑(List.length (bytesOf x0)) : Int)) = Bool.true, 0 ≤ v17, v17 < (↑(List.length (bytesOf x0)) : Int), Decidable.decide (List.getD (bytesOf x0) (Int.toNat v17) 0 < 48) = Bool.true, Bool.true = Bool.true]) := by kernel_rfl
theorem p65_4 (v3 : Int) (v17 : Int) (x0 : ByteArray) : runF tab ext65 false 35 [] 2000 [] tys65 Tryd.f65.results [true, false, true] (cutAt b65 5) (E65_5 v3 v17 x0) (L65_5 v3 v17 x0) = some ([Dyn.mk (Ty.int IntKind.i64) (-1)], [], [Decidable.decide (v17 < (↑(List.length (bytesOf x0)) : Int)) = Bool.true, 0 ≤ v17, v17 < (↑(List.length (bytesOf x0)) : Int), Decidable.decide (List.getD (bytesOf x0) (Int.toNat v17) 0 < 48) = Bool.false, Decidable.decide (List.getD (bytesOf x0) (Int.toNat v17) 0 > 57) = Bool.true]) := by kernel_rfl
theorem p65_5 (v3 : Int) (v17 : Int) (x0 : ByteArray) : Am.runN tab ext65 false 35 [] 2000 [] [] [3, 15, 16, 17] [0] [true, false, false] (cutAt b65 5) (E65_5 v3 v17 x0) (L65_5 v3 v17 x0) = some (cutAt b65 5, E65_5 (10 * v3 + (List.getD (bytesOf x0) (Int.toNat v17) 0 - 48)) (v17 + 1) (x0), L65_5 (10 * v3 + (List.getD (bytesOf x0) (Int.toNat v17) 0 - 48)) (v17 + 1) (x0), [Decidable.decide (v17 < (↑(List.length (bytesOf x0)) : Int)) = Bool.true, 0 ≤ v17, v17 < (↑(List.length (bytesOf x0)) : Int), Decidable.decide (List.getD (bytesOf x0) (Int.toNat v17) 0 < 48) = Bool.false, Decidable.decide (List.getD (bytesOf x0) (Int.toNat v17) 0 > 57) = Bool.false, InR IntKind.i64 (10 * v3), InR IntKind.u8 (List.getD (bytesOf x0) (Int.toNat v17) 0 - 48), InR IntKind.i64 (List.getD (bytesOf x0) (Int.toNat v17) 0 - 48), InR IntKind.i64 (10 * v3 + (List.getD (bytesOf x0) (Int.toNat v17) 0 - 48)), InR IntKind.i64 (v17 + 1)]) := by kernel_rfl
theorem p65_6 (v3 : Int) (v17 : Int) (x0 : ByteArray) : runF tab ext65 false 35 [] 2000 [] tys65 Tryd.f65.results [false] (cutAt b65 5) (E65_5 v3 v17 x0) (L65_5 v3 v17 x0) = some ([Dyn.mk (Ty.int IntKind.i64) v3], [], [Decidable.decide (v17 < (↑(List.length (bytesOf x0)) : Int)) = Bool.false]) := by kernel_rfl
theorem snd65 : ∀ n, (∀ (x0 : ByteArray) ds, R65 n x0 ds → ∀ w0 O q, AtV Tryd.prog 65 (PostR ds [] [] q w0 O) 35 w0 O q [] [.code b65] (entE 0 0 sig65 (x0, ())) (entL sig65 (x0, ()))) ∧ (∀ (v3 : Int) (v17 : Int) (x0 : ByteArray) ds, R65_5 n v3 v17 x0 ds → ∀ w0 O q, AtV Tryd.prog 65 (PostR ds [] [] q w0 O) 35 w0 O q [] (cutAt b65 5) (E65_5 v3 v17 x0) (L65_5 v3 v17 x0)) := by
  intro n
  induction n with
  | zero => exact ⟨fun _ _ h => by simp only [R65] at h, fun _ _ _ _ h => by simp only [R65_5] at h⟩
  | succ n ih =>
  obtain ⟨ih, ih5⟩ := ih
  refine ⟨?_, ?_⟩
  · intro x0 ds h w0 O q
    rw [R65] at h
    by_cases b0 : (Decidable.decide ((↑(ByteArray.size x0) : Int) < 1)) = true
    · rw [if_pos b0] at h
      subst h
      exact AtV.fin Tryd.func65 tabOk ext65Ok mixed (p65_0 x0) ⟨b0, rfl, trivial⟩
    · rw [if_neg b0] at h
      replace b0 := Bool.eq_false_iff.2 b0
      by_cases b1 : (Decidable.decide ((↑(ByteArray.size x0) : Int) > 12)) = true
      · rw [if_pos b1] at h
        subst h
        exact AtV.fin Tryd.func65 tabOk ext65Ok mixed (p65_1 x0) ⟨b0, b1, trivial⟩
      · rw [if_neg b1] at h
        replace b1 := Bool.eq_false_iff.2 b1
        exact AtV.runN tabOk ext65Ok mixed (p65_2 x0) ⟨b0, b1, trivial⟩ (ih5 _ _ _ _ h w0 O q)

  · intro v3 v17 x0 ds h w0 O q
    rw [R65_5] at h
    by_cases b0 : (Decidable.decide (v17 < (↑(List.length (bytesOf x0)) : Int))) = true
    · rw [if_pos b0] at h
      obtain ⟨s0, s1, h⟩ := h
      by_cases b1 : (Decidable.decide (List.getD (bytesOf x0) (Int.toNat v17) 0 < 48)) = true
      · rw [if_pos b1] at h
        subst h
        exact AtV.fin Tryd.func65 tabOk ext65Ok mixed (p65_3 v3 v17 x0) ⟨b0, s0, s1, b1, rfl, trivial⟩
      · rw [if_neg b1] at h
        replace b1 := Bool.eq_false_iff.2 b1
        by_cases b2 : (Decidable.decide (List.getD (bytesOf x0) (Int.toNat v17) 0 > 57)) = true
        · rw [if_pos b2] at h
          subst h
          exact AtV.fin Tryd.func65 tabOk ext65Ok mixed (p65_4 v3 v17 x0) ⟨b0, s0, s1, b1, b2, trivial⟩
        · rw [if_neg b2] at h
          replace b2 := Bool.eq_false_iff.2 b2
          obtain ⟨s2, h⟩ := h
          obtain ⟨s3, h⟩ := h
          obtain ⟨s4, h⟩ := h
          obtain ⟨s5, h⟩ := h
          obtain ⟨s6, h⟩ := h
          exact AtV.runN tabOk ext65Ok mixed (p65_5 v3 v17 x0) ⟨b0, s0, s1, b1, b2, s2, s3, s4, s5, s6, trivial⟩ (ih5 _ _ _ _ h w0 O q)
    · rw [if_neg b0] at h
      replace b0 := Bool.eq_false_iff.2 b0
      subst h
      exact AtV.fin Tryd.func65 tabOk ext65Ok mixed (p65_6 v3 v17 x0) ⟨b0, trivial⟩



def num65 : List UInt8 → Int → Int
  | [], n => n
  | b :: r, n => if decide (48 ≤ b.toNat) && decide (b.toNat ≤ 57) then num65 r (10 * n + ((b.toNat : Int) - 48)) else -1
def g65_0 (x0 : ByteArray) : Int := if x0.size < 1 ∨ 12 < x0.size then -1 else num65 x0.data.toList 0
def P65 (x0 : ByteArray) : Prop := True

theorem run65 (x0 : ByteArray) (hs : x0.size ≤ 12) : ∀ (k i m : Nat), i + k = x0.size → m < 10 ^ i →
    R65_5 (k + 1) (m : Int) (i : Int) x0 [⟨.int .i64, num65 (x0.data.toList.drop i) (m : Int)⟩] := by
  intro k
  have hll : x0.data.toList.length = x0.size := rfl
  have hbl : (bytesOf x0).length = x0.size := by unfold bytesOf; rw [List.length_map]; rfl
  induction k with
  | zero =>
    intro i m hi hm
    rw [R65_5, if_neg (by rw [hbl]; simp; omega), List.drop_of_length_le (by omega)]
    rfl
  | succ k ih =>
    intro i m hi hm
    have hlt : i < x0.data.toList.length := by rw [hll]; omega
    have hcons : x0.data.toList.drop i = x0.data.toList.getD i 0 :: x0.data.toList.drop (i + 1) := drop_get _ i 0 hlt
    have hbyte : (bytesOf x0).getD i 0 = ((x0.data.toList.getD i 0).toNat : Int) := by
      unfold bytesOf
      rw [List.getD_eq_getElem?_getD, List.getD_eq_getElem?_getD, List.getElem?_map, List.getElem?_eq_getElem hlt]
      rfl
    rw [R65_5, if_pos (by rw [hbl]; simp; omega), hcons]
    simp only [Int.toNat_natCast, hbyte, hbl]
    generalize x0.data.toList.getD i 0 = b at *
    refine ⟨by omega, by omega, ?_⟩
    unfold num65
    by_cases h1 : b.toNat < 48
    · have h1' : (b.toNat : Int) < 48 := by omega
      have h1'' : ¬ 48 ≤ b.toNat := by omega
      simp [h1', h1'']
    · have h1' : ¬ (b.toNat : Int) < 48 := by omega
      have h1'' : 48 ≤ b.toNat := by omega
      by_cases h2 : b.toNat > 57
      · have h2' : (b.toNat : Int) > 57 := by omega
        have h2'' : ¬ b.toNat ≤ 57 := by omega
        simp [h1', h2', h2'']
      · have h2' : ¬ (b.toNat : Int) > 57 := by omega
        have h2'' : b.toNat ≤ 57 := by omega
        have hp : 10 ^ i ≤ 10 ^ 11 := Nat.pow_le_pow_right (by decide) (by omega)
        have hm2 : m < 100000000000 := Nat.lt_of_lt_of_le hm hp
        simp only [h1', h1'', h2', h2'', decide_true, decide_false, Bool.and_self, Bool.false_eq_true, if_false, if_true]
        refine ⟨by rw [i64_iff]; omega, by rw [u8_iff]; omega, by rw [i64_iff]; omega, by rw [i64_iff]; omega, by rw [i64_iff]; omega, ?_⟩
        have e1 : 10 * (m : Int) + ((b.toNat : Int) - 48) = ((10 * m + (b.toNat - 48) : Nat) : Int) := by omega
        have e2 : (i : Int) + 1 = ((i + 1 : Nat) : Int) := by omega
        rw [e1, e2]
        exact ih (i + 1) (10 * m + (b.toNat - 48)) (by omega) (by rw [Nat.pow_succ]; omega)

theorem top65 (x0 : ByteArray) : R65 (x0.size + 1 + 1) x0 [⟨.int .i64, g65_0 x0⟩] := by
  rw [R65]
  unfold g65_0
  by_cases h1 : x0.size < 1
  · rw [if_pos (by simp; omega), if_pos (.inl h1)]
  · rw [if_neg (by simp; omega)]
    by_cases h2 : 12 < x0.size
    · rw [if_pos (by simp; omega), if_pos (.inr h2)]
    · rw [if_neg (by simp; omega), if_neg (by omega)]
      exact run65 x0 (by omega) x0.size 0 0 (by omega) (by decide)

def S65 : Am.Spec := { sig := sig65, pre := fun ⟨x0, _⟩ => P65 x0, res := fun ⟨x0, _⟩ => [⟨.int .i64, g65_0 x0⟩] }
theorem con65 : Contract Tryd.prog 65 S65 := contract_of Tryd.func65 hb65 (Nat.le_of_ble_eq_true (by kernel_rfl)) (fun ⟨x0, _⟩ h hwf w0 O q =>
  (snd65 _).1 x0 _ (top65 x0) w0 O q)

end Go.Proofs.YtakodkjcmacofaaDoor

/- Function 102 (impl.within): its runs between cut points. Written by a program of this repo (gen). -/
set_option linter.unusedVariables false
set_option linter.unusedSimpArgs false
set_option maxRecDepth 100000
namespace Go.Proofs.YtakodkjcmacofaaDoor
open Go Go.Am Go.Proofs
def ext102 : Ext := []
theorem ext102Ok : ExtOk Tryd.prog ext102 := trivial
/-! Function 102. -/
noncomputable def b102 : Code := bodyOf Tryd.f102
theorem hb102 : Tryd.f102.body = some b102 := by kernel_rfl
def sig102 : List AT := [AT.v (Ty.int IntKind.i64), AT.v (Ty.int IntKind.i64), AT.v (Ty.int IntKind.i64)]
def tys102 : List Ty := [Ty.bool]
def P102 (x0 : Int) (x1 : Int) (x2 : Int) : Prop := True
def g102_0 (x0 : Int) (x1 : Int) (x2 : Int) : Bool := (if (Decidable.decide (x0 ≥ x1)) = true then Decidable.decide (x0 ≤ x2) else Bool.false)
theorem p102_0 (x0 : Int) (x1 : Int) (x2 : Int) : runF tab ext102 false 15 [] 2000 [] tys102 Tryd.f102.results [true] [.code b102] (entE 0 0 sig102 (x0, x1, x2, ())) (entL sig102 (x0, x1, x2, ())) = some ([Dyn.mk Ty.bool (Decidable.decide (x0 ≤ x2))], [], [Decidable.decide (x0 ≥ x1) = Bool.true]) := by kernel_rfl
theorem p102_1 (x0 : Int) (x1 : Int) (x2 : Int) : runF tab ext102 false 15 [] 2000 [] tys102 Tryd.f102.results [false] [.code b102] (entE 0 0 sig102 (x0, x1, x2, ())) (entL sig102 (x0, x1, x2, ())) = some ([Dyn.mk Ty.bool Bool.false], [], [Decidable.decide (x0 ≥ x1) = Bool.false]) := by kernel_rfl
theorem at102 (x0 : Int) (x1 : Int) (x2 : Int) (h : P102 x0 x1 x2) (w0 : World) (O : List Nat) (q : Nat → Value) : AtV Tryd.prog 102 (PostR [⟨Ty.bool, g102_0 x0 x1 x2⟩] [] [] q w0 O) 15 w0 O q [] [.code b102] (entE 0 0 sig102 (x0, x1, x2, ())) (entL sig102 (x0, x1, x2, ())) := by
  unfold P102 at h
  unfold g102_0
  by_cases b0 : (Decidable.decide (x0 ≥ x1)) = true
  · try simp only [if_pos b0] at h ⊢
    exact AtV.fin Tryd.func102 tabOk ext102Ok mixed (p102_0 x0 x1 x2) ⟨b0, trivial⟩
  · try simp only [if_neg b0] at h ⊢
    replace b0 := Bool.eq_false_iff.2 b0
    exact AtV.fin Tryd.func102 tabOk ext102Ok mixed (p102_1 x0 x1 x2) ⟨b0, trivial⟩

def S102 : Am.Spec := { sig := sig102, pre := fun ⟨x0, x1, x2, _⟩ => P102 x0 x1 x2, res := fun ⟨x0, x1, x2, _⟩ => [⟨Ty.bool, g102_0 x0 x1 x2⟩] }
theorem con102 : Contract Tryd.prog 102 S102 := contract_of Tryd.func102 hb102 (Nat.le_of_ble_eq_true (by kernel_rfl)) (fun ⟨x0, x1, x2, _⟩ h _ w0 O q => at102 x0 x1 x2 h w0 O q)


end Go.Proofs.YtakodkjcmacofaaDoor

/- Function 108 (impl.isUnit): its runs between cut points. Written by a program of this repo (gen). -/
set_option linter.unusedVariables false
set_option linter.unusedSimpArgs false
set_option maxRecDepth 100000
namespace Go.Proofs.YtakodkjcmacofaaDoor
open Go Go.Am Go.Proofs
def ext108 : Ext := [(102, S102)]
theorem call108_102 : Callable Tryd.prog 102 := ⟨Tryd.f102, Tryd.func102, by kernel_rfl, by kernel_rfl⟩
theorem ext108Ok : ExtOk Tryd.prog ext108 := ⟨⟨call108_102, con102⟩, trivial⟩
/-! Function 108. -/
noncomputable def b108 : Code := bodyOf Tryd.f108
theorem hb108 : Tryd.f108.body = some b108 := by kernel_rfl
def sig108 : List AT := [AT.v (Ty.int IntKind.i64)]
def tys108 : List Ty := [Ty.bool]
def P108 (x0 : Int) : Prop := True
def g108_0 (x0 : Int) : Bool := g102_0 x0 0 1000000000
theorem p108_0 (x0 : Int) : runF tab ext108 false 5 [] 2000 [] tys108 Tryd.f108.results [] [.code b108] (entE 0 0 sig108 (x0, ())) (entL sig108 (x0, ())) = some ([Dyn.mk Ty.bool (g102_0 x0 0 1000000000)], [], [True]) := by kernel_rfl
theorem at108 (x0 : Int) (h : P108 x0) (w0 : World) (O : List Nat) (q : Nat → Value) : AtV Tryd.prog 108 (PostR [⟨Ty.bool, g108_0 x0⟩] [] [] q w0 O) 5 w0 O q [] [.code b108] (entE 0 0 sig108 (x0, ())) (entL sig108 (x0, ())) := by
  unfold P108 at h
  unfold g108_0
  exact AtV.fin Tryd.func108 tabOk ext108Ok mixed (p108_0 x0) ⟨trivial, trivial⟩

def S108 : Am.Spec := { sig := sig108, pre := fun ⟨x0, _⟩ => P108 x0, res := fun ⟨x0, _⟩ => [⟨Ty.bool, g108_0 x0⟩] }
theorem con108 : Contract Tryd.prog 108 S108 := contract_of Tryd.func108 hb108 (Nat.le_of_ble_eq_true (by kernel_rfl)) (fun ⟨x0, _⟩ h _ w0 O q => at108 x0 h w0 O q)


end Go.Proofs.YtakodkjcmacofaaDoor

/- Function 141 (strconv.FormatInt): its contract, off what is known of the library. -/
set_option linter.unusedVariables false
set_option linter.unusedSimpArgs false
set_option maxRecDepth 100000
namespace Go.Proofs.YtakodkjcmacofaaDoor
open Go Go.Am Go.Proofs

def sig141 : List AT := [AT.v (Ty.int .i64), AT.v (Ty.int .i64)]
def g141_0 (x0 x1 : Int) : ByteArray := numB x0
def P141 (x0 x1 : Int) : Prop := x1 = 10
def S141 : Am.Spec := { sig := sig141, pre := fun ⟨x0, x1, _⟩ => P141 x0 x1, res := fun ⟨x0, x1, _⟩ => [⟨Ty.str, g141_0 x0 x1⟩] }
theorem con141 : Contract Tryd.prog 141 S141 := contract_flat rfl fun w ⟨x0, x1, _⟩ vs bss hg hp hw ha => by
  obtain ⟨v0, s0, _, _, rfl, _, ⟨_, rfl, hi⟩, v1, s1, _, _, rfl, _, ⟨_, rfl, _⟩, rfl, _⟩ := ha
  obtain rfl : x1 = 10 := hp
  have hi : InR .i64 x0 := hi
  rw [i64_iff] at hi
  refine ⟨fun d hd => ?_, ?_⟩
  · rw [List.mem_singleton.1 hd]
    refine ⟨rfl, ?_⟩
    show (numB x0).size ≤ maxLen
    have := numB_size x0 hi.1 hi.2
    unfold maxLen; omega
  · refine (Tryd.strconv_FormatInt_10 x0 hi.1 hi.2 w (pow10G hg)).mono ?_
    rintro e w' ⟨rfl, n, os, rfl⟩
    exact ⟨rfl, kept_grow _ _ _⟩

end Go.Proofs.YtakodkjcmacofaaDoor

/- Function 94 (impl.Decimal): its runs between cut points. Written by a program of this repo (gen). -/
set_option linter.unusedVariables false
set_option linter.unusedSimpArgs false
set_option maxRecDepth 100000
namespace Go.Proofs.YtakodkjcmacofaaDoor
open Go Go.Am Go.Proofs
def ext94 : Ext := [(141, S141)]
theorem call94_141 : Callable Tryd.prog 141 := ⟨Tryd.f141, Tryd.func141, by kernel_rfl, by kernel_rfl⟩
theorem ext94Ok : ExtOk Tryd.prog ext94 := ⟨⟨call94_141, con141⟩, trivial⟩
/-! Function 94. -/
noncomputable def b94 : Code := bodyOf Tryd.f94
theorem hb94 : Tryd.f94.body = some b94 := by kernel_rfl
def sig94 : List AT := [AT.v (Ty.int IntKind.i64)]
def tys94 : List Ty := [Ty.str]
def P94 (x0 : Int) : Prop := ((P141 x0 10) ∧ True)
def g94_0 (x0 : Int) : ByteArray := g141_0 x0 10
theorem p94_0 (x0 : Int) : runF tab ext94 false 5 [] 2000 [] tys94 Tryd.f94.results [] [.code b94] (entE 0 0 sig94 (x0, ())) (entL sig94 (x0, ())) = some ([Dyn.mk Ty.str (g141_0 x0 10)], [], [P141 x0 10]) := by kernel_rfl
theorem at94 (x0 : Int) (h : P94 x0) (w0 : World) (O : List Nat) (q : Nat → Value) : AtV Tryd.prog 94 (PostR [⟨Ty.str, g94_0 x0⟩] [] [] q w0 O) 5 w0 O q [] [.code b94] (entE 0 0 sig94 (x0, ())) (entL sig94 (x0, ())) := by
  unfold P94 at h
  unfold g94_0
  obtain ⟨s0, h⟩ := h
  exact AtV.fin Tryd.func94 tabOk ext94Ok mixed (p94_0 x0) ⟨s0, trivial⟩

def S94 : Am.Spec := { sig := sig94, pre := fun ⟨x0, _⟩ => P94 x0, res := fun ⟨x0, _⟩ => [⟨Ty.str, g94_0 x0⟩] }
theorem con94 : Contract Tryd.prog 94 S94 := contract_of Tryd.func94 hb94 (Nat.le_of_ble_eq_true (by kernel_rfl)) (fun ⟨x0, _⟩ h _ w0 O q => at94 x0 h w0 O q)


end Go.Proofs.YtakodkjcmacofaaDoor

/- Function 143 (strings.Repeat): its contract, off what is known of the library. -/
set_option linter.unusedVariables false
set_option linter.unusedSimpArgs false
set_option maxRecDepth 100000
namespace Go.Proofs.YtakodkjcmacofaaDoor
open Go Go.Am Go.Proofs

def sig143 : List AT := [AT.v Ty.str, AT.v (Ty.int .i64)]
def g143_0 (x0 : ByteArray) (x1 : Int) : ByteArray := ⟨(Lib.repeatL x0.data.toList x1.toNat).toArray⟩
def P143 (x0 : ByteArray) (x1 : Int) : Prop := 0 ≤ x1 ∧ (x0.size : Int) * x1 ≤ 140737488355328
def S143 : Am.Spec := { sig := sig143, pre := fun ⟨x0, x1, _⟩ => P143 x0 x1, res := fun ⟨x0, x1, _⟩ => [⟨Ty.str, g143_0 x0 x1⟩] }
theorem con143 : Contract Tryd.prog 143 S143 := contract_flat rfl fun w ⟨x0, x1, _⟩ vs bss hg hp hw ha => by
  obtain ⟨v0, s0, _, _, rfl, _, ⟨_, rfl, _⟩, v1, s1, _, _, rfl, _, ⟨_, rfl, _⟩, rfl, _⟩ := ha
  obtain ⟨h0, h1⟩ := hp
  obtain ⟨c, rfl⟩ : ∃ c : Nat, x1 = (c : Int) := Int.eq_ofNat_of_zero_le h0
  have hi : InR .i64 (c : Int) := hw.2.1
  rw [i64_iff] at hi
  have hm : x0.size * c ≤ 140737488355328 := by
    have : ((x0.size * c : Nat) : Int) = (x0.size : Int) * (c : Int) := Int.natCast_mul _ _
    omega
  refine ⟨fun d hd => ?_, ?_⟩
  · rw [List.mem_singleton.1 hd]
    refine ⟨rfl, ?_⟩
    show (ByteArray.mk (Lib.repeatL x0.data.toList c).toArray).size ≤ maxLen
    have : (ByteArray.mk (Lib.repeatL x0.data.toList c).toArray).size = c * x0.data.toList.length := by
      show (Lib.repeatL x0.data.toList c).toArray.size = _
      rw [List.size_toArray, Lib.repeatL_length]
    rw [this, Nat.mul_comm]
    have e : x0.data.toList.length = x0.size := rfl
    rw [e]
    unfold maxLen
    omega
  · refine (Tryd.strings_Repeat x0 c w (by omega) hm).mono ?_
    rintro e w' ⟨rfl, hb⟩
    exact ⟨rfl, Kept.of_below hb⟩

end Go.Proofs.YtakodkjcmacofaaDoor

/- Function 103 (impl.padded): its runs between cut points. Written by a program of this repo (gen). -/
set_option linter.unusedVariables false
set_option linter.unusedSimpArgs false
set_option maxRecDepth 100000
namespace Go.Proofs.YtakodkjcmacofaaDoor
open Go Go.Am Go.Proofs
def ext103 : Ext := [(94, S94), (143, S143)]
theorem call103_94 : Callable Tryd.prog 94 := ⟨Tryd.f94, Tryd.func94, by kernel_rfl, by kernel_rfl⟩
theorem call103_143 : Callable Tryd.prog 143 := ⟨Tryd.f143, Tryd.func143, by kernel_rfl, by kernel_rfl⟩
theorem ext103Ok : ExtOk Tryd.prog ext103 := ⟨⟨call103_94, con94⟩, ⟨call103_143, con143⟩, trivial⟩
/-! Function 103. -/
noncomputable def b103 : Code := bodyOf Tryd.f103
theorem hb103 : Tryd.f103.body = some b103 := by kernel_rfl
def sig103 : List AT := [AT.v (Ty.int IntKind.i64), AT.v (Ty.int IntKind.i64)]
def tys103 : List Ty := [Ty.str]
def P103 (x0 : Int) (x1 : Int) : Prop := ((P94 x0) ∧ ((InR IntKind.i64 (x1 - (↑(ByteArray.size (g94_0 x0)) : Int))) ∧ ((P143 (ByteArray.mk #[48]) (if 0 < x1 - (↑(ByteArray.size (g94_0 x0)) : Int) then x1 - (↑(ByteArray.size (g94_0 x0)) : Int) else 0)) ∧ ((ByteArray.size (g143_0 (ByteArray.mk #[48]) (if 0 < x1 - (↑(ByteArray.size (g94_0 x0)) : Int) then x1 - (↑(ByteArray.size (g94_0 x0)) : Int) else 0)) + ByteArray.size (g94_0 x0) ≤ 9223372036854775807) ∧ True))))
def g103_0 (x0 : Int) (x1 : Int) : ByteArray := g143_0 (ByteArray.mk #[48]) (if 0 < x1 - (↑(ByteArray.size (g94_0 x0)) : Int) then x1 - (↑(ByteArray.size (g94_0 x0)) : Int) else 0) ++ g94_0 x0
theorem p103_0 (x0 : Int) (x1 : Int) : runF tab ext103 false 16 [] 2000 [] tys103 Tryd.f103.results [] [.code b103] (entE 0 0 sig103 (x0, x1, ())) (entL sig103 (x0, x1, ())) = some ([Dyn.mk Ty.str (g143_0 (ByteArray.mk #[48]) (if 0 < x1 - (↑(ByteArray.size (g94_0 x0)) : Int) then x1 - (↑(ByteArray.size (g94_0 x0)) : Int) else 0) ++ g94_0 x0)], [], [P94 x0, InR IntKind.i64 (x1 - (↑(ByteArray.size (g94_0 x0)) : Int)), P143 (ByteArray.mk #[48]) (if 0 < x1 - (↑(ByteArray.size (g94_0 x0)) : Int) then x1 - (↑(ByteArray.size (g94_0 x0)) : Int) else 0), ByteArray.size (g143_0 (ByteArray.mk #[48]) (if 0 < x1 - (↑(ByteArray.size (g94_0 x0)) : Int) then x1 - (↑(ByteArray.size (g94_0 x0)) : Int) else 0)) + ByteArray.size (g94_0 x0) ≤ 9223372036854775807]) := by kernel_rfl
theorem at103 (x0 : Int) (x1 : Int) (h : P103 x0 x1) (w0 : World) (O : List Nat) (q : Nat → Value) : AtV Tryd.prog 103 (PostR [⟨Ty.str, g103_0 x0 x1⟩] [] [] q w0 O) 16 w0 O q [] [.code b103] (entE 0 0 sig103 (x0, x1, ())) (entL sig103 (x0, x1, ())) := by
  unfold P103 at h
  unfold g103_0
  obtain ⟨s0, h⟩ := h
  obtain ⟨s1, h⟩ := h
  obtain ⟨s2, h⟩ := h
  obtain ⟨s3, h⟩ := h
  exact AtV.fin Tryd.func103 tabOk ext103Ok mixed (p103_0 x0 x1) ⟨s0, s1, s2, s3, trivial⟩

def S103 : Am.Spec := { sig := sig103, pre := fun ⟨x0, x1, _⟩ => P103 x0 x1, res := fun ⟨x0, x1, _⟩ => [⟨Ty.str, g103_0 x0 x1⟩] }
theorem con103 : Contract Tryd.prog 103 S103 := contract_of Tryd.func103 hb103 (Nat.le_of_ble_eq_true (by kernel_rfl)) (fun ⟨x0, x1, _⟩ h _ w0 O q => at103 x0 x1 h w0 O q)


end Go.Proofs.YtakodkjcmacofaaDoor

/- Function 42 (impl.LapText): its runs between cut points. Written by a program of this repo (gen). -/
set_option linter.unusedVariables false
set_option linter.unusedSimpArgs false
set_option maxRecDepth 100000
namespace Go.Proofs.YtakodkjcmacofaaDoor
open Go Go.Am Go.Proofs
def ext42 : Ext := [(108, S108), (94, S94), (103, S103)]
theorem call42_108 : Callable Tryd.prog 108 := ⟨Tryd.f108, Tryd.func108, by kernel_rfl, by kernel_rfl⟩
theorem call42_94 : Callable Tryd.prog 94 := ⟨Tryd.f94, Tryd.func94, by kernel_rfl, by kernel_rfl⟩
theorem call42_103 : Callable Tryd.prog 103 := ⟨Tryd.f103, Tryd.func103, by kernel_rfl, by kernel_rfl⟩
theorem ext42Ok : ExtOk Tryd.prog ext42 := ⟨⟨call42_108, con108⟩, ⟨call42_94, con94⟩, ⟨call42_103, con103⟩, trivial⟩
/-! Function 42. -/
noncomputable def b42 : Code := bodyOf Tryd.f42
theorem hb42 : Tryd.f42.body = some b42 := by kernel_rfl
def sig42 : List AT := [AT.v (Ty.int IntKind.i64)]
def tys42 : List Ty := [Ty.str]
def P42 (x0 : Int) : Prop := (if (!g108_0 x0) = true then True else ((InR IntKind.i64 (Int.tdiv x0 60)) ∧ ((P94 (Int.tdiv x0 60)) ∧ ((ByteArray.size (g94_0 (Int.tdiv x0 60)) + 1 ≤ 9223372036854775807) ∧ ((InR IntKind.i64 (Int.tmod x0 60)) ∧ ((P103 (Int.tmod x0 60) 2) ∧ ((ByteArray.size (g94_0 (Int.tdiv x0 60) ++ ByteArray.mk #[58]) + ByteArray.size (g103_0 (Int.tmod x0 60) 2) ≤ 9223372036854775807) ∧ True)))))))
def g42_0 (x0 : Int) : ByteArray := (if (!g108_0 x0) = true then ByteArray.mk #[] else g94_0 (Int.tdiv x0 60) ++ ByteArray.mk #[58] ++ g103_0 (Int.tmod x0 60) 2)
theorem p42_0 (x0 : Int) : runF tab ext42 false 14 [] 2000 [] tys42 Tryd.f42.results [true] [.code b42] (entE 0 0 sig42 (x0, ())) (entL sig42 (x0, ())) = some ([Dyn.mk Ty.str (ByteArray.mk #[])], [], [True, (!g108_0 x0) = Bool.true]) := by kernel_rfl
theorem p42_1 (x0 : Int) : runF tab ext42 false 14 [] 2000 [] tys42 Tryd.f42.results [false] [.code b42] (entE 0 0 sig42 (x0, ())) (entL sig42 (x0, ())) = some ([Dyn.mk Ty.str (g94_0 (Int.tdiv x0 60) ++ ByteArray.mk #[58] ++ g103_0 (Int.tmod x0 60) 2)], [], [True, (!g108_0 x0) = Bool.false, (60 : Int) ≠ (0 : Int), InR IntKind.i64 (Int.tdiv x0 60), P94 (Int.tdiv x0 60), ByteArray.size (g94_0 (Int.tdiv x0 60)) + 1 ≤ 9223372036854775807, (60 : Int) ≠ (0 : Int), InR IntKind.i64 (Int.tmod x0 60), P103 (Int.tmod x0 60) 2, ByteArray.size (g94_0 (Int.tdiv x0 60) ++ ByteArray.mk #[58]) + ByteArray.size (g103_0 (Int.tmod x0 60) 2) ≤ 9223372036854775807]) := by kernel_rfl
theorem at42 (x0 : Int) (h : P42 x0) (w0 : World) (O : List Nat) (q : Nat → Value) : AtV Tryd.prog 42 (PostR [⟨Ty.str, g42_0 x0⟩] [] [] q w0 O) 14 w0 O q [] [.code b42] (entE 0 0 sig42 (x0, ())) (entL sig42 (x0, ())) := by
  unfold P42 at h
  unfold g42_0
  by_cases b0 : (!g108_0 x0) = true
  · try simp only [if_pos b0] at h ⊢
    exact AtV.fin Tryd.func42 tabOk ext42Ok mixed (p42_0 x0) ⟨trivial, b0, trivial⟩
  · try simp only [if_neg b0] at h ⊢
    replace b0 := Bool.eq_false_iff.2 b0
    obtain ⟨s0, h⟩ := h
    obtain ⟨s1, h⟩ := h
    obtain ⟨s2, h⟩ := h
    obtain ⟨s3, h⟩ := h
    obtain ⟨s4, h⟩ := h
    obtain ⟨s5, h⟩ := h
    exact AtV.fin Tryd.func42 tabOk ext42Ok mixed (p42_1 x0) ⟨trivial, b0, (by decide), s0, s1, s2, (by decide), s3, s4, s5, trivial⟩

def S42 : Am.Spec := { sig := sig42, pre := fun ⟨x0, _⟩ => P42 x0, res := fun ⟨x0, _⟩ => [⟨Ty.str, g42_0 x0⟩] }
theorem con42 : Contract Tryd.prog 42 S42 := contract_of Tryd.func42 hb42 (Nat.le_of_ble_eq_true (by kernel_rfl)) (fun ⟨x0, _⟩ h _ w0 O q => at42 x0 h w0 O q)


end Go.Proofs.YtakodkjcmacofaaDoor

/- Function 16 (impl.ReadLap): its runs between cut points. Written by a program of this repo (gen). -/
set_option linter.unusedVariables false
set_option linter.unusedSimpArgs false
set_option maxRecDepth 100000
namespace Go.Proofs.YtakodkjcmacofaaDoor
open Go Go.Am Go.Proofs
def ext16 : Ext := [(64, S64), (65, S65), (42, S42)]
theorem call16_64 : Callable Tryd.prog 64 := ⟨Tryd.f64, Tryd.func64, by kernel_rfl, by kernel_rfl⟩
theorem call16_65 : Callable Tryd.prog 65 := ⟨Tryd.f65, Tryd.func65, by kernel_rfl, by kernel_rfl⟩
theorem call16_42 : Callable Tryd.prog 42 := ⟨Tryd.f42, Tryd.func42, by kernel_rfl, by kernel_rfl⟩
theorem ext16Ok : ExtOk Tryd.prog ext16 := ⟨⟨call16_64, con64⟩, ⟨call16_65, con65⟩, ⟨call16_42, con42⟩, trivial⟩
/-! Function 16. -/
noncomputable def b16 : Code := bodyOf Tryd.f16
theorem hb16 : Tryd.f16.body = some b16 := by kernel_rfl
def sig16 : List AT := [AT.v (Ty.str)]
def tys16 : List Ty := [Ty.int IntKind.i64, Ty.bool]
def P16 (x0 : ByteArray) : Prop := ((P64 x0 (ByteArray.mk #[58])) ∧ ((InR IntKind.i64 (60 * g65_0 (g64_0 x0 (ByteArray.mk #[58])))) ∧ ((InR IntKind.i64 (60 * g65_0 (g64_0 x0 (ByteArray.mk #[58])) + g65_0 (g64_1 x0 (ByteArray.mk #[58])))) ∧ (if (ByteArray.toList x0 == ByteArray.toList (ByteArray.mk #[])) = true then True else ((P42 (60 * g65_0 (g64_0 x0 (ByteArray.mk #[58])) + g65_0 (g64_1 x0 (ByteArray.mk #[58])))) ∧ True)))))
def g16_0 (x0 : ByteArray) : Int := (if (ByteArray.toList x0 == ByteArray.toList (ByteArray.mk #[])) = true then 0 else (if (!ByteArray.toList (g42_0 (60 * g65_0 (g64_0 x0 (ByteArray.mk #[58])) + g65_0 (g64_1 x0 (ByteArray.mk #[58])))) == ByteArray.toList x0) = true then 0 else 60 * g65_0 (g64_0 x0 (ByteArray.mk #[58])) + g65_0 (g64_1 x0 (ByteArray.mk #[58]))))
def g16_1 (x0 : ByteArray) : Bool := (if (ByteArray.toList x0 == ByteArray.toList (ByteArray.mk #[])) = true then Bool.false else (if (!ByteArray.toList (g42_0 (60 * g65_0 (g64_0 x0 (ByteArray.mk #[58])) + g65_0 (g64_1 x0 (ByteArray.mk #[58])))) == ByteArray.toList x0) = true then Bool.false else Bool.true))
theorem p16_0 (x0 : ByteArray) : runF tab ext16 false 29 [] 2000 [] tys16 Tryd.f16.results [true, true] [.code b16] (entE 0 0 sig16 (x0, ())) (entL sig16 (x0, ())) = some ([Dyn.mk (Ty.int IntKind.i64) 0, Dyn.mk Ty.bool Bool.false], [], [P64 x0 (ByteArray.mk #[58]), True, InR IntKind.i64 (60 * g65_0 (g64_0 x0 (ByteArray.mk #[58]))), True, InR IntKind.i64 (60 * g65_0 (g64_0 x0 (ByteArray.mk #[58])) + g65_0 (g64_1 x0 (ByteArray.mk #[58]))), (ByteArray.toList x0 == ByteArray.toList (ByteArray.mk #[])) = Bool.true, Bool.true = Bool.true]) := by kernel_rfl
theorem p16_1 (x0 : ByteArray) : runF tab ext16 false 29 [] 2000 [] tys16 Tryd.f16.results [false, true] [.code b16] (entE 0 0 sig16 (x0, ())) (entL sig16 (x0, ())) = some ([Dyn.mk (Ty.int IntKind.i64) 0, Dyn.mk Ty.bool Bool.false], [], [P64 x0 (ByteArray.mk #[58]), True, InR IntKind.i64 (60 * g65_0 (g64_0 x0 (ByteArray.mk #[58]))), True, InR IntKind.i64 (60 * g65_0 (g64_0 x0 (ByteArray.mk #[58])) + g65_0 (g64_1 x0 (ByteArray.mk #[58]))), (ByteArray.toList x0 == ByteArray.toList (ByteArray.mk #[])) = Bool.false, P42 (60 * g65_0 (g64_0 x0 (ByteArray.mk #[58])) + g65_0 (g64_1 x0 (ByteArray.mk #[58]))), (!ByteArray.toList (g42_0 (60 * g65_0 (g64_0 x0 (ByteArray.mk #[58])) + g65_0 (g64_1 x0 (ByteArray.mk #[58])))) == ByteArray.toList x0) = Bool.true]) := by kernel_rfl
theorem p16_2 (x0 : ByteArray) : runF tab ext16 false 29 [] 2000 [] tys16 Tryd.f16.results [false, false] [.code b16] (entE 0 0 sig16 (x0, ())) (entL sig16 (x0, ())) = some ([Dyn.mk (Ty.int IntKind.i64) (60 * g65_0 (g64_0 x0 (ByteArray.mk #[58])) + g65_0 (g64_1 x0 (ByteArray.mk #[58]))), Dyn.mk Ty.bool Bool.true], [], [P64 x0 (ByteArray.mk #[58]), True, InR IntKind.i64 (60 * g65_0 (g64_0 x0 (ByteArray.mk #[58]))), True, InR IntKind.i64 (60 * g65_0 (g64_0 x0 (ByteArray.mk #[58])) + g65_0 (g64_1 x0 (ByteArray.mk #[58]))), (ByteArray.toList x0 == ByteArray.toList (ByteArray.mk #[])) = Bool.false, P42 (60 * g65_0 (g64_0 x0 (ByteArray.mk #[58])) + g65_0 (g64_1 x0 (ByteArray.mk #[58]))), (!ByteArray.toList (g42_0 (60 * g65_0 (g64_0 x0 (ByteArray.mk #[58])) + g65_0 (g64_1 x0 (ByteArray.mk #[58])))) == ByteArray.toList x0) = Bool.false]) := by kernel_rfl
theorem at16 (x0 : ByteArray) (h : P16 x0) (w0 : World) (O : List Nat) (q : Nat → Value) : AtV Tryd.prog 16 (PostR [⟨Ty.int IntKind.i64, g16_0 x0⟩, ⟨Ty.bool, g16_1 x0⟩] [] [] q w0 O) 29 w0 O q [] [.code b16] (entE 0 0 sig16 (x0, ())) (entL sig16 (x0, ())) := by
  unfold P16 at h
  unfold g16_0 g16_1
  obtain ⟨s0, h⟩ := h
  obtain ⟨s1, h⟩ := h
  obtain ⟨s2, h⟩ := h
  by_cases b0 : (ByteArray.toList x0 == ByteArray.toList (ByteArray.mk #[])) = true
  · try simp only [if_pos b0] at h ⊢
    exact AtV.fin Tryd.func16 tabOk ext16Ok mixed (p16_0 x0) ⟨s0, trivial, s1, trivial, s2, b0, rfl, trivial⟩
  · try simp only [if_neg b0] at h ⊢
    replace b0 := Bool.eq_false_iff.2 b0
    obtain ⟨s3, h⟩ := h
    by_cases b1 : (!ByteArray.toList (g42_0 (60 * g65_0 (g64_0 x0 (ByteArray.mk #[58])) + g65_0 (g64_1 x0 (ByteArray.mk #[58])))) == ByteArray.toList x0) = true
    · try simp only [if_pos b1] at h ⊢
      exact AtV.fin Tryd.func16 tabOk ext16Ok mixed (p16_1 x0) ⟨s0, trivial, s1, trivial, s2, b0, s3, b1, trivial⟩
    · try simp only [if_neg b1] at h ⊢
      replace b1 := Bool.eq_false_iff.2 b1
      exact AtV.fin Tryd.func16 tabOk ext16Ok mixed (p16_2 x0) ⟨s0, trivial, s1, trivial, s2, b0, s3, b1, trivial⟩

def S16 : Am.Spec := { sig := sig16, pre := fun ⟨x0, _⟩ => P16 x0, res := fun ⟨x0, _⟩ => [⟨Ty.int IntKind.i64, g16_0 x0⟩, ⟨Ty.bool, g16_1 x0⟩] }
theorem con16 : Contract Tryd.prog 16 S16 := contract_of Tryd.func16 hb16 (Nat.le_of_ble_eq_true (by kernel_rfl)) (fun ⟨x0, _⟩ h _ w0 O q => at16 x0 h w0 O q)


end Go.Proofs.YtakodkjcmacofaaDoor

/- Function 4 (laws.FnExactReadLap): its runs between cut points. Written by a program of this repo (gen). -/
set_option linter.unusedVariables false
set_option linter.unusedSimpArgs false
set_option maxRecDepth 100000
namespace Go.Proofs.YtakodkjcmacofaaDoor
open Go Go.Am Go.Proofs
def ext4 : Ext := [(15, S15), (16, S16)]
theorem call4_15 : Callable Tryd.prog 15 := ⟨Tryd.f15, Tryd.func15, by kernel_rfl, by kernel_rfl⟩
theorem call4_16 : Callable Tryd.prog 16 := ⟨Tryd.f16, Tryd.func16, by kernel_rfl, by kernel_rfl⟩
theorem ext4Ok : ExtOk Tryd.prog ext4 := ⟨⟨call4_15, con15⟩, ⟨call4_16, con16⟩, trivial⟩
/-! Function 4. -/
noncomputable def b4 : Code := bodyOf Tryd.f4
theorem hb4 : Tryd.f4.body = some b4 := by kernel_rfl
def sig4 : List AT := [AT.v (Ty.str)]
def tys4 : List Ty := [Ty.bool]
def P4 (x0 : ByteArray) : Prop := (if (Decidable.decide ((↑(ByteArray.size x0) : Int) > 1048576)) = true then True else ((P15 x0) ∧ ((P16 x0) ∧ True)))
def g4_0 (x0 : ByteArray) : Bool := (if (Decidable.decide ((↑(ByteArray.size x0) : Int) > 1048576)) = true then Bool.true else (if (g16_0 x0 != g15_0 x0) = true then Bool.false else (if (!g16_1 x0 == g15_1 x0) = true then Bool.false else Bool.true)))
theorem p4_0 (x0 : ByteArray) : runF tab ext4 false 28 [] 2000 [] tys4 Tryd.f4.results [true] [.code b4] (entE 0 0 sig4 (x0, ())) (entL sig4 (x0, ())) = some ([Dyn.mk Ty.bool Bool.true], [], [Decidable.decide ((↑(ByteArray.size x0) : Int) > 1048576) = Bool.true]) := by kernel_rfl
theorem p4_1 (x0 : ByteArray) : runF tab ext4 false 28 [] 2000 [] tys4 Tryd.f4.results [false, true, true] [.code b4] (entE 0 0 sig4 (x0, ())) (entL sig4 (x0, ())) = some ([Dyn.mk Ty.bool Bool.false], [], [Decidable.decide ((↑(ByteArray.size x0) : Int) > 1048576) = Bool.false, P15 x0, P16 x0, (g16_0 x0 != g15_0 x0) = Bool.true, Bool.true = Bool.true]) := by kernel_rfl
theorem p4_2 (x0 : ByteArray) : runF tab ext4 false 28 [] 2000 [] tys4 Tryd.f4.results [false, false, true] [.code b4] (entE 0 0 sig4 (x0, ())) (entL sig4 (x0, ())) = some ([Dyn.mk Ty.bool Bool.false], [], [Decidable.decide ((↑(ByteArray.size x0) : Int) > 1048576) = Bool.false, P15 x0, P16 x0, (g16_0 x0 != g15_0 x0) = Bool.false, (!g16_1 x0 == g15_1 x0) = Bool.true]) := by kernel_rfl
theorem p4_3 (x0 : ByteArray) : runF tab ext4 false 28 [] 2000 [] tys4 Tryd.f4.results [false, false, false] [.code b4] (entE 0 0 sig4 (x0, ())) (entL sig4 (x0, ())) = some ([Dyn.mk Ty.bool Bool.true], [], [Decidable.decide ((↑(ByteArray.size x0) : Int) > 1048576) = Bool.false, P15 x0, P16 x0, (g16_0 x0 != g15_0 x0) = Bool.false, (!g16_1 x0 == g15_1 x0) = Bool.false]) := by kernel_rfl
theorem at4 (x0 : ByteArray) (h : P4 x0) (w0 : World) (O : List Nat) (q : Nat → Value) : AtV Tryd.prog 4 (PostR [⟨Ty.bool, g4_0 x0⟩] [] [] q w0 O) 28 w0 O q [] [.code b4] (entE 0 0 sig4 (x0, ())) (entL sig4 (x0, ())) := by
  unfold P4 at h
  unfold g4_0
  by_cases b0 : (Decidable.decide ((↑(ByteArray.size x0) : Int) > 1048576)) = true
  · try simp only [if_pos b0] at h ⊢
    exact AtV.fin Tryd.func4 tabOk ext4Ok mixed (p4_0 x0) ⟨b0, trivial⟩
  · try simp only [if_neg b0] at h ⊢
    replace b0 := Bool.eq_false_iff.2 b0
    obtain ⟨s0, h⟩ := h
    obtain ⟨s1, h⟩ := h
    by_cases b1 : (g16_0 x0 != g15_0 x0) = true
    · try simp only [if_pos b1] at h ⊢
      exact AtV.fin Tryd.func4 tabOk ext4Ok mixed (p4_1 x0) ⟨b0, s0, s1, b1, rfl, trivial⟩
    · try simp only [if_neg b1] at h ⊢
      replace b1 := Bool.eq_false_iff.2 b1
      by_cases b2 : (!g16_1 x0 == g15_1 x0) = true
      · try simp only [if_pos b2] at h ⊢
        exact AtV.fin Tryd.func4 tabOk ext4Ok mixed (p4_2 x0) ⟨b0, s0, s1, b1, b2, trivial⟩
      · try simp only [if_neg b2] at h ⊢
        replace b2 := Bool.eq_false_iff.2 b2
        exact AtV.fin Tryd.func4 tabOk ext4Ok mixed (p4_3 x0) ⟨b0, s0, s1, b1, b2, trivial⟩

def S4 : Am.Spec := { sig := sig4, pre := fun ⟨x0, _⟩ => P4 x0, res := fun ⟨x0, _⟩ => [⟨Ty.bool, g4_0 x0⟩] }
theorem con4 : Contract Tryd.prog 4 S4 := contract_of Tryd.func4 hb4 (Nat.le_of_ble_eq_true (by kernel_rfl)) (fun ⟨x0, _⟩ h _ w0 O q => at4 x0 h w0 O q)


end Go.Proofs.YtakodkjcmacofaaDoor

/- A law that says how functions of the program and of the specification hang together. -/
set_option linter.unusedVariables false
set_option linter.unusedSimpArgs false
set_option maxRecDepth 100000
namespace Go.Proofs.YtakodkjcmacofaaDoor
open Go Go.Am Go.Proofs

/-- The sign of a digit. -/
def D10 (a : Nat) : UInt8 := UInt8.ofNat (48 + a)
theorem D10_nat {a : Nat} (h : a < 10) : (D10 a).toNat = 48 + a := by unfold D10; rw [UInt8.toNat_ofNat']; omega
theorem D10_of {b : UInt8} (h : 48 ≤ b.toNat ∧ b.toNat ≤ 57) : b = D10 (b.toNat - 48) := by
  rw [← UInt8.toNat_inj, D10_nat (by omega)]; omega
theorem D10_inj {a b : Nat} (ha : a < 10) (hb : b < 10) (h : D10 a = D10 b) : a = b := by
  have := congrArg UInt8.toNat h
  rw [D10_nat ha, D10_nat hb] at this
  omega

theorem num_one {n : Nat} (h : n < 10) : numB (n : Int) = ⟨⟨[D10 n]⟩⟩ := by
  unfold numB Lib.itoa
  rw [if_neg (by omega), Int.toNat_natCast, Lib.decDigits_one h]
  rfl
theorem num_two {n : Nat} (h1 : 10 ≤ n) (h : n < 100) : numB (n : Int) = ⟨⟨[D10 (n / 10), D10 (n % 10)]⟩⟩ := by
  unfold numB Lib.itoa
  rw [if_neg (by omega), Int.toNat_natCast, Lib.decDigits_two (by omega) h]
  rfl

theorem pad_two {n : Nat} (h : n < 100) : P103 (n : Int) 2 ∧ g103_0 (n : Int) 2 = ⟨⟨[D10 (n / 10), D10 (n % 10)]⟩⟩ := by
  unfold P103 g103_0
  have e : g94_0 (n : Int) = numB (n : Int) := rfl
  rw [e]
  by_cases h1 : n < 10
  · rw [num_one h1]
    have e0 : n / 10 = 0 := by omega
    have e1 : n % 10 = n := by omega
    rw [e0, e1]
    have e2 : (ByteArray.mk (Array.mk [D10 n])).size = 1 := rfl
    rw [e2]
    exact ⟨⟨⟨rfl, trivial⟩, by rw [i64_iff]; decide, ⟨by decide, by decide⟩, by show 1 + 1 ≤ _; decide, trivial⟩, rfl⟩
  · rw [num_two (by omega) h]
    have e2 : (ByteArray.mk (Array.mk [D10 (n / 10), D10 (n % 10)])).size = 2 := rfl
    rw [e2]
    exact ⟨⟨⟨rfl, trivial⟩, by rw [i64_iff]; decide, ⟨by decide, by decide⟩, by show 0 + 2 ≤ _; decide, trivial⟩, rfl⟩

theorem num_bound : ∀ (l : List UInt8) (m i : Nat), m < 10 ^ i → i + l.length ≤ 12 → -1 ≤ num65 l (m : Int) ∧ num65 l (m : Int) < 1000000000000
  | [], m, i, h, hi => by
    have hp : 10 ^ i ≤ 10 ^ 12 := Nat.pow_le_pow_right (by decide) (by simp at hi; omega)
    have : m < 1000000000000 := Nat.lt_of_lt_of_le h hp
    show -1 ≤ (m : Int) ∧ (m : Int) < 1000000000000
    omega
  | b :: r, m, i, h, hi => by
    unfold num65
    split
    · rename_i hd
      have hd' : 48 ≤ b.toNat ∧ b.toNat ≤ 57 := by simpa using hd
      have e1 : 10 * (m : Int) + ((b.toNat : Int) - 48) = ((10 * m + (b.toNat - 48) : Nat) : Int) := by omega
      rw [e1]
      exact num_bound r _ (i + 1) (by rw [Nat.pow_succ]; omega) (by simp at hi; omega)
    · omega

theorem number_bound (x : ByteArray) : -1 ≤ g65_0 x ∧ g65_0 x < 1000000000000 := by
  unfold g65_0
  split
  · omega
  · rename_i h
    have : x.data.toList.length = x.size := rfl
    exact num_bound x.data.toList 0 0 (by decide) (by omega)

theorem number_two {a b : Nat} (ha : a < 10) (hb : b < 10) : g65_0 ⟨⟨[D10 a, D10 b]⟩⟩ = ((10 * a + b : Nat) : Int) := by
  unfold g65_0
  rw [if_neg (by show ¬ (2 < 1 ∨ 12 < 2); omega)]
  show num65 [D10 a, D10 b] 0 = _
  simp only [num65, D10_nat ha, D10_nat hb, decide_eq_true_eq, Bool.and_eq_true]
  rw [if_pos (by omega), if_pos (by omega)]
  omega


end Go.Proofs.YtakodkjcmacofaaDoor

/- A law that says how functions of the program and of the specification hang together. -/
set_option linter.unusedVariables false
set_option linter.unusedSimpArgs false
set_option maxRecDepth 100000
namespace Go.Proofs.YtakodkjcmacofaaDoor
open Go Go.Am Go.Proofs

/-- A digit. -/
def isD (b : UInt8) : Prop := 48 ≤ b.toNat ∧ b.toNat ≤ 57
/-- The value of digits. -/
def dval : List UInt8 → Nat → Nat
  | [], n => n
  | b :: r, n => dval r (10 * n + (b.toNat - 48))
theorem dval_append : ∀ (l : List UInt8) (b : UInt8) (n : Nat), dval (l ++ [b]) n = 10 * dval l n + (b.toNat - 48)
  | [], _, _ => rfl
  | c :: r, b, n => dval_append r b _
theorem dval_pos : ∀ (l : List UInt8) (n : Nat), 1 ≤ n → 1 ≤ dval l n
  | [], _, h => h
  | b :: r, n, h => dval_pos r _ (by omega)

theorem dsign_nat {a : Nat} (h : a < 10) : (UInt8.ofNat (48 + a)).toNat = 48 + a := by rw [UInt8.toNat_ofNat']; omega

theorem dec_facts (n : Nat) : (∀ b ∈ Lib.decDigits n, isD b) ∧ dval (Lib.decDigits n) 0 = n ∧ 0 < (Lib.decDigits n).length ∧ (1 ≤ n → ((Lib.decDigits n).getD 0 0).toNat ≠ 48) := by
  induction n using Nat.strongRecOn with
  | _ n ih =>
    by_cases h : n < 10
    · rw [Lib.decDigits, dif_pos h]
      have e := dsign_nat h
      refine ⟨fun b hb => ?_, ?_, by simp, fun h1 => ?_⟩
      · rw [List.mem_singleton.1 hb]; unfold isD; omega
      · show 10 * 0 + ((UInt8.ofNat (48 + n)).toNat - 48) = n; omega
      · show (UInt8.ofNat (48 + n)).toNat ≠ 48; omega
    · rw [Lib.decDigits, dif_neg h]
      obtain ⟨i1, i2, i3, i4⟩ := ih (n / 10) (by omega)
      have e := dsign_nat (a := n % 10) (by omega)
      refine ⟨fun b hb => ?_, ?_, by simp, fun h1 => ?_⟩
      · rcases List.mem_append.1 hb with hb | hb
        · exact i1 b hb
        · rw [List.mem_singleton.1 hb]; unfold isD; omega
      · rw [dval_append, i2, e]; omega
      · have i4 := i4 (by omega)
        cases hd : Lib.decDigits (n / 10) with
        | nil => rw [hd] at i3; simp at i3
        | cons c r => rw [hd] at i4; exact i4

theorem dec_canon (n : Nat) : ∀ l : List UInt8, l.length = n → (∀ b ∈ l, isD b) → 0 < l.length → ((l.getD 0 0).toNat ≠ 48 ∨ l.length = 1) → Lib.decDigits (dval l 0) = l := by
  induction n with
  | zero => intro l hl _ h0 _; omega
  | succ n ih =>
    intro l hl hd h0 hc
    rcases List.eq_nil_or_concat l with rfl | ⟨l', b, rfl⟩
    · simp at h0
    · rw [List.concat_eq_append] at *
      have hb : isD b := hd b (by simp)
      unfold isD at hb
      rw [dval_append]
      cases l' with
      | nil =>
        rw [Lib.decDigits, dif_pos (by show 10 * 0 + (b.toNat - 48) < 10; omega)]
        show [UInt8.ofNat (48 + (10 * 0 + (b.toNat - 48)))] = [b]
        congr 1
        rw [← UInt8.toNat_inj, UInt8.toNat_ofNat']; omega
      | cons c r =>
        have hc' : c.toNat ≠ 48 := by
          rcases hc with hc | hc
          · exact hc
          · simp at hc
        have hcd : isD c := hd c (by simp)
        unfold isD at hcd
        have hp : 1 ≤ dval (c :: r) 0 := dval_pos r _ (by omega)
        have hi := ih (c :: r) (by simp at hl ⊢; omega) (fun x hx => hd x (List.mem_append_left _ hx)) (by simp) (.inl hc')
        rw [Lib.decDigits, dif_neg (by omega), show (10 * dval (c :: r) 0 + (b.toNat - 48)) / 10 = dval (c :: r) 0 by omega, hi, show (10 * dval (c :: r) 0 + (b.toNat - 48)) % 10 = b.toNat - 48 by omega]
        congr 2
        rw [← UInt8.toNat_inj, UInt8.toNat_ofNat']; omega

theorem dec_len : ∀ (k n : Nat), n < 10 ^ (k + 1) → (Lib.decDigits n).length ≤ k + 1
  | 0, n, h => by rw [Lib.decDigits, dif_pos (by simpa using h)]; simp
  | k + 1, n, h => by
    rw [Lib.decDigits]
    split
    · simp
    · have := dec_len k (n / 10) (by rw [Nat.pow_succ] at h; omega)
      simp; omega

theorem number_dec {n : Nat} (h : n < 1000000000000) : g65_0 ⟨⟨Lib.decDigits n⟩⟩ = (n : Int) := by
  have key : ∀ (l : List UInt8) (m : Nat), (∀ b ∈ l, isD b) → num65 l (m : Int) = (dval l m : Nat) := by
    intro l
    induction l with
    | nil => intro m _; rfl
    | cons b r ih =>
      intro m hd
      have hb : isD b := hd b (List.mem_cons_self ..)
      unfold isD at hb
      unfold num65
      rw [if_pos (by simpa using hb)]
      have e1 : 10 * (m : Int) + ((b.toNat : Int) - 48) = ((10 * m + (b.toNat - 48) : Nat) : Int) := by omega
      rw [e1]
      exact ih _ (fun c hc => hd c (List.mem_cons_of_mem _ hc))
  obtain ⟨d1, d2, d3, _⟩ := dec_facts n
  have hl := dec_len 11 n (by omega)
  have hs : (ByteArray.mk ⟨Lib.decDigits n⟩).size = (Lib.decDigits n).length := rfl
  unfold g65_0
  rw [if_neg (by omega)]
  have := key (Lib.decDigits n) 0 d1
  rw [d2] at this
  exact this

end Go.Proofs.YtakodkjcmacofaaDoor

/- A law that says how functions of the program and of the specification hang together. -/
set_option linter.unusedVariables false
set_option linter.unusedSimpArgs false
set_option maxRecDepth 100000
namespace Go.Proofs.YtakodkjcmacofaaDoor
open Go Go.Am Go.Proofs

/-- The text of seconds. -/
def lap (h m : Nat) : ByteArray := ⟨⟨Lib.decDigits h ++ 58 :: [D10 (m / 10), D10 (m % 10)]⟩⟩

theorem dec_free (h : Nat) : (58 : UInt8) ∉ Lib.decDigits h := fun hm => by
  have := (dec_facts h).1 _ hm
  unfold isD at this
  have e58 : (58 : UInt8).toNat = 58 := rfl
  omega

theorem lap_text {k : Nat} (h : k ≤ 1000000000) : g42_0 (k : Int) = lap (k / 60) (k % 60) := by
  unfold g42_0 g108_0 g102_0
  have e1 : Int.tdiv (k : Int) 60 = ((k / 60 : Nat) : Int) := rfl
  have e2 : Int.tmod (k : Int) 60 = ((k % 60 : Nat) : Int) := rfl
  have e3 : g94_0 ((k / 60 : Nat) : Int) = ⟨⟨Lib.decDigits (k / 60)⟩⟩ := by
    show numB _ = _
    unfold numB Lib.itoa
    rw [if_neg (by omega), Int.toNat_natCast]
  rw [e1, e2, e3, (pad_two (n := k % 60) (by omega)).2]
  have c1 : (k : Int) ≥ 0 := by omega
  have c2 : (k : Int) ≤ 1000000000 := by omega
  simp only [c1, c2, decide_true, if_true, Bool.not_true, Bool.false_eq_true, if_false]
  apply ByteArray.ext
  apply Array.ext'
  simp [ByteArray.data_append, lap]

theorem lap_pre (n : Int) : P42 n := by
  unfold P42
  split
  · trivial
  · rename_i hw
    have hw' : 0 ≤ n ∧ n ≤ 1000000000 := by
      unfold g108_0 g102_0 at hw
      by_cases c1 : n ≥ 0
      · by_cases c2 : n ≤ 1000000000
        · exact ⟨c1, c2⟩
        · simp [c1, c2] at hw
      · simp [c1] at hw
    obtain ⟨k, rfl⟩ : ∃ k : Nat, n = (k : Int) := Int.eq_ofNat_of_zero_le hw'.1
    have e1 : Int.tdiv (k : Int) 60 = ((k / 60 : Nat) : Int) := rfl
    have e2 : Int.tmod (k : Int) 60 = ((k % 60 : Nat) : Int) := rfl
    obtain ⟨p2, q2⟩ := pad_two (n := k % 60) (by omega)
    have hs : (g94_0 ((k / 60 : Nat) : Int)).size ≤ 21 := numB_size _ (by omega) (by omega)
    rw [e1, e2, q2]
    refine ⟨by rw [i64_iff]; omega, ⟨rfl, trivial⟩, by omega, by rw [i64_iff]; omega, p2, ?_, trivial⟩
    rw [ByteArray.size_append]
    have a1 : (ByteArray.mk #[58]).size = 1 := rfl
    have a2 : (ByteArray.mk ⟨[D10 (k % 60 / 10), D10 (k % 60 % 10)]⟩).size = 2 := rfl
    omega

theorem lap_cut (h m : Nat) : g64_0 (lap h m) (ByteArray.mk #[58]) = ⟨⟨Lib.decDigits h⟩⟩ ∧ g64_1 (lap h m) (ByteArray.mk #[58]) = ⟨⟨[D10 (m / 10), D10 (m % 10)]⟩⟩ := by
  have hc : Lib.cut (lap h m).data.toList (ByteArray.mk #[58]).data.toList = (Lib.decDigits h, [D10 (m / 10), D10 (m % 10)], true) := cut_hit 58 _ (dec_free h)
  unfold g64_0 g64_1
  rw [hc]
  exact ⟨rfl, rfl⟩

theorem lap_ne (h m : Nat) : lap h m ≠ ByteArray.mk #[] := fun hh => by
  have := congrArg ByteArray.size hh
  have e : (lap h m).size = (Lib.decDigits h ++ 58 :: [D10 (m / 10), D10 (m % 10)]).length := rfl
  rw [e] at this
  simp at this
  have z : (ByteArray.mk #[]).size = 0 := rfl
  omega

theorem lap_i1 {h m : Nat} (h1 : 60 * h + m ≤ 1000000000) (h2 : m ≤ 59) : g16_0 (lap h m) = ((60 * h + m : Nat) : Int) ∧ g16_1 (lap h m) = true := by
  obtain ⟨c1, c2⟩ := lap_cut h m
  unfold g16_0 g16_1
  rw [c1, c2, number_dec (by omega), number_two (by omega) (by omega)]
  have e : 60 * (h : Int) + ((10 * (m / 10) + m % 10 : Nat) : Int) = ((60 * h + m : Nat) : Int) := by omega
  have e3 : (60 * h + m) / 60 = h := by omega
  have e4 : (60 * h + m) % 60 = m := by omega
  rw [e, lap_text (by omega), e3, e4]
  have ne : ¬ (ByteArray.toList (lap h m) == ByteArray.toList (ByteArray.mk #[])) = true := by
    rw [bytes_eq]
    exact lap_ne h m
  rw [if_neg ne, if_neg ne]
  simp

theorem lap_i2 {x : ByteArray} (hx : g16_1 x = true) : ∃ h m : Nat, 60 * h + m ≤ 1000000000 ∧ m ≤ 59 ∧ x = lap h m := by
  unfold g16_1 at hx
  generalize 60 * g65_0 (g64_0 x (ByteArray.mk #[58])) + g65_0 (g64_1 x (ByteArray.mk #[58])) = n at hx
  split at hx
  · cases hx
  · rename_i h0
    split at hx
    · cases hx
    · rename_i h1
      rw [bytes_eq] at h0
      have h1' : g42_0 n = x := by
        rw [← bytes_eq]; simpa using h1
      by_cases hw : 0 ≤ n ∧ n ≤ 1000000000
      · obtain ⟨k, rfl⟩ : ∃ k : Nat, n = (k : Int) := Int.eq_ofNat_of_zero_le hw.1
        exact ⟨k / 60, k % 60, by omega, by omega, by rw [← h1', lap_text (by omega)]⟩
      · exfalso
        apply h0
        rw [← h1']
        unfold g42_0 g108_0 g102_0
        by_cases c1 : n ≥ 0
        · have c2 : ¬ n ≤ 1000000000 := by omega
          simp [c1, c2]
        · simp [c1]

theorem lap_i3 {x : ByteArray} (hx : g16_1 x = false) : g16_0 x = 0 := by
  unfold g16_1 at hx
  unfold g16_0
  split at hx
  · rename_i h; rw [if_pos h]
  · rename_i h
    rw [if_neg h]
    split at hx
    · rename_i h; rw [if_pos h]
    · cases hx

theorem lap_ip {x : ByteArray} (h : x.size ≤ 1048576) : P16 x := by
  unfold P16
  have b1 := number_bound (g64_0 x (ByteArray.mk #[58]))
  have b2 := number_bound (g64_1 x (ByteArray.mk #[58]))
  refine ⟨(show x.size < 4294967281 from by omega), by rw [i64_iff]; omega, by rw [i64_iff]; omega, ?_⟩
  split
  · trivial
  · exact ⟨lap_pre _, trivial⟩

end Go.Proofs.YtakodkjcmacofaaDoor

/- A law that says how functions of the program and of the specification hang together. -/
set_option linter.unusedVariables false
set_option linter.unusedSimpArgs false
set_option maxRecDepth 100000
namespace Go.Proofs.YtakodkjcmacofaaDoor
open Go Go.Am Go.Proofs

theorem dig_dec : ∀ (l : List UInt8) (m : Nat), (∀ b ∈ l, isD b) → dig68 l (m : Int) = (((dval l m : Nat) : Int), true)
  | [], _, _ => rfl
  | b :: r, m, hd => by
    have hb : isD b := hd b (List.mem_cons_self ..)
    unfold isD at hb
    unfold dig68 d68
    rw [if_pos (by simpa using hb)]
    have e1 : 10 * (m : Int) + ((b.toNat : Int) - 48) = ((10 * m + (b.toNat - 48) : Nat) : Int) := by omega
    rw [e1]
    exact dig_dec r _ (fun c hc => hd c (List.mem_cons_of_mem _ hc))

theorem dig_all : ∀ (l : List UInt8) (n : Int), (dig68 l n).2 = true → ∀ b ∈ l, isD b
  | [], n, h, b, hb => by cases hb
  | c :: r, n, h, b, hb => by
    unfold dig68 at h
    split at h
    · rename_i hd
      rcases List.mem_cons.1 hb with rfl | hb
      · unfold d68 at hd; unfold isD; simpa using hd
      · exact dig_all r _ h b hb
    · cases h

theorem num_cons (b : UInt8) (r : List UInt8) : num68 (b :: r) = if b.toNat = 45 then (if r.length = 0 ∨ 18 < r.length ∨ (r.getD 0 0).toNat = 48 then (0, false) else fin68 1 (dig68 r 0))
    else if 18 < r.length + 1 ∨ (b.toNat = 48 ∧ 0 < r.length) then (0, false) else fin68 0 (dig68 (b :: r) 0) := rfl

theorem num_dec {n : Nat} (h : n < 1000000000000) : g68_0 ⟨⟨Lib.decDigits n⟩⟩ = (n : Int) ∧ g68_1 ⟨⟨Lib.decDigits n⟩⟩ = true := by
  obtain ⟨d1, d2, d3, d4⟩ := dec_facts n
  have hl := dec_len 11 n (by omega)
  have e : num68 (Lib.decDigits n) = ((n : Int), true) := by
    have hz : Lib.decDigits 0 = [48] := by rw [Lib.decDigits, dif_pos (by decide)]; rfl
    cases hd : Lib.decDigits n with
    | nil => rw [hd] at d3; simp at d3
    | cons b r =>
      rw [hd] at d1 d2 d3 d4 hl
      have hb : isD b := d1 b (List.mem_cons_self ..)
      unfold isD at hb
      rw [num_cons, if_neg (by omega), if_neg (fun hh => by
        rcases hh with hh | ⟨hh, hr⟩
        · simp at hl; omega
        · rcases Nat.eq_zero_or_pos n with rfl | hn
          · rw [hz] at hd
            cases hd
            simp at hr
          · exact d4 hn hh)]
      unfold fin68
      rw [if_neg (by decide)]
      have := dig_dec (b :: r) 0 d1
      rw [d2] at this
      exact this
  unfold g68_0 g68_1
  show (num68 (Lib.decDigits n)).1 = _ ∧ (num68 (Lib.decDigits n)).2 = _
  rw [e]
  exact ⟨rfl, rfl⟩

/-- What the specification takes for a number that is not negative is a numeral. -/
theorem num_canon {p : List UInt8} (h : g68_1 ⟨⟨p⟩⟩ = true) (h0 : 0 ≤ g68_0 ⟨⟨p⟩⟩) : ∃ n : Nat, p = Lib.decDigits n ∧ g68_0 ⟨⟨p⟩⟩ = (n : Int) := by
  unfold g68_0 g68_1 at *
  change (num68 p).2 = true at h
  change 0 ≤ (num68 p).1 at h0
  show ∃ n : Nat, p = Lib.decDigits n ∧ (num68 p).1 = (n : Int)
  cases p with
  | nil => cases h
  | cons b r =>
    rw [num_cons] at h h0 ⊢
    split at h
    · rename_i hb
      rw [if_pos hb] at h0
      split at h
      · cases h
      · rename_i hc
        rw [if_neg hc] at h0
        exfalso
        unfold fin68 at h h0
        rw [if_pos rfl] at h h0
        have hall := dig_all r 0 h
        have hv := dig_dec r 0 hall
        change dig68 r 0 = _ at hv
        rw [hv] at h0
        cases r with
        | nil => simp at hc
        | cons c q =>
          have hcd : isD c := hall c (List.mem_cons_self ..)
          unfold isD at hcd
          have hc2 : c.toNat ≠ 48 := fun e => hc (.inr (.inr e))
          have hp : 1 ≤ dval (c :: q) 0 := dval_pos q _ (by omega)
          simp only at h0
          omega
    · rename_i hb
      rw [if_neg hb]
      split at h
      · cases h
      · rename_i hc
        rw [if_neg hc]
        unfold fin68 at h ⊢
        rw [if_neg (by decide)] at h ⊢
        have hall := dig_all (b :: r) 0 h
        have hv := dig_dec (b :: r) 0 hall
        change dig68 (b :: r) 0 = _ at hv
        rw [hv]
        refine ⟨dval (b :: r) 0, (dec_canon (b :: r).length (b :: r) rfl hall (by simp) ?_).symm, rfl⟩
        by_cases hr : 0 < r.length
        · exact .inl (fun e => hc (.inr ⟨e, hr⟩))
        · exact .inr (by rw [List.length_cons]; omega)

theorem lap_split (h m : Nat) (hm1 : m < 100) : g66_0 (lap h m) 58 = [⟨⟨Lib.decDigits h⟩⟩, ⟨⟨[D10 (m / 10), D10 (m % 10)]⟩⟩] := by
  have hm : (58 : UInt8) ∉ [D10 (m / 10), D10 (m % 10)] := fun hm => by
    simp only [List.mem_cons, List.mem_nil_iff, or_false] at hm
    rcases hm with e | e <;> (have := congrArg UInt8.toNat e; have e58 : (58 : UInt8).toNat = 58 := rfl; rw [D10_nat (by omega)] at this; omega)
  show bss (splitC 58 (Lib.decDigits h ++ 58 :: [D10 (m / 10), D10 (m % 10)])) = _
  rw [splitC_hit 58 _ (dec_free h), splitC_free 58 hm]
  rfl

theorem mass_iff (n : Int) : g69_0 n = true ↔ 0 ≤ n ∧ n ≤ 1000000000 := by
  unfold g69_0 g124_0
  by_cases c1 : n ≥ 0
  · by_cases c2 : n ≤ 1000000000
    · simp [c1, c2]
    · simp [c1, c2]
  · have : ¬ 0 ≤ n := c1
    simp [c1, this]

theorem digit_iff (b : UInt8) : g67_0 (b.toNat : Int) = true ↔ isD b := by
  unfold g67_0 isD
  by_cases h1 : 48 ≤ b.toNat
  · have h1' : (b.toNat : Int) ≥ 48 := by omega
    by_cases h2 : b.toNat ≤ 57
    · have h2' : (b.toNat : Int) ≤ 57 := by omega
      simp [h1, h2, h1', h2']
    · have h2' : ¬ (b.toNat : Int) ≤ 57 := by omega
      simp [h1, h2, h1', h2']
  · have h1' : ¬ (b.toNat : Int) ≥ 48 := by omega
    simp [h1, h1']

theorem lap_s1 {h m : Nat} (h1 : 60 * h + m ≤ 1000000000) (h2 : m ≤ 59) : g15_0 (lap h m) = ((60 * h + m : Nat) : Int) ∧ g15_1 (lap h m) = true := by
  obtain ⟨n1, n2⟩ := num_dec (n := h) (by omega)
  have x1 := D10_nat (a := m / 10) (by omega)
  have x2 := D10_nat (a := m % 10) (by omega)
  have y1 : g67_0 ((D10 (m / 10)).toNat : Int) = true := (digit_iff _).2 (by unfold isD; omega)
  have y2 : g67_0 ((D10 (m % 10)).toNat : Int) = true := (digit_iff _).2 (by unfold isD; omega)
  have a1 : List.getD [(⟨⟨Lib.decDigits h⟩⟩ : ByteArray), ⟨⟨[D10 (m / 10), D10 (m % 10)]⟩⟩] 0 ByteArray.empty = ⟨⟨Lib.decDigits h⟩⟩ := rfl
  have a2 : List.getD [(⟨⟨Lib.decDigits h⟩⟩ : ByteArray), ⟨⟨[D10 (m / 10), D10 (m % 10)]⟩⟩] 1 ByteArray.empty = ⟨⟨[D10 (m / 10), D10 (m % 10)]⟩⟩ := rfl
  have a3 : (((⟨⟨[D10 (m / 10), D10 (m % 10)]⟩⟩ : ByteArray).size : Nat) : Int) = 2 := rfl
  have a4 : List.getD (Array.toList (ByteArray.data ⟨⟨[D10 (m / 10), D10 (m % 10)]⟩⟩)) 0 0 = D10 (m / 10) := rfl
  have a5 : List.getD (Array.toList (ByteArray.data ⟨⟨[D10 (m / 10), D10 (m % 10)]⟩⟩)) 1 0 = D10 (m % 10) := rfl
  have a6 : (([(⟨⟨Lib.decDigits h⟩⟩ : ByteArray), ⟨⟨[D10 (m / 10), D10 (m % 10)]⟩⟩].length : Nat) : Int) = 2 := rfl
  have v : 10 * (((D10 (m / 10)).toNat : Int) - 48) + (((D10 (m % 10)).toNat : Int) - 48) = (m : Int) := by omega
  have m1 : g69_0 (h : Int) = true := (mass_iff _).2 (by omega)
  have m2 : g69_0 (60 * (h : Int) + (m : Int)) = true := (mass_iff _).2 (by omega)
  have l1 : ¬ (m : Int) > 59 := by omega
  unfold g15_0 g15_1
  rw [lap_split h m (by omega)]
  simp only [a1, a2, a3, a4, a5, a6, n1, n2, y1, y2, v, m1, m2, l1, bne_self_eq_false, Bool.not_true, Bool.false_eq_true, if_false, decide_false, and_true]
  omega

theorem two_of {l : List UInt8} (h : (bss (splitC 58 l)).length = 2) : ∃ p r, l = p ++ 58 :: r ∧ (58 : UInt8) ∉ p ∧ bss (splitC 58 l) = [⟨⟨p⟩⟩, ⟨⟨r⟩⟩] := by
  rcases split_at 58 l with hf | ⟨p, r, rfl, hp⟩
  · rw [splitC_free 58 hf] at h; cases h
  · rw [splitC_hit 58 r hp] at h ⊢
    rcases split_at 58 r with hf | ⟨q, s, rfl, hq⟩
    · exact ⟨p, r, rfl, hp, by rw [splitC_free 58 hf]; rfl⟩
    · rw [splitC_hit 58 s hq] at h
      have hne := splitC_ne 58 s
      cases hs : splitC 58 s with
      | nil => exact absurd hs hne
      | cons a b => rw [hs] at h; simp [bss] at h

theorem lap_s2 {x : ByteArray} (hx : g15_1 x = true) : ∃ h m : Nat, 60 * h + m ≤ 1000000000 ∧ m ≤ 59 ∧ x = lap h m := by
  obtain ⟨⟨l⟩⟩ := x
  unfold g15_1 at hx
  by_cases h2 : (g66_0 ⟨⟨l⟩⟩ 58).length = 2
  · have h2' : (bss (splitC 58 l)).length = 2 := h2
    obtain ⟨p, r, rfl, hp, e⟩ := two_of h2'
    have e' : g66_0 ⟨⟨p ++ 58 :: r⟩⟩ 58 = [⟨⟨p⟩⟩, ⟨⟨r⟩⟩] := e
    rw [e'] at hx
    have a1 : List.getD [(⟨⟨p⟩⟩ : ByteArray), ⟨⟨r⟩⟩] 0 ByteArray.empty = ⟨⟨p⟩⟩ := rfl
    have a2 : List.getD [(⟨⟨p⟩⟩ : ByteArray), ⟨⟨r⟩⟩] 1 ByteArray.empty = ⟨⟨r⟩⟩ := rfl
    rw [a1, a2] at hx
    split at hx
    · cases hx
    · split at hx
      · cases hx
      · rename_i hr
        have hr' : r.length = 2 := by
          have : (((ByteArray.mk ⟨r⟩).size : Nat) : Int) = 2 := by simpa using hr
          have e : (ByteArray.mk ⟨r⟩).size = r.length := rfl
          omega
        obtain ⟨a, b, rfl⟩ : ∃ a b, r = [a, b] := by
          match r, hr' with
          | [a, b], _ => exact ⟨a, b, rfl⟩
        have a4 : List.getD (Array.toList (ByteArray.data ⟨⟨[a, b]⟩⟩)) 0 0 = a := rfl
        have a5 : List.getD (Array.toList (ByteArray.data ⟨⟨[a, b]⟩⟩)) 1 0 = b := rfl
        rw [a4, a5] at hx
        split at hx
        · cases hx
        · rename_i d1
          split at hx
          · cases hx
          · rename_i d2
            split at hx
            · cases hx
            · rename_i n1
              split at hx
              · cases hx
              · rename_i m1
                split at hx
                · cases hx
                · rename_i l1
                  split at hx
                  · cases hx
                  · rename_i m2
                    have d1' : isD a := (digit_iff a).1 (by simpa using d1)
                    have d2' : isD b := (digit_iff b).1 (by simpa using d2)
                    have n1' : g68_1 ⟨⟨p⟩⟩ = true := by simpa using n1
                    have m1' := (mass_iff _).1 (show g69_0 (g68_0 ⟨⟨p⟩⟩) = true by simpa using m1)
                    obtain ⟨v, rfl, hv⟩ := num_canon n1' m1'.1
                    rw [hv] at m2
                    have m2' := (mass_iff _).1 (by simpa using m2)
                    simp only [decide_eq_true_eq] at l1
                    unfold isD at d1' d2'
                    have ea : a = D10 (a.toNat - 48) := D10_of d1'
                    have eb : b = D10 (b.toNat - 48) := D10_of d2'
                    refine ⟨v, 10 * (a.toNat - 48) + (b.toNat - 48), by omega, by omega, ?_⟩
                    unfold lap
                    rw [show (10 * (a.toNat - 48) + (b.toNat - 48)) / 10 = a.toNat - 48 by omega, show (10 * (a.toNat - 48) + (b.toNat - 48)) % 10 = b.toNat - 48 by omega, ← ea, ← eb]
  · rw [if_pos (by simp; omega)] at hx
    cases hx

theorem chain {c : Prop} [Decidable c] {B : Bool} {A : Int} (h : B = false → A = 0) (hx : (if c then false else B) = false) : (if c then 0 else A) = 0 := by
  split at hx
  · rename_i hc; rw [if_pos hc]
  · rename_i hc; rw [if_neg hc]; exact h hx

theorem lap_s3 {x : ByteArray} (hx : g15_1 x = false) : g15_0 x = 0 :=
  chain (chain (chain (chain (chain (chain (chain (chain (fun h => by cases h)))))))) hx

theorem lap_sp {x : ByteArray} (hs : x.size ≤ 1048576) : P15 x := by
  unfold P15
  refine ⟨⟨by omega, by omega, by omega⟩, ?_⟩
  generalize g66_0 x 58 = L
  split
  · trivial
  · rename_i h2
    have h2' : L.length = 2 := by
      have : ((L.length : Nat) : Int) = 2 := by simpa using h2
      omega
    generalize L.getD 1 ByteArray.empty = w at *
    generalize L.getD 0 ByteArray.empty = u at *
    refine ⟨by omega, ?_⟩
    split
    · trivial
    · rename_i h3
      have h3' : w.size = 2 := by
        have : ((w.size : Nat) : Int) = 2 := by simpa using h3
        omega
      generalize w.data.toList.getD 0 0 = a at *
      generalize w.data.toList.getD 1 0 = b at *
      refine ⟨by omega, by omega, ?_⟩
      split
      · trivial
      · rename_i d1
        refine ⟨by omega, by omega, ?_⟩
        split
        · trivial
        · rename_i d2
          have d1' : isD a := (digit_iff a).1 (by simpa using d1)
          have d2' : isD b := (digit_iff b).1 (by simpa using d2)
          unfold isD at d1' d2'
          refine ⟨by omega, by omega, by omega, by rw [u8_iff]; omega, by rw [i64_iff]; omega, by rw [i64_iff]; omega, by omega, by omega, by rw [u8_iff]; omega, by rw [i64_iff]; omega, by rw [i64_iff]; omega, ?_⟩
          split
          · trivial
          · split
            · trivial
            · rename_i m1
              have m1' := (mass_iff _).1 (by simpa using m1)
              split
              · trivial
              · rename_i l1
                simp only [decide_eq_true_eq] at l1
                refine ⟨by rw [i64_iff]; omega, by rw [i64_iff]; omega, ?_⟩
                split
                · trivial
                · exact ⟨by rw [i64_iff]; omega, by rw [i64_iff]; omega, trivial⟩

theorem read_lap (x : ByteArray) (h : x.size ≤ 1048576) : P15 x ∧ P16 x ∧ g16_0 x = g15_0 x ∧ g16_1 x = g15_1 x := by
  refine ⟨lap_sp h, lap_ip h, ?_⟩
  cases hs : g15_1 x with
  | true =>
    obtain ⟨a, b, ha, hb, rfl⟩ := lap_s2 hs
    obtain ⟨i0, i1⟩ := lap_i1 ha hb
    obtain ⟨s0, s1⟩ := lap_s1 ha hb
    rw [i0, s0]
    exact ⟨rfl, i1⟩
  | false =>
    cases hi : g16_1 x with
    | true =>
      obtain ⟨a, b, ha, hb, rfl⟩ := lap_i2 hi
      rw [(lap_s1 ha hb).2] at hs
      cases hs
    | false => exact ⟨(lap_i3 hi).trans (lap_s3 hs).symm, rfl⟩

end Go.Proofs.YtakodkjcmacofaaDoor

/- The plain law of FnExactReadLap. -/
set_option linter.unusedVariables false
set_option linter.unusedSimpArgs false
set_option maxRecDepth 100000
namespace Go.Proofs.YtakodkjcmacofaaDoor
open Go Go.Am Go.Proofs

theorem law4 (x : ByteArray) (hw : Wf .str x) : P4 x ∧ g4_0 x = true := by
  unfold P4 g4_0
  by_cases h : (x.size : Int) > 1048576
  · simp only [h, decide_true, if_true, and_self]
  · obtain ⟨p1, p2, e0, e1⟩ := read_lap x (by omega)
    simp only [h, decide_false, Bool.false_eq_true, if_false, e0, e1, p1, p2, bne_self_eq_false, beq_self_eq_true, Bool.not_true, true_and, and_self]

end Go.Proofs.YtakodkjcmacofaaDoor
