/- Several texts in one: the functions that this law reaches, and their laws. -/
import Derived.Test.YtakodkjcmacofaaDoorZ12A
import Derived.Test.YtakodkjcmacofaaDoorZ12B
import Derived.Test.YtakodkjcmacofaaDoorRows
import Derived.KernelRfl
import Derived.Shelf.Vars
import Derived.Lib.TrimByte
import Derived.Lib.ItoaNum
import Derived.Shelf.Strings.Builder1
import Derived.Shelf.Strings.Builder2
import Derived.Shelf.Strings.OnBuilder
import Derived.Shelf.Strings.BuilderF
import Derived.Shelf.Strings.BuilderK
import Derived.Shelf.Utf8.RuneCount
import Derived.Shelf.Strconv.Itoa0
import Derived.Shelf.Strconv.Itoa1
import Derived.Shelf.LaysM
import Derived.Shelf.Strconv.Itoa2
import Derived.Shelf.Strconv.Itoa3
import Derived.Shelf.Strconv.Itoa4
import Derived.Shelf.Strings.Search1
import Derived.Shelf.Strings.Search2
import Derived.Shelf.Strings.Search3
import Derived.Shelf.Strings.Cut
import Derived.Shelf.Strings.Count
import Derived.Shelf.Strings.Shaped
import Derived.Shelf.Strings.Prefix
import Derived.Shelf.Strings.Split
import Derived.Shelf.Strings.SplitShaped
import Derived.Shelf.Unicode.Decode
import Derived.Shelf.Strings.RuneCount
import Derived.Shelf.Strings.Explode
import Derived.Shelf.Bits.Mul64
import Derived.Shelf.Strings.Repeat
import Derived.Shelf.Unicode.DecodeSlow
import Derived.Shelf.Unicode.DecodeAny

/- The types of this program, as the abstract machine reads them. -/
set_option linter.unusedVariables false
set_option linter.unusedSimpArgs false
set_option maxRecDepth 100000
namespace Go.Proofs.YtakodkjcmacofaaDoor
open Go Go.Am Go.Proofs
def tab : List TI := [TI.other,
  TI.other,
  TI.scal (Ty.int IntKind.i64),
  TI.scal (Ty.int IntKind.i64),
  TI.scal (Ty.bool),
  TI.scal (Ty.int IntKind.u8),
  TI.scal (Ty.int IntKind.u8),
  TI.struct (Ty.cons (Ty.int IntKind.i64) (Ty.cons (Ty.int IntKind.i64) (Ty.cons Ty.bool (Ty.cons (Ty.int IntKind.u8) Ty.unit)))),
  TI.struct (Ty.cons (Ty.int IntKind.i64) (Ty.cons (Ty.int IntKind.i64) (Ty.cons Ty.bool (Ty.cons (Ty.int IntKind.u8) Ty.unit)))),
  TI.scal (Ty.str),
  TI.scal (Ty.str),
  TI.scal (Ty.str),
  TI.scal (Ty.int IntKind.u64),
  TI.other,
  TI.other,
  TI.other,
  TI.other,
  TI.other,
  TI.other,
  TI.other,
  TI.other,
  TI.scal (Ty.int IntKind.i32),
  TI.other,
  TI.other,
  TI.other,
  TI.slice 73 (Ty.cons Ty.str (Ty.cons (Ty.int IntKind.i64) (Ty.cons (Ty.int IntKind.i64) (Ty.cons (Ty.int IntKind.i64) (Ty.cons (Ty.int IntKind.i64) Ty.unit))))) 48,
  TI.other,
  TI.slice 79 (Ty.cons Ty.str (Ty.cons Ty.str (Ty.cons Ty.str Ty.unit))) 48,
  TI.other,
  TI.other,
  TI.slice 75 (Ty.cons Ty.str (Ty.cons (Ty.int IntKind.i64) (Ty.cons (Ty.int IntKind.i64) (Ty.cons (Ty.int IntKind.i64) (Ty.cons (Ty.int IntKind.i64) Ty.unit))))) 48,
  TI.other,
  TI.other,
  TI.other,
  TI.other,
  TI.other,
  TI.other,
  TI.other,
  TI.other,
  TI.slice 89 (Ty.cons Ty.str (Ty.cons Ty.str (Ty.cons Ty.str Ty.unit))) 48,
  TI.other,
  TI.other,
  TI.other,
  TI.other,
  TI.other,
  TI.slice 5 (Ty.int IntKind.u8) 1,
  TI.other,
  TI.other,
  TI.other,
  TI.other,
  TI.other,
  TI.other,
  TI.other,
  TI.other,
  TI.other,
  TI.other,
  TI.other,
  TI.other,
  TI.other,
  TI.other,
  TI.slice 2 (Ty.int IntKind.i64) 8,
  TI.other,
  TI.other,
  TI.other,
  TI.other,
  TI.other,
  TI.other,
  TI.slice 9 (Ty.str) 16,
  TI.other,
  TI.other,
  TI.other,
  TI.other,
  TI.struct (Ty.cons Ty.str (Ty.cons (Ty.int IntKind.i64) (Ty.cons (Ty.int IntKind.i64) (Ty.cons (Ty.int IntKind.i64) (Ty.cons (Ty.int IntKind.i64) Ty.unit))))),
  TI.struct (Ty.cons Ty.str (Ty.cons (Ty.int IntKind.i64) (Ty.cons (Ty.int IntKind.i64) (Ty.cons (Ty.int IntKind.i64) (Ty.cons (Ty.int IntKind.i64) Ty.unit))))),
  TI.other,
  TI.struct (Ty.cons Ty.str (Ty.cons (Ty.int IntKind.i64) (Ty.cons (Ty.int IntKind.i64) (Ty.cons (Ty.int IntKind.i64) (Ty.cons (Ty.int IntKind.i64) Ty.unit))))),
  TI.other,
  TI.other,
  TI.struct (Ty.cons Ty.str (Ty.cons Ty.str (Ty.cons Ty.str Ty.unit))),
  TI.struct (Ty.cons Ty.str (Ty.cons Ty.str (Ty.cons Ty.str Ty.unit))),
  TI.other,
  TI.other,
  TI.other,
  TI.other,
  TI.other,
  TI.other,
  TI.other,
  TI.other,
  TI.other,
  TI.struct (Ty.cons Ty.str (Ty.cons Ty.str (Ty.cons Ty.str Ty.unit))),
  TI.other,
  TI.other,
  TI.other,
  TI.other,
  TI.other,
  TI.other,
  TI.other,
  TI.other,
  TI.other,
  TI.other,
  TI.other,
  TI.other,
  TI.other,
  TI.other,
  TI.other,
  TI.other,
  TI.other,
  TI.other,
  TI.other,
  TI.other,
  TI.other,
  TI.other,
  TI.other,
  TI.other,
  TI.other,
  TI.other,
  TI.other,
  TI.other,
  TI.other,
  TI.other,
  TI.other,
  TI.other,
  TI.other,
  TI.other,
  TI.other,
  TI.other,
  TI.other,
  TI.other,
  TI.other,
  TI.other,
  TI.other,
  TI.other,
  TI.other,
  TI.other,
  TI.scal (Ty.int IntKind.u64),
  TI.struct (Ty.cons (Ty.sl (Ty.int IntKind.u8)) (Ty.cons (Ty.int IntKind.i64) (Ty.cons (Ty.int IntKind.u64) Ty.unit))),
  TI.struct (Ty.cons (Ty.sl (Ty.int IntKind.u8)) (Ty.cons (Ty.int IntKind.i64) (Ty.cons (Ty.int IntKind.u64) Ty.unit))),
  TI.other,
  TI.other,
  TI.other,
  TI.other,
  TI.other,
  TI.other,
  TI.other,
  TI.other,
  TI.scal (Ty.int IntKind.u64),
  TI.other,
  TI.other,
  TI.other,
  TI.other,
  TI.other,
  TI.other,
  TI.other,
  TI.other,
  TI.other,
  TI.other,
  TI.slice 3 (Ty.int IntKind.i64) 8,
  TI.other,
  TI.other,
  TI.other,
  TI.other,
  TI.other,
  TI.scal (Ty.int IntKind.u32),
  TI.other,
  TI.other,
  TI.other,
  TI.other,
  TI.other,
  TI.other,
  TI.other,
  TI.other,
  TI.other,
  TI.other,
  TI.other,
  TI.other,
  TI.struct (Ty.cons (Ty.int IntKind.u8) (Ty.cons (Ty.int IntKind.u8) Ty.unit)),
  TI.struct (Ty.cons (Ty.int IntKind.u8) (Ty.cons (Ty.int IntKind.u8) Ty.unit)),
  TI.other,
  TI.other,
  TI.other,
  TI.other,
  TI.other,
  TI.other,
  TI.other,
  TI.other,
  TI.other,
  TI.scal (Ty.int IntKind.u8),
  TI.scal (Ty.int IntKind.u8),
  TI.other,
  TI.scal (Ty.int IntKind.i32),
  TI.scal (Ty.int IntKind.i32)]

theorem tabOk : TabOk Tryd.prog tab := tabOk_of_check (by kernel_rfl)
theorem mixed : Tryd.prog.follows .mixedOrders = true := by kernel_rfl
theorem gv0 {W : World} (h : GInv W) : GHas W 0 (.int .i64) := h.1
theorem gcell0 (W : World) (h : W.ShapedOpen Tryd.prog) : ∃ m, W.cell? ⟨0, 0, none⟩ = some (.int .i64 m) :=
  Go.Proofs.cell_of_shapedOpen_int (zero := #[.int .i64 0]) (t := 3) h (of_decide_eq_true (by kernel_rfl)) (by kernel_rfl) rfl (by kernel_rfl) (by kernel_rfl) Tryd.underlying3
theorem gv1 {W : World} (h : GInv W) : GHas W 1 (.tab .u64 Lib.pow10Tab) := h.2.1
theorem maxLenG {W : World} (h : GInv W) : ∃ m, W.cell? ⟨0, 0, none⟩ = some (.int .i64 m) := gv0 h
theorem pow10G {W : World} (h : GInv W) : Lib.TabIs Tryd.prog W "internal/strconv.uint64pow10" .u64 Lib.pow10Tab := GHas.tab (by kernel_rfl) (gv1 h)
theorem ginv (W : World) (h : W.ShapedOpen Tryd.prog) (h1 : GHas W 1 (.tab .u64 Lib.pow10Tab)) : GInv W := ⟨gcell0 W h, h1, trivial⟩
end Go.Proofs.YtakodkjcmacofaaDoor

/- Function 66 (spec.l01Split): its runs between cut points. Written by a program of this repo (gen). -/
set_option linter.unusedVariables false
set_option linter.unusedSimpArgs false
set_option maxRecDepth 100000
namespace Go.Proofs.YtakodkjcmacofaaDoor
open Go Go.Am Go.Proofs
def ext66 : Ext := []
theorem ext66Ok : ExtOk Tryd.prog ext66 := trivial
/-! Function 66. -/
noncomputable def b66 : Code := bodyOf Tryd.f66
theorem hb66 : Tryd.f66.body = some b66 := by kernel_rfl
def sig66 : List AT := [AT.v (Ty.str), AT.v (Ty.int IntKind.u8)]
def tys66 : List Ty := [Ty.sl Ty.str]
def E66_4 (v6 : Int) (v7 : Int) (h0 : List ByteArray) (x0 : ByteArray) (x1 : Int) : Env := [(0, PV.a (Atom.val (Value.string x0))), (1, PV.a (Atom.val (Value.int IntKind.u8 x1))), (5, PV.a (Atom.osl 0 Option.none)), (6, PV.a (Atom.val (Value.int IntKind.i64 v6))), (7, PV.a (Atom.val (Value.int IntKind.i64 v7)))]
def L66_4 (v6 : Int) (v7 : Int) (h0 : List ByteArray) (x0 : ByteArray) (x1 : Int) : Heap := [Option.some (Arr.mk Ty.str h0 Bool.false)]
mutual
def R66 : Nat → ByteArray → Int → List Dyn → Prop
  | 0, _, _, _ => False
  | n + 1, x0, x1, ds => (R66_4 n (0) (0) ([]) (x0) (x1) ds)
def R66_4 : Nat → Int → Int → List ByteArray → ByteArray → Int → List Dyn → Prop
  | 0, _, _, _, _, _, _ => False
  | n + 1, v6, v7, h0, x0, x1, ds => (if (Decidable.decide (v7 < (↑(ByteArray.size x0) : Int))) = true then ((0 ≤ v7) ∧ (v7 < (↑(ByteArray.size x0) : Int)) ∧ (if ((↑(UInt8.toNat (List.getD (Array.toList (ByteArray.data x0)) (Int.toNat v7) 0)) : Int) == x1) = true then ((0 ≤ v6) ∧ (v6 ≤ v7) ∧ (v7 ≤ (↑(ByteArray.size x0) : Int)) ∧ (((List.length h0 + 1) * 16 ≤ 140737488355328) ∧ ((InR IntKind.i64 (v7 + 1)) ∧ ((InR IntKind.i64 (v7 + 1)) ∧ (R66_4 n (v7 + 1) (v7 + 1) (h0 ++ [ByteArray.extract x0 (Int.toNat v6) (Int.toNat v7)]) (x0) (x1) ds))))) else ((InR IntKind.i64 (v7 + 1)) ∧ (R66_4 n (v6) (v7 + 1) (h0) (x0) (x1) ds)))) else ((0 ≤ v6) ∧ (v6 ≤ (↑(ByteArray.size x0) : Int)) ∧ (((List.length h0 + 1) * 16 ≤ 140737488355328) ∧ (ds = [Dyn.mk (Ty.sl Ty.str) (h0 ++ [ByteArray.extract x0 (Int.toNat v6) (Int.toNat (↑(ByteArray.size x0) : Int))])]))))
end
theorem p66_0 (x0 : ByteArray) (x1 : Int) : Am.runN tab ext66 false 35 [] 2000 [] [] [0, 1, 5, 6, 7] [0] [] [.code b66] (entE 0 0 sig66 (x0, x1, ())) (entL sig66 (x0, x1, ())) = some (cutAt b66 4, E66_4 (0) (0) ([]) (x0) (x1), L66_4 (0) (0) ([]) (x0) (x1), []) := by kernel_rfl
theorem p66_1 (v6 : Int) (v7 : Int) (h0 : List ByteArray) (x0 : ByteArray) (x1 : Int) : Am.runN tab ext66 false 35 [] 2000 [] [] [0, 1, 5, 6, 7] [0] [true, true] (cutAt b66 4) (E66_4 v6 v7 h0 x0 x1) (L66_4 v6 v7 h0 x0 x1) = some (cutAt b66 4, E66_4 (v7 + 1) (v7 + 1) (h0 ++ [ByteArray.extract x0 (Int.toNat v6) (Int.toNat v7)]) (x0) (x1), L66_4 (v7 + 1) (v7 + 1) (h0 ++ [ByteArray.extract x0 (Int.toNat v6) (Int.toNat v7)]) (x0) (x1), [Decidable.decide (v7 < (↑(ByteArray.size x0) : Int)) = Bool.true, 0 ≤ v7, v7 < (↑(ByteArray.size x0) : Int), ((↑(UInt8.toNat (List.getD (Array.toList (ByteArray.data x0)) (Int.toNat v7) 0)) : Int) == x1) = Bool.true, 0 ≤ v6, v6 ≤ v7, v7 ≤ (↑(ByteArray.size x0) : Int), (List.length h0 + 1) * 16 ≤ 140737488355328, InR IntKind.i64 (v7 + 1), InR IntKind.i64 (v7 + 1)]) := by kernel_rfl
theorem p66_2 (v6 : Int) (v7 : Int) (h0 : List ByteArray) (x0 : ByteArray) (x1 : Int) : Am.runN tab ext66 false 35 [] 2000 [] [] [0, 1, 5, 6, 7] [0] [true, false] (cutAt b66 4) (E66_4 v6 v7 h0 x0 x1) (L66_4 v6 v7 h0 x0 x1) = some (cutAt b66 4, E66_4 (v6) (v7 + 1) (h0) (x0) (x1), L66_4 (v6) (v7 + 1) (h0) (x0) (x1), [Decidable.decide (v7 < (↑(ByteArray.size x0) : Int)) = Bool.true, 0 ≤ v7, v7 < (↑(ByteArray.size x0) : Int), ((↑(UInt8.toNat (List.getD (Array.toList (ByteArray.data x0)) (Int.toNat v7) 0)) : Int) == x1) = Bool.false, InR IntKind.i64 (v7 + 1)]) := by kernel_rfl
theorem p66_3 (v6 : Int) (v7 : Int) (h0 : List ByteArray) (x0 : ByteArray) (x1 : Int) : runF tab ext66 false 35 [] 2000 [] tys66 Tryd.f66.results [false] (cutAt b66 4) (E66_4 v6 v7 h0 x0 x1) (L66_4 v6 v7 h0 x0 x1) = some ([Dyn.mk (Ty.sl Ty.str) (h0 ++ [ByteArray.extract x0 (Int.toNat v6) (Int.toNat (↑(ByteArray.size x0) : Int))])], [], [Decidable.decide (v7 < (↑(ByteArray.size x0) : Int)) = Bool.false, 0 ≤ v6, v6 ≤ (↑(ByteArray.size x0) : Int), (List.length h0 + 1) * 16 ≤ 140737488355328]) := by kernel_rfl
theorem snd66 : ∀ n, (∀ (x0 : ByteArray) (x1 : Int) ds, R66 n x0 x1 ds → ∀ w0 O q, AtV Tryd.prog 66 (PostR ds [] [] q w0 O) 35 w0 O q [] [.code b66] (entE 0 0 sig66 (x0, x1, ())) (entL sig66 (x0, x1, ()))) ∧ (∀ (v6 : Int) (v7 : Int) (h0 : List ByteArray) (x0 : ByteArray) (x1 : Int) ds, R66_4 n v6 v7 h0 x0 x1 ds → ∀ w0 O q, AtV Tryd.prog 66 (PostR ds [] [] q w0 O) 35 w0 O q [] (cutAt b66 4) (E66_4 v6 v7 h0 x0 x1) (L66_4 v6 v7 h0 x0 x1)) := by
  intro n
  induction n with
  | zero => exact ⟨fun _ _ _ h => by simp only [R66] at h, fun _ _ _ _ _ _ h => by simp only [R66_4] at h⟩
  | succ n ih =>
  obtain ⟨ih, ih4⟩ := ih
  refine ⟨?_, ?_⟩
  · intro x0 x1 ds h w0 O q
    rw [R66] at h
    exact AtV.runN tabOk ext66Ok mixed (p66_0 x0 x1) trivial (ih4 _ _ _ _ _ _ h w0 O q)

  · intro v6 v7 h0 x0 x1 ds h w0 O q
    rw [R66_4] at h
    by_cases b0 : (Decidable.decide (v7 < (↑(ByteArray.size x0) : Int))) = true
    · rw [if_pos b0] at h
      obtain ⟨s0, s1, h⟩ := h
      by_cases b1 : ((↑(UInt8.toNat (List.getD (Array.toList (ByteArray.data x0)) (Int.toNat v7) 0)) : Int) == x1) = true
      · rw [if_pos b1] at h
        obtain ⟨s2, s3, s4, h⟩ := h
        obtain ⟨s5, h⟩ := h
        obtain ⟨s6, h⟩ := h
        obtain ⟨s7, h⟩ := h
        exact AtV.runN tabOk ext66Ok mixed (p66_1 v6 v7 h0 x0 x1) ⟨b0, s0, s1, b1, s2, s3, s4, s5, s6, s7, trivial⟩ (ih4 _ _ _ _ _ _ h w0 O q)
      · rw [if_neg b1] at h
        replace b1 := Bool.eq_false_iff.2 b1
        obtain ⟨s2, h⟩ := h
        exact AtV.runN tabOk ext66Ok mixed (p66_2 v6 v7 h0 x0 x1) ⟨b0, s0, s1, b1, s2, trivial⟩ (ih4 _ _ _ _ _ _ h w0 O q)
    · rw [if_neg b0] at h
      replace b0 := Bool.eq_false_iff.2 b0
      obtain ⟨s0, s1, h⟩ := h
      obtain ⟨s2, h⟩ := h
      subst h
      exact AtV.fin Tryd.func66 tabOk ext66Ok mixed (p66_3 v6 v7 h0 x0 x1) ⟨b0, s0, s1, s2, trivial⟩



def c66 (x1 : Int) : UInt8 := UInt8.ofNat x1.toNat
def g66_0 (x0 : ByteArray) (x1 : Int) : List ByteArray := bss (splitC (c66 x1) x0.data.toList)
def P66 (x0 : ByteArray) (x1 : Int) : Prop := x0.size < 4294967281 ∧ 0 ≤ x1 ∧ x1 ≤ 255

theorem run66 (x0 : ByteArray) (x1 : Int) (hs : x0.size < 4294967281) (h0 : 0 ≤ x1) (h1 : x1 ≤ 255) : ∀ (k i frm : Nat) (h : List ByteArray), i + k = x0.size → frm ≤ i → c66 x1 ∉ (x0.data.toList.drop frm).take (i - frm) → h.length ≤ i →
    R66_4 (k + 1) (frm : Int) (i : Int) h x0 x1 [⟨.sl .str, h ++ bss (splitC (c66 x1) (x0.data.toList.drop frm))⟩] := by
  intro k
  have hll : x0.data.toList.length = x0.size := rfl
  induction k with
  | zero =>
    intro i frm h hi hf hc hl
    rw [R66_4, if_neg (by simp; omega)]
    refine ⟨by omega, by omega, by omega, ?_⟩
    have e : (x0.data.toList.drop frm).take (i - frm) = x0.data.toList.drop frm := List.take_of_length_le (by rw [List.length_drop]; omega)
    rw [e] at hc
    rw [splitC_free _ hc, Int.toNat_natCast, Int.toNat_natCast, Lib.extract_from]
    rfl
  | succ k ih =>
    intro i frm h hi hf hc hl
    have hup : InR .i64 ((i : Int) + 1) := by rw [i64_iff]; omega
    have hlt : i < x0.data.toList.length := by rw [hll]; omega
    have hcons : x0.data.toList.drop i = x0.data.toList.getD i 0 :: x0.data.toList.drop (i + 1) := drop_get _ i 0 hlt
    have hsplit : x0.data.toList.drop frm = (x0.data.toList.drop frm).take (i - frm) ++ x0.data.toList.drop i := by
      conv => lhs; rw [← List.take_append_drop (i - frm) (x0.data.toList.drop frm)]
      rw [List.drop_drop, show frm + (i - frm) = i by omega]
    rw [R66_4, if_pos (by simp; omega)]
    simp only [Int.toNat_natCast]
    refine ⟨by omega, by omega, ?_⟩
    have hb : (((x0.data.toList.getD i 0).toNat : Int) == x1) = true ↔ x0.data.toList.getD i 0 = c66 x1 := by
      have hlt' := (x0.data.toList.getD i 0).toNat_lt
      rw [beq_iff_eq, ← UInt8.toNat_inj]
      unfold c66
      have : (UInt8.ofNat x1.toNat).toNat = x1.toNat := by rw [UInt8.toNat_ofNat']; omega
      rw [this]
      omega
    by_cases he : x0.data.toList.getD i 0 = c66 x1
    · rw [if_pos (hb.2 he)]
      refine ⟨by omega, by omega, by omega, by omega, hup, hup, ?_⟩
      have := ih (i + 1) (i + 1) (h ++ [x0.extract frm i]) (by omega) (Nat.le_refl _) (by simp) (by simp; omega)
      have e2 : x0.extract frm i = ⟨((x0.data.toList.drop frm).take (i - frm)).toArray⟩ := Lib.extract_mk x0.data.toList frm i
      have e3 : splitC (c66 x1) (x0.data.toList.drop frm) = (x0.data.toList.drop frm).take (i - frm) :: splitC (c66 x1) (x0.data.toList.drop (i + 1)) := by
        conv => lhs; rw [hsplit, hcons, he]
        exact splitC_hit _ _ hc
      rw [e3, e2]
      rw [List.append_assoc, e2] at this
      exact this
    · rw [if_neg (fun hh => he (hb.1 hh))]
      refine ⟨hup, ?_⟩
      refine ih (i + 1) frm h (by omega) (by omega) (fun hm => ?_) (by omega)
      have e4 : (x0.data.toList.drop frm).take (i + 1 - frm) = (x0.data.toList.drop frm).take (i - frm) ++ [x0.data.toList.getD i 0] := by
        conv => lhs; rw [hsplit, hcons]
        rw [List.take_append, List.take_of_length_le (by rw [List.length_take, List.length_drop]; omega)]
        have : i + 1 - frm - ((x0.data.toList.drop frm).take (i - frm)).length = 1 := by rw [List.length_take, List.length_drop]; omega
        rw [this]
        rfl
      rw [e4] at hm
      rcases List.mem_append.1 hm with hm | hm
      · exact hc hm
      · exact he (List.mem_singleton.1 hm).symm

theorem top66 (x0 : ByteArray) (x1 : Int) (h : P66 x0 x1) : R66 (x0.size + 1 + 1) x0 x1 [⟨.sl .str, g66_0 x0 x1⟩] := by
  rw [R66]
  have := run66 x0 x1 h.1 h.2.1 h.2.2 x0.size 0 0 [] (by omega) (Nat.le_refl _) (by simp) (by simp)
  simpa [g66_0] using this

def S66 : Am.Spec := { sig := sig66, pre := fun ⟨x0, x1, _⟩ => P66 x0 x1, res := fun ⟨x0, x1, _⟩ => [⟨.sl .str, g66_0 x0 x1⟩] }
theorem con66 : Contract Tryd.prog 66 S66 := contract_of Tryd.func66 hb66 (Nat.le_of_ble_eq_true (by kernel_rfl)) (fun ⟨x0, x1, _⟩ h hwf w0 O q =>
  (snd66 _).1 x0 x1 _ (top66 x0 x1 h) w0 O q)

end Go.Proofs.YtakodkjcmacofaaDoor

/- Function 118 (spec.l29Lines): its runs between cut points. Written by a program of this repo (gen). -/
set_option linter.unusedVariables false
set_option linter.unusedSimpArgs false
set_option maxRecDepth 100000
namespace Go.Proofs.YtakodkjcmacofaaDoor
open Go Go.Am Go.Proofs
def ext118 : Ext := [(66, S66)]
theorem call118_66 : Callable Tryd.prog 66 := ⟨Tryd.f66, Tryd.func66, by kernel_rfl, by kernel_rfl⟩
theorem ext118Ok : ExtOk Tryd.prog ext118 := ⟨⟨call118_66, con66⟩, trivial⟩
/-! Function 118. -/
noncomputable def b118 : Code := bodyOf Tryd.f118
theorem hb118 : Tryd.f118.body = some b118 := by kernel_rfl
def sig118 : List AT := [AT.v (Ty.str)]
def tys118 : List Ty := [Ty.sl Ty.str, Ty.bool]
def P118 (x0 : ByteArray) : Prop := ((P66 x0 10) ∧ ((InR IntKind.i64 ((↑(List.length (g66_0 x0 10)) : Int) - 1)) ∧ ((0 ≤ (↑(List.length (g66_0 x0 10)) : Int) - 1) ∧ ((↑(List.length (g66_0 x0 10)) : Int) - 1 ≤ (↑(List.length (g66_0 x0 10) - 0) : Int)) ∧ ((0 ≤ (↑(List.length (g66_0 x0 10)) : Int) - 1) ∧ ((↑(List.length (g66_0 x0 10)) : Int) - 1 < (↑(List.length (g66_0 x0 10)) : Int)) ∧ True))))
def g118_0 (x0 : ByteArray) : List ByteArray := List.drop 0 (List.take (0 + Int.toNat ((↑(List.length (g66_0 x0 10)) : Int) - 1)) (g66_0 x0 10))
def g118_1 (x0 : ByteArray) : Bool := ByteArray.toList (List.getD (g66_0 x0 10) (Int.toNat ((↑(List.length (g66_0 x0 10)) : Int) - 1)) ByteArray.empty) == ByteArray.toList (ByteArray.mk #[])
theorem p118_0 (x0 : ByteArray) : runF tab ext118 false 19 [] 2000 [] tys118 Tryd.f118.results [] [.code b118] (entE 0 0 sig118 (x0, ())) (entL sig118 (x0, ())) = some ([Dyn.mk (Ty.sl Ty.str) (List.drop 0 (List.take (0 + Int.toNat ((↑(List.length (g66_0 x0 10)) : Int) - 1)) (g66_0 x0 10))), Dyn.mk Ty.bool (ByteArray.toList (List.getD (g66_0 x0 10) (Int.toNat ((↑(List.length (g66_0 x0 10)) : Int) - 1)) ByteArray.empty) == ByteArray.toList (ByteArray.mk #[]))], [], [P66 x0 10, InR IntKind.i64 ((↑(List.length (g66_0 x0 10)) : Int) - 1), 0 ≤ (↑(List.length (g66_0 x0 10)) : Int) - 1, (↑(List.length (g66_0 x0 10)) : Int) - 1 ≤ (↑(List.length (g66_0 x0 10) - 0) : Int), 0 ≤ (↑(List.length (g66_0 x0 10)) : Int) - 1, (↑(List.length (g66_0 x0 10)) : Int) - 1 < (↑(List.length (g66_0 x0 10)) : Int)]) := by kernel_rfl
theorem at118 (x0 : ByteArray) (h : P118 x0) (w0 : World) (O : List Nat) (q : Nat → Value) : AtV Tryd.prog 118 (PostR [⟨Ty.sl Ty.str, g118_0 x0⟩, ⟨Ty.bool, g118_1 x0⟩] [] [] q w0 O) 19 w0 O q [] [.code b118] (entE 0 0 sig118 (x0, ())) (entL sig118 (x0, ())) := by
  unfold P118 at h
  unfold g118_0 g118_1
  obtain ⟨s0, h⟩ := h
  obtain ⟨s1, h⟩ := h
  obtain ⟨s2, s3, h⟩ := h
  obtain ⟨s4, s5, h⟩ := h
  exact AtV.fin Tryd.func118 tabOk ext118Ok mixed (p118_0 x0) ⟨s0, s1, s2, s3, s4, s5, trivial⟩

def S118 : Am.Spec := { sig := sig118, pre := fun ⟨x0, _⟩ => P118 x0, res := fun ⟨x0, _⟩ => [⟨Ty.sl Ty.str, g118_0 x0⟩, ⟨Ty.bool, g118_1 x0⟩] }
theorem con118 : Contract Tryd.prog 118 S118 := contract_of Tryd.func118 hb118 (Nat.le_of_ble_eq_true (by kernel_rfl)) (fun ⟨x0, _⟩ h _ w0 O q => at118 x0 h w0 O q)


end Go.Proofs.YtakodkjcmacofaaDoor

/- Function 146 (spec.l01Crc): its runs between cut points. Written by a program of this repo (gen). -/
set_option linter.unusedVariables false
set_option linter.unusedSimpArgs false
set_option maxRecDepth 100000
namespace Go.Proofs.YtakodkjcmacofaaDoor
open Go Go.Am Go.Proofs
def ext146 : Ext := []
theorem ext146Ok : ExtOk Tryd.prog ext146 := trivial
/-! Function 146. -/
noncomputable def b146 : Code := bodyOf Tryd.f146
theorem hb146 : Tryd.f146.body = some b146 := by kernel_rfl
def sig146 : List AT := [AT.v (Ty.str), AT.v (Ty.int IntKind.i64)]
def tys146 : List Ty := [Ty.int IntKind.i64]
def E146_2 (v5 : Int) (x0 : ByteArray) (x1 : Int) : Env := [(0, PV.a (Atom.val (Value.string x0))), (1, PV.a (Atom.val (Value.int IntKind.i64 x1))), (5, PV.a (Atom.val (Value.int IntKind.i64 v5)))]
def L146_2 (v5 : Int) (x0 : ByteArray) (x1 : Int) : Heap := []
def E146_6 (v1 : Int) (v6 : Int) (x0 : ByteArray) (v5 : Int) : Env := [(0, PV.a (Atom.val (Value.string x0))), (1, PV.a (Atom.val (Value.int IntKind.i64 v1))), (5, PV.a (Atom.val (Value.int IntKind.i64 v5))), (6, PV.a (Atom.val (Value.int IntKind.i64 v6)))]
def L146_6 (v1 : Int) (v6 : Int) (x0 : ByteArray) (v5 : Int) : Heap := []
mutual
def R146 : Nat → ByteArray → Int → List Dyn → Prop
  | 0, _, _, _ => False
  | n + 1, x0, x1, ds => (R146_2 n (0) (x0) (x1) ds)
def R146_2 : Nat → Int → ByteArray → Int → List Dyn → Prop
  | 0, _, _, _, _ => False
  | n + 1, v5, x0, x1, ds => (if (Decidable.decide (v5 < (↑(ByteArray.size x0) : Int))) = true then ((0 ≤ v5) ∧ (v5 < (↑(ByteArray.size x0) : Int)) ∧ ((InR IntKind.i64 (↑(UInt8.toNat (List.getD (Array.toList (ByteArray.data x0)) (Int.toNat v5) 0)) : Int)) ∧ (R146_6 n (IntKind.wrap IntKind.i64 (↑(BitVec.toNat (BitVec.ofInt 64 x1 ^^^ BitVec.ofInt 64 (IntKind.wrap IntKind.i64 ((↑(UInt8.toNat (List.getD (Array.toList (ByteArray.data x0)) (Int.toNat v5) 0)) : Int) * 256)))) : Int)) (0) (x0) (v5) ds))) else (ds = [Dyn.mk (Ty.int IntKind.i64) x1]))
def R146_6 : Nat → Int → Int → ByteArray → Int → List Dyn → Prop
  | 0, _, _, _, _, _ => False
  | n + 1, v1, v6, x0, v5, ds => (if (Decidable.decide (v6 < 8)) = true then (if (Decidable.decide (IntKind.wrap IntKind.i64 (v1 * 2) > 65535)) = true then ((InR IntKind.i64 (v6 + 1)) ∧ (R146_6 n (IntKind.wrap IntKind.i64 (↑(BitVec.toNat (BitVec.ofInt 64 (IntKind.wrap IntKind.i64 (↑(BitVec.toNat (BitVec.ofInt 64 (IntKind.wrap IntKind.i64 (v1 * 2)) &&& BitVec.ofInt 64 65535)) : Int)) ^^^ BitVec.ofInt 64 4129)) : Int)) (v6 + 1) (x0) (v5) ds)) else ((InR IntKind.i64 (v6 + 1)) ∧ (R146_6 n (IntKind.wrap IntKind.i64 (v1 * 2)) (v6 + 1) (x0) (v5) ds))) else ((InR IntKind.i64 (v5 + 1)) ∧ (R146_2 n (v5 + 1) (x0) (v1) ds)))
end
theorem p146_0 (x0 : ByteArray) (x1 : Int) : Am.runN tab ext146 false 32 [] 2000 [] [] [0, 1, 5] [] [] [.code b146] (entE 0 0 sig146 (x0, x1, ())) (entL sig146 (x0, x1, ())) = some (cutAt b146 2, E146_2 (0) (x0) (x1), L146_2 (0) (x0) (x1), []) := by kernel_rfl
theorem p146_1 (v5 : Int) (x0 : ByteArray) (x1 : Int) : Am.runN tab ext146 false 32 [] 2000 [] [] [0, 1, 5, 6] [] [true] (cutAt b146 2) (E146_2 v5 x0 x1) (L146_2 v5 x0 x1) = some (cutAt b146 6, E146_6 (IntKind.wrap IntKind.i64 (↑(BitVec.toNat (BitVec.ofInt 64 x1 ^^^ BitVec.ofInt 64 (IntKind.wrap IntKind.i64 ((↑(UInt8.toNat (List.getD (Array.toList (ByteArray.data x0)) (Int.toNat v5) 0)) : Int) * 256)))) : Int)) (0) (x0) (v5), L146_6 (IntKind.wrap IntKind.i64 (↑(BitVec.toNat (BitVec.ofInt 64 x1 ^^^ BitVec.ofInt 64 (IntKind.wrap IntKind.i64 ((↑(UInt8.toNat (List.getD (Array.toList (ByteArray.data x0)) (Int.toNat v5) 0)) : Int) * 256)))) : Int)) (0) (x0) (v5), [Decidable.decide (v5 < (↑(ByteArray.size x0) : Int)) = Bool.true, 0 ≤ v5, v5 < (↑(ByteArray.size x0) : Int), InR IntKind.i64 (↑(UInt8.toNat (List.getD (Array.toList (ByteArray.data x0)) (Int.toNat v5) 0)) : Int), (0 : Int) ≤ (8 : Int)]) := by kernel_rfl
theorem p146_2 (v5 : Int) (x0 : ByteArray) (x1 : Int) : runF tab ext146 false 32 [] 2000 [] tys146 Tryd.f146.results [false] (cutAt b146 2) (E146_2 v5 x0 x1) (L146_2 v5 x0 x1) = some ([Dyn.mk (Ty.int IntKind.i64) x1], [], [Decidable.decide (v5 < (↑(ByteArray.size x0) : Int)) = Bool.false]) := by kernel_rfl
theorem p146_3 (v1 : Int) (v6 : Int) (x0 : ByteArray) (v5 : Int) : Am.runN tab ext146 false 32 [] 2000 [] [] [0, 1, 5, 6] [] [true, true] (cutAt b146 6) (E146_6 v1 v6 x0 v5) (L146_6 v1 v6 x0 v5) = some (cutAt b146 6, E146_6 (IntKind.wrap IntKind.i64 (↑(BitVec.toNat (BitVec.ofInt 64 (IntKind.wrap IntKind.i64 (↑(BitVec.toNat (BitVec.ofInt 64 (IntKind.wrap IntKind.i64 (v1 * 2)) &&& BitVec.ofInt 64 65535)) : Int)) ^^^ BitVec.ofInt 64 4129)) : Int)) (v6 + 1) (x0) (v5), L146_6 (IntKind.wrap IntKind.i64 (↑(BitVec.toNat (BitVec.ofInt 64 (IntKind.wrap IntKind.i64 (↑(BitVec.toNat (BitVec.ofInt 64 (IntKind.wrap IntKind.i64 (v1 * 2)) &&& BitVec.ofInt 64 65535)) : Int)) ^^^ BitVec.ofInt 64 4129)) : Int)) (v6 + 1) (x0) (v5), [Decidable.decide (v6 < 8) = Bool.true, (0 : Int) ≤ (1 : Int), Decidable.decide (IntKind.wrap IntKind.i64 (v1 * 2) > 65535) = Bool.true, InR IntKind.i64 (v6 + 1)]) := by kernel_rfl
theorem p146_4 (v1 : Int) (v6 : Int) (x0 : ByteArray) (v5 : Int) : Am.runN tab ext146 false 32 [] 2000 [] [] [0, 1, 5, 6] [] [true, false] (cutAt b146 6) (E146_6 v1 v6 x0 v5) (L146_6 v1 v6 x0 v5) = some (cutAt b146 6, E146_6 (IntKind.wrap IntKind.i64 (v1 * 2)) (v6 + 1) (x0) (v5), L146_6 (IntKind.wrap IntKind.i64 (v1 * 2)) (v6 + 1) (x0) (v5), [Decidable.decide (v6 < 8) = Bool.true, (0 : Int) ≤ (1 : Int), Decidable.decide (IntKind.wrap IntKind.i64 (v1 * 2) > 65535) = Bool.false, InR IntKind.i64 (v6 + 1)]) := by kernel_rfl
theorem p146_5 (v1 : Int) (v6 : Int) (x0 : ByteArray) (v5 : Int) : Am.runN tab ext146 false 32 [] 2000 [] [] [0, 1, 5] [] [false] (cutAt b146 6) (E146_6 v1 v6 x0 v5) (L146_6 v1 v6 x0 v5) = some (cutAt b146 2, E146_2 (v5 + 1) (x0) (v1), L146_2 (v5 + 1) (x0) (v1), [Decidable.decide (v6 < 8) = Bool.false, InR IntKind.i64 (v5 + 1)]) := by kernel_rfl
theorem snd146 : ∀ n, (∀ (x0 : ByteArray) (x1 : Int) ds, R146 n x0 x1 ds → ∀ w0 O q, AtV Tryd.prog 146 (PostR ds [] [] q w0 O) 32 w0 O q [] [.code b146] (entE 0 0 sig146 (x0, x1, ())) (entL sig146 (x0, x1, ()))) ∧ (∀ (v5 : Int) (x0 : ByteArray) (x1 : Int) ds, R146_2 n v5 x0 x1 ds → ∀ w0 O q, AtV Tryd.prog 146 (PostR ds [] [] q w0 O) 32 w0 O q [] (cutAt b146 2) (E146_2 v5 x0 x1) (L146_2 v5 x0 x1)) ∧ (∀ (v1 : Int) (v6 : Int) (x0 : ByteArray) (v5 : Int) ds, R146_6 n v1 v6 x0 v5 ds → ∀ w0 O q, AtV Tryd.prog 146 (PostR ds [] [] q w0 O) 32 w0 O q [] (cutAt b146 6) (E146_6 v1 v6 x0 v5) (L146_6 v1 v6 x0 v5)) := by
  intro n
  induction n with
  | zero => exact ⟨fun _ _ _ h => by simp only [R146] at h, fun _ _ _ _ h => by simp only [R146_2] at h, fun _ _ _ _ _ h => by simp only [R146_6] at h⟩
  | succ n ih =>
  obtain ⟨ih, ih2, ih6⟩ := ih
  refine ⟨?_, ?_, ?_⟩
  · intro x0 x1 ds h w0 O q
    rw [R146] at h
    exact AtV.runN tabOk ext146Ok mixed (p146_0 x0 x1) trivial (ih2 _ _ _ _ h w0 O q)

  · intro v5 x0 x1 ds h w0 O q
    rw [R146_2] at h
    by_cases b0 : (Decidable.decide (v5 < (↑(ByteArray.size x0) : Int))) = true
    · rw [if_pos b0] at h
      obtain ⟨s0, s1, h⟩ := h
      obtain ⟨s2, h⟩ := h
      exact AtV.runN tabOk ext146Ok mixed (p146_1 v5 x0 x1) ⟨b0, s0, s1, s2, (by decide), trivial⟩ (ih6 _ _ _ _ _ h w0 O q)
    · rw [if_neg b0] at h
      replace b0 := Bool.eq_false_iff.2 b0
      subst h
      exact AtV.fin Tryd.func146 tabOk ext146Ok mixed (p146_2 v5 x0 x1) ⟨b0, trivial⟩

  · intro v1 v6 x0 v5 ds h w0 O q
    rw [R146_6] at h
    by_cases b0 : (Decidable.decide (v6 < 8)) = true
    · rw [if_pos b0] at h
      by_cases b1 : (Decidable.decide (IntKind.wrap IntKind.i64 (v1 * 2) > 65535)) = true
      · rw [if_pos b1] at h
        obtain ⟨s0, h⟩ := h
        exact AtV.runN tabOk ext146Ok mixed (p146_3 v1 v6 x0 v5) ⟨b0, (by decide), b1, s0, trivial⟩ (ih6 _ _ _ _ _ h w0 O q)
      · rw [if_neg b1] at h
        replace b1 := Bool.eq_false_iff.2 b1
        obtain ⟨s0, h⟩ := h
        exact AtV.runN tabOk ext146Ok mixed (p146_4 v1 v6 x0 v5) ⟨b0, (by decide), b1, s0, trivial⟩ (ih6 _ _ _ _ _ h w0 O q)
    · rw [if_neg b0] at h
      replace b0 := Bool.eq_false_iff.2 b0
      obtain ⟨s0, h⟩ := h
      exact AtV.runN tabOk ext146Ok mixed (p146_5 v1 v6 x0 v5) ⟨b0, s0, trivial⟩ (ih2 _ _ _ _ h w0 O q)



def bit146 (s : Int) : Int := if (Decidable.decide (IntKind.wrap IntKind.i64 (s * 2) > 65535)) = true then (IntKind.wrap IntKind.i64 (↑(BitVec.toNat (BitVec.ofInt 64 (IntKind.wrap IntKind.i64 (↑(BitVec.toNat (BitVec.ofInt 64 (IntKind.wrap IntKind.i64 (s * 2)) &&& BitVec.ofInt 64 65535)) : Int)) ^^^ BitVec.ofInt 64 4129)) : Int)) else (IntKind.wrap IntKind.i64 (s * 2))
def bits146 : Nat → Int → Int
  | 0, s => s
  | k + 1, s => bits146 k (bit146 s)
def byte146 (s c : Int) : Int := bits146 8 (IntKind.wrap IntKind.i64 (↑(BitVec.toNat (BitVec.ofInt 64 s ^^^ BitVec.ofInt 64 (IntKind.wrap IntKind.i64 (c * 256)))) : Int))
def g146_0 (x0 : ByteArray) (x1 : Int) : Int := (bytesOf x0).foldl byte146 x1
def P146 (x0 : ByteArray) (x1 : Int) : Prop := True

theorem inner146 (x0 : ByteArray) (hm : (bytesOf x0).length ≤ maxLen) (i n : Nat) (hi : i < (bytesOf x0).length) (ds : List Dyn) : ∀ (k j : Nat) (s : Int), j + k = 8 → R146_2 n ((i : Int) + 1) x0 (bits146 k s) ds → R146_6 (n + 1 + k) s (j : Int) x0 (i : Int) ds := by
  intro k
  induction k with
  | zero =>
    intro j s hj hr
    rw [R146_6, if_neg (by simp; omega)]
    exact ⟨inR_up hm hi, hr⟩
  | succ k ih =>
    intro j s hj hr
    have e2 : (j : Int) + 1 = ((j + 1 : Nat) : Int) := by omega
    rw [show n + 1 + (k + 1) = (n + 1 + k) + 1 by omega, R146_6, if_pos (by simp; omega)]
    unfold bits146 bit146 at hr
    by_cases hc : (Decidable.decide (IntKind.wrap IntKind.i64 (s * 2) > 65535)) = true
    · rw [if_pos hc] at hr ⊢
      rw [e2]
      exact ⟨by rw [i64_iff]; omega, ih (j + 1) _ (by omega) hr⟩
    · rw [if_neg hc] at hr ⊢
      rw [e2]
      exact ⟨by rw [i64_iff]; omega, ih (j + 1) _ (by omega) hr⟩

theorem run146 (x0 : ByteArray) (hm : x0.size ≤ maxLen) : ∀ (k i : Nat) (s : Int), i + k = x0.size → ∃ n, R146_2 n (i : Int) x0 s [⟨.int .i64, ((bytesOf x0).drop i).foldl byte146 s⟩] := by
  intro k
  have hl := bytesOf_length x0
  induction k with
  | zero =>
    intro i s hi
    refine ⟨1, ?_⟩
    rw [R146_2, if_neg (by simp; omega), List.drop_of_length_le (by omega)]
    rfl
  | succ k ih =>
    intro i s hi
    have hlt : i < (bytesOf x0).length := by omega
    have hcons := drop_get (bytesOf x0) i 0 hlt
    obtain ⟨n, hn⟩ := ih (i + 1) (byte146 s ((bytesOf x0).getD i 0)) (by omega)
    refine ⟨n + 1 + 8 + 1, ?_⟩
    have hb := bytesOf_range x0 _ (mem_getD (bytesOf x0) i 0 hlt)
    rw [R146_2, if_pos (by simp; omega)]
    simp only [Int.toNat_natCast, byte_get]
    rw [hcons, List.foldl_cons]
    exact ⟨by omega, by omega, by rw [i64_iff]; omega, inner146 x0 (by rw [hl]; exact hm) i n hlt _ 8 0 _ (by omega) hn⟩

theorem top146 (x0 : ByteArray) (x1 : Int) (hm : x0.size ≤ maxLen) : ∃ n, R146 n x0 x1 [⟨.int .i64, g146_0 x0 x1⟩] := by
  obtain ⟨n, hn⟩ := run146 x0 hm x0.size 0 x1 (by omega)
  refine ⟨n + 1, ?_⟩
  rw [R146]
  exact hn

def S146 : Am.Spec := { sig := sig146, pre := fun ⟨x0, x1, _⟩ => P146 x0 x1, res := fun ⟨x0, x1, _⟩ => [⟨Ty.int .i64, g146_0 x0 x1⟩] }
theorem con146 : Contract Tryd.prog 146 S146 := contract_of Tryd.func146 hb146 (Nat.le_of_ble_eq_true (by kernel_rfl)) (fun ⟨x0, x1, _⟩ h hwf w0 O q =>
  let ⟨n, hn⟩ := top146 x0 x1 hwf.1
  (snd146 n).1 x0 x1 _ hn w0 O q)

end Go.Proofs.YtakodkjcmacofaaDoor

/- Function 129 (spec.l01Dec): its runs between cut points. Written by a program of this repo (gen). -/
set_option linter.unusedVariables false
set_option linter.unusedSimpArgs false
set_option maxRecDepth 100000
namespace Go.Proofs.YtakodkjcmacofaaDoor
open Go Go.Am Go.Proofs
def ext129 : Ext := []
theorem ext129Ok : ExtOk Tryd.prog ext129 := trivial
/-! Function 129. -/
noncomputable def b129 : Code := bodyOf Tryd.f129
theorem hb129 : Tryd.f129.body = some b129 := by kernel_rfl
def sig129 : List AT := [AT.v (Ty.int IntKind.i64)]
def tys129 : List Ty := [Ty.str]
def E129_5 (v4 : Int) (h0 : List Int) (x0 : Int) : Env := [(0, PV.a (Atom.val (Value.int IntKind.i64 x0))), (3, PV.a (Atom.osl 0 Option.none)), (4, PV.a (Atom.val (Value.int IntKind.i64 v4)))]
def L129_5 (v4 : Int) (h0 : List Int) (x0 : Int) : Heap := [Option.some (Arr.mk (Ty.int IntKind.u8) h0 Bool.false)]
def E129_15 (v7 : Int) (h0 : List Int) (h1 : List Int) : Env := [(3, PV.a (Atom.osl 0 Option.none)), (6, PV.a (Atom.osl 1 Option.none)), (7, PV.a (Atom.val (Value.int IntKind.i64 v7)))]
def L129_15 (v7 : Int) (h0 : List Int) (h1 : List Int) : Heap := [Option.some (Arr.mk (Ty.int IntKind.u8) h0 Bool.false), Option.some (Arr.mk (Ty.int IntKind.u8) h1 Bool.false)]
mutual
def R129 : Nat → Int → List Dyn → Prop
  | 0, _, _ => False
  | n + 1, x0, ds => (if (x0 == 0) = true then (ds = [Dyn.mk Ty.str (ByteArray.mk #[48])]) else (R129_5 n (x0) ([]) (x0) ds))
def R129_5 : Nat → Int → List Int → Int → List Dyn → Prop
  | 0, _, _, _, _ => False
  | n + 1, v4, h0, x0, ds => (if (v4 != 0) = true then ((InR IntKind.i64 (Int.tmod v4 10)) ∧ (if (Decidable.decide (Int.tmod v4 10 < 0)) = true then ((InR IntKind.i64 (0 - Int.tmod v4 10)) ∧ ((InR IntKind.i64 (48 + (0 - Int.tmod v4 10))) ∧ ((InR IntKind.u8 (48 + (0 - Int.tmod v4 10))) ∧ (((List.length h0 + 1) * 1 ≤ 140737488355328) ∧ ((InR IntKind.i64 (Int.tdiv v4 10)) ∧ (R129_5 n (Int.tdiv v4 10) (h0 ++ [48 + (0 - Int.tmod v4 10)]) (x0) ds)))))) else ((InR IntKind.i64 (48 + Int.tmod v4 10)) ∧ ((InR IntKind.u8 (48 + Int.tmod v4 10)) ∧ (((List.length h0 + 1) * 1 ≤ 140737488355328) ∧ ((InR IntKind.i64 (Int.tdiv v4 10)) ∧ (R129_5 n (Int.tdiv v4 10) (h0 ++ [48 + Int.tmod v4 10]) (x0) ds))))))) else (if (Decidable.decide (x0 < 0)) = true then (((List.length h0 + 1) * 1 ≤ 140737488355328) ∧ ((InR IntKind.i64 ((↑(List.length (h0 ++ [45])) : Int) - 1)) ∧ (R129_15 n ((↑(List.length (h0 ++ [45])) : Int) - 1) (h0 ++ [45]) ([]) ds))) else ((InR IntKind.i64 ((↑(List.length h0) : Int) - 1)) ∧ (R129_15 n ((↑(List.length h0) : Int) - 1) (h0) ([]) ds))))
def R129_15 : Nat → Int → List Int → List Int → List Dyn → Prop
  | 0, _, _, _, _ => False
  | n + 1, v7, h0, h1, ds => (if (Decidable.decide (v7 ≥ 0)) = true then ((0 ≤ v7) ∧ (v7 < (↑(List.length h0) : Int)) ∧ (((List.length h1 + 1) * 1 ≤ 140737488355328) ∧ ((InR IntKind.i64 (v7 - 1)) ∧ (R129_15 n (v7 - 1) (h0) (h1 ++ [List.getD h0 (Int.toNat v7) 0]) ds)))) else (ds = [Dyn.mk Ty.str (bytesStr h1)]))
end
theorem p129_0 (x0 : Int) : runF tab ext129 false 50 [] 2000 [] tys129 Tryd.f129.results [true] [.code b129] (entE 0 0 sig129 (x0, ())) (entL sig129 (x0, ())) = some ([Dyn.mk Ty.str (ByteArray.mk #[48])], [], [(x0 == 0) = Bool.true]) := by kernel_rfl
theorem p129_1 (x0 : Int) : Am.runN tab ext129 false 50 [] 2000 [] [] [0, 3, 4] [0] [false] [.code b129] (entE 0 0 sig129 (x0, ())) (entL sig129 (x0, ())) = some (cutAt b129 5, E129_5 (x0) ([]) (x0), L129_5 (x0) ([]) (x0), [(x0 == 0) = Bool.false]) := by kernel_rfl
theorem p129_2 (v4 : Int) (h0 : List Int) (x0 : Int) : Am.runN tab ext129 false 50 [] 2000 [] [] [0, 3, 4] [0] [true, true] (cutAt b129 5) (E129_5 v4 h0 x0) (L129_5 v4 h0 x0) = some (cutAt b129 5, E129_5 (Int.tdiv v4 10) (h0 ++ [48 + (0 - Int.tmod v4 10)]) (x0), L129_5 (Int.tdiv v4 10) (h0 ++ [48 + (0 - Int.tmod v4 10)]) (x0), [(v4 != 0) = Bool.true, (10 : Int) ≠ (0 : Int), InR IntKind.i64 (Int.tmod v4 10), Decidable.decide (Int.tmod v4 10 < 0) = Bool.true, InR IntKind.i64 (0 - Int.tmod v4 10), InR IntKind.i64 (48 + (0 - Int.tmod v4 10)), InR IntKind.u8 (48 + (0 - Int.tmod v4 10)), (List.length h0 + 1) * 1 ≤ 140737488355328, (10 : Int) ≠ (0 : Int), InR IntKind.i64 (Int.tdiv v4 10)]) := by kernel_rfl
theorem p129_3 (v4 : Int) (h0 : List Int) (x0 : Int) : Am.runN tab ext129 false 50 [] 2000 [] [] [0, 3, 4] [0] [true, false] (cutAt b129 5) (E129_5 v4 h0 x0) (L129_5 v4 h0 x0) = some (cutAt b129 5, E129_5 (Int.tdiv v4 10) (h0 ++ [48 + Int.tmod v4 10]) (x0), L129_5 (Int.tdiv v4 10) (h0 ++ [48 + Int.tmod v4 10]) (x0), [(v4 != 0) = Bool.true, (10 : Int) ≠ (0 : Int), InR IntKind.i64 (Int.tmod v4 10), Decidable.decide (Int.tmod v4 10 < 0) = Bool.false, InR IntKind.i64 (48 + Int.tmod v4 10), InR IntKind.u8 (48 + Int.tmod v4 10), (List.length h0 + 1) * 1 ≤ 140737488355328, (10 : Int) ≠ (0 : Int), InR IntKind.i64 (Int.tdiv v4 10)]) := by kernel_rfl
theorem p129_4 (v4 : Int) (h0 : List Int) (x0 : Int) : Am.runN tab ext129 false 50 [] 2000 [] [] [3, 6, 7] [0, 2] [false, true] (cutAt b129 5) (E129_5 v4 h0 x0) (L129_5 v4 h0 x0) = some (cutAt b129 15, E129_15 ((↑(List.length (h0 ++ [45])) : Int) - 1) (h0 ++ [45]) ([]), L129_15 ((↑(List.length (h0 ++ [45])) : Int) - 1) (h0 ++ [45]) ([]), [(v4 != 0) = Bool.false, Decidable.decide (x0 < 0) = Bool.true, (List.length h0 + 1) * 1 ≤ 140737488355328, InR IntKind.i64 ((↑(List.length (h0 ++ [45])) : Int) - 1)]) := by kernel_rfl
theorem p129_5 (v4 : Int) (h0 : List Int) (x0 : Int) : Am.runN tab ext129 false 50 [] 2000 [] [] [3, 6, 7] [0, 1] [false, false] (cutAt b129 5) (E129_5 v4 h0 x0) (L129_5 v4 h0 x0) = some (cutAt b129 15, E129_15 ((↑(List.length h0) : Int) - 1) (h0) ([]), L129_15 ((↑(List.length h0) : Int) - 1) (h0) ([]), [(v4 != 0) = Bool.false, Decidable.decide (x0 < 0) = Bool.false, InR IntKind.i64 ((↑(List.length h0) : Int) - 1)]) := by kernel_rfl
theorem p129_6 (v7 : Int) (h0 : List Int) (h1 : List Int) : Am.runN tab ext129 false 50 [] 2000 [] [] [3, 6, 7] [0, 1] [true] (cutAt b129 15) (E129_15 v7 h0 h1) (L129_15 v7 h0 h1) = some (cutAt b129 15, E129_15 (v7 - 1) (h0) (h1 ++ [List.getD h0 (Int.toNat v7) 0]), L129_15 (v7 - 1) (h0) (h1 ++ [List.getD h0 (Int.toNat v7) 0]), [Decidable.decide (v7 ≥ 0) = Bool.true, 0 ≤ v7, v7 < (↑(List.length h0) : Int), (List.length h1 + 1) * 1 ≤ 140737488355328, InR IntKind.i64 (v7 - 1)]) := by kernel_rfl
theorem p129_7 (v7 : Int) (h0 : List Int) (h1 : List Int) : runF tab ext129 false 50 [] 2000 [] tys129 Tryd.f129.results [false] (cutAt b129 15) (E129_15 v7 h0 h1) (L129_15 v7 h0 h1) = some ([Dyn.mk Ty.str (bytesStr h1)], [], [Decidable.decide (v7 ≥ 0) = Bool.false]) := by kernel_rfl
theorem snd129 : ∀ n, (∀ (x0 : Int) ds, R129 n x0 ds → ∀ w0 O q, AtV Tryd.prog 129 (PostR ds [] [] q w0 O) 50 w0 O q [] [.code b129] (entE 0 0 sig129 (x0, ())) (entL sig129 (x0, ()))) ∧ (∀ (v4 : Int) (h0 : List Int) (x0 : Int) ds, R129_5 n v4 h0 x0 ds → ∀ w0 O q, AtV Tryd.prog 129 (PostR ds [] [] q w0 O) 50 w0 O q [] (cutAt b129 5) (E129_5 v4 h0 x0) (L129_5 v4 h0 x0)) ∧ (∀ (v7 : Int) (h0 : List Int) (h1 : List Int) ds, R129_15 n v7 h0 h1 ds → ∀ w0 O q, AtV Tryd.prog 129 (PostR ds [] [] q w0 O) 50 w0 O q [] (cutAt b129 15) (E129_15 v7 h0 h1) (L129_15 v7 h0 h1)) := by
  intro n
  induction n with
  | zero => exact ⟨fun _ _ h => by simp only [R129] at h, fun _ _ _ _ h => by simp only [R129_5] at h, fun _ _ _ _ h => by simp only [R129_15] at h⟩
  | succ n ih =>
  obtain ⟨ih, ih5, ih15⟩ := ih
  refine ⟨?_, ?_, ?_⟩
  · intro x0 ds h w0 O q
    rw [R129] at h
    by_cases b0 : (x0 == 0) = true
    · rw [if_pos b0] at h
      subst h
      exact AtV.fin Tryd.func129 tabOk ext129Ok mixed (p129_0 x0) ⟨b0, trivial⟩
    · rw [if_neg b0] at h
      replace b0 := Bool.eq_false_iff.2 b0
      exact AtV.runN tabOk ext129Ok mixed (p129_1 x0) ⟨b0, trivial⟩ (ih5 _ _ _ _ h w0 O q)

  · intro v4 h0 x0 ds h w0 O q
    rw [R129_5] at h
    by_cases b0 : (v4 != 0) = true
    · rw [if_pos b0] at h
      obtain ⟨s0, h⟩ := h
      by_cases b1 : (Decidable.decide (Int.tmod v4 10 < 0)) = true
      · rw [if_pos b1] at h
        obtain ⟨s1, h⟩ := h
        obtain ⟨s2, h⟩ := h
        obtain ⟨s3, h⟩ := h
        obtain ⟨s4, h⟩ := h
        obtain ⟨s5, h⟩ := h
        exact AtV.runN tabOk ext129Ok mixed (p129_2 v4 h0 x0) ⟨b0, (by decide), s0, b1, s1, s2, s3, s4, (by decide), s5, trivial⟩ (ih5 _ _ _ _ h w0 O q)
      · rw [if_neg b1] at h
        replace b1 := Bool.eq_false_iff.2 b1
        obtain ⟨s1, h⟩ := h
        obtain ⟨s2, h⟩ := h
        obtain ⟨s3, h⟩ := h
        obtain ⟨s4, h⟩ := h
        exact AtV.runN tabOk ext129Ok mixed (p129_3 v4 h0 x0) ⟨b0, (by decide), s0, b1, s1, s2, s3, (by decide), s4, trivial⟩ (ih5 _ _ _ _ h w0 O q)
    · rw [if_neg b0] at h
      replace b0 := Bool.eq_false_iff.2 b0
      by_cases b1 : (Decidable.decide (x0 < 0)) = true
      · rw [if_pos b1] at h
        obtain ⟨s0, h⟩ := h
        obtain ⟨s1, h⟩ := h
        exact AtV.runN tabOk ext129Ok mixed (p129_4 v4 h0 x0) ⟨b0, b1, s0, s1, trivial⟩ (ih15 _ _ _ _ h w0 O q)
      · rw [if_neg b1] at h
        replace b1 := Bool.eq_false_iff.2 b1
        obtain ⟨s0, h⟩ := h
        exact AtV.runN tabOk ext129Ok mixed (p129_5 v4 h0 x0) ⟨b0, b1, s0, trivial⟩ (ih15 _ _ _ _ h w0 O q)

  · intro v7 h0 h1 ds h w0 O q
    rw [R129_15] at h
    by_cases b0 : (Decidable.decide (v7 ≥ 0)) = true
    · rw [if_pos b0] at h
      obtain ⟨s0, s1, h⟩ := h
      obtain ⟨s2, h⟩ := h
      obtain ⟨s3, h⟩ := h
      exact AtV.runN tabOk ext129Ok mixed (p129_6 v7 h0 h1) ⟨b0, s0, s1, s2, s3, trivial⟩ (ih15 _ _ _ _ h w0 O q)
    · rw [if_neg b0] at h
      replace b0 := Bool.eq_false_iff.2 b0
      subst h
      exact AtV.fin Tryd.func129 tabOk ext129Ok mixed (p129_7 v7 h0 h1) ⟨b0, trivial⟩



def g129_0 (x0 : Int) : ByteArray := numB x0
def P129 (x0 : Int) : Prop := True

theorem bstr129 (xs : List Int) : bytesStr xs = ⟨⟨xs.map fun n => UInt8.ofNat n.toNat⟩⟩ := by
  have key : ∀ (xs : List Int) (s : ByteArray), (xs.foldl (fun r n => r.push (UInt8.ofNat n.toNat)) s).data.toList = s.data.toList ++ xs.map fun n => UInt8.ofNat n.toNat := by
    intro xs
    induction xs with
    | nil => intro s; simp
    | cons a r ih =>
      intro s
      rw [List.foldl_cons, ih]
      show (s.data.push _).toList ++ _ = _
      rw [Array.toList_push]
      simp
  apply ByteArray.ext
  apply Array.ext'
  have := key xs ByteArray.empty
  unfold bytesStr
  rw [this]
  rfl
theorem bstrB129 (l : List UInt8) : bytesStr (l.map fun b => (b.toNat : Int)) = ⟨⟨l⟩⟩ := by
  rw [bstr129, List.map_map]
  congr 2
  conv => rhs; rw [← List.map_id l]
  refine List.map_congr_left fun b _ => ?_
  show UInt8.ofNat ((b.toNat : Int)).toNat = b
  rw [Int.toNat_natCast, UInt8.ofNat_toNat]

/-- The digits, the last ahead. -/
def rd129 (m : Nat) : List Int := if h : m = 0 then [] else ((48 + m % 10 : Nat) : Int) :: rd129 (m / 10)
termination_by m
decreasing_by omega
theorem rd0129 : rd129 0 = [] := by rw [rd129, dif_pos rfl]
theorem rds129 {m : Nat} (h : m ≠ 0) : rd129 m = ((48 + m % 10 : Nat) : Int) :: rd129 (m / 10) := by rw [rd129, dif_neg h]
theorem rdl129 : ∀ (k m : Nat), m < 10 ^ k → (rd129 m).length ≤ k
  | 0, m, h => by obtain rfl : m = 0 := by simpa using h
                  rw [rd0129]; exact Nat.le_refl _
  | k + 1, m, h => by
    by_cases h0 : m = 0
    · rw [h0, rd0129]; exact Nat.zero_le _
    · rw [rds129 h0, List.length_cons]
      have := rdl129 k (m / 10) (by rw [Nat.pow_succ] at h; omega)
      omega
theorem rdd129 (m : Nat) (h : m ≠ 0) : bytesStr (rd129 m).reverse = ⟨⟨Lib.decDigits m⟩⟩ := by
  have key : ∀ m : Nat, m ≠ 0 → (rd129 m).reverse = (Lib.decDigits m).map fun b => (b.toNat : Int) := by
    intro m
    induction m using Nat.strongRecOn with
    | _ m ih =>
      intro h
      rw [rds129 h, List.reverse_cons, Lib.decDigits]
      have e : (UInt8.ofNat (48 + m % 10)).toNat = 48 + m % 10 := by rw [UInt8.toNat_ofNat']; omega
      split
      · rename_i hs
        rw [show m / 10 = 0 by omega, rd0129]
        have e' : (UInt8.ofNat (48 + m)).toNat = 48 + m % 10 := by rw [UInt8.toNat_ofNat']; omega
        rw [List.map_singleton, e']
        rfl
      · rw [ih (m / 10) (by omega) (by omega), List.map_append, List.map_singleton, e]
  rw [key m h]
  exact bstrB129 _

theorem back129 (h0 : List Int) : ∀ (j : Nat) (h1 : List Int), j ≤ h0.length → h1.length + j ≤ 64 → R129_15 (j + 1) ((j : Int) - 1) h0 h1 [⟨.str, bytesStr (h1 ++ (h0.take j).reverse)⟩]
  | 0, h1, _, _ => by
    rw [R129_15, if_neg (by decide)]
    simp
  | j + 1, h1, hj, hl => by
    have ih := back129 h0 j (h1 ++ [h0.getD j 0]) (by omega) (by rw [List.length_append, List.length_singleton]; omega)
    have e : ((j + 1 : Nat) : Int) - 1 = (j : Int) := by omega
    rw [R129_15, e, if_pos (by simp only [decide_eq_true_eq]; omega), Int.toNat_natCast]
    refine ⟨by omega, by omega, by omega, by rw [i64_iff]; omega, ?_⟩
    have et : (h0.take (j + 1)).reverse = h0.getD j 0 :: (h0.take j).reverse := by
      have hlt : j < h0.length := by omega
      rw [List.take_add_one, List.getElem?_eq_getElem hlt, List.reverse_append, List.getD_eq_getElem?_getD, List.getElem?_eq_getElem hlt]
      rfl
    rw [et]
    rw [List.append_assoc] at ih
    exact ih

/-- The last part, from the digits on. -/
theorem last129 (x0 : Int) (h0 : List Int) (hl : h0.length ≤ 20) : R129_5 ((if x0 < 0 then h0.length + 1 else h0.length) + 1 + 1) 0 h0 x0 [⟨.str, bytesStr ((if x0 < 0 then h0 ++ [45] else h0)).reverse⟩] := by
  rw [R129_5, if_neg (by decide)]
  by_cases hx : x0 < 0
  · have b := back129 (h0 ++ [45]) (h0.length + 1) [] (by rw [List.length_append, List.length_singleton]; omega) (by simp; omega)
    have e : (h0 ++ [(45 : Int)]).length = h0.length + 1 := by rw [List.length_append, List.length_singleton]
    rw [List.take_of_length_le (by omega)] at b
    simp only [hx, decide_true, if_true]
    rw [e]
    exact ⟨by omega, by rw [i64_iff]; omega, b⟩
  · have b := back129 h0 h0.length [] (Nat.le_refl _) (by simp; omega)
    rw [List.take_of_length_le (Nat.le_refl _)] at b
    simp only [hx, decide_false, Bool.false_eq_true, if_false]
    exact ⟨by rw [i64_iff]; omega, b⟩

theorem run129 (x0 : Int) (ds : List Dyn) (F : List Int) (K : Nat) (hF : R129_5 K 0 F x0 ds) : ∀ (m : Nat) (v : Int) (h0 : List Int), (v = (m : Int) ∨ v = -(m : Int)) → m ≤ 9223372036854775808 → InR .i64 v → h0.length + (rd129 m).length ≤ 20 → h0 ++ rd129 m = F → R129_5 ((rd129 m).length + K) v h0 x0 ds := by
  intro m
  induction m using Nat.strongRecOn with
  | _ m ih =>
    intro v h0 hv hm hi hl he
    by_cases h : m = 0
    · subst h
      obtain rfl : v = 0 := by omega
      rw [rd0129] at he ⊢
      rw [List.append_nil] at he
      rw [he, List.length_nil, Nat.zero_add]
      exact hF
    · have hr := rds129 h
      rw [hr] at he hl ⊢
      rw [List.length_cons] at hl ⊢
      have hne : (v != 0) = true := by
        have : v ≠ 0 := by omega
        simpa using this
      rw [i64_iff] at hi
      have e1 : (rd129 (m / 10)).length + 1 + K = ((rd129 (m / 10)).length + K) + 1 := by omega
      have next : ∀ v', (v' = ((m / 10 : Nat) : Int) ∨ v' = -((m / 10 : Nat) : Int)) → R129_5 ((rd129 (m / 10)).length + K) v' (h0 ++ [((48 + m % 10 : Nat) : Int)]) x0 ds := fun v' hv' =>
        ih (m / 10) (by omega) v' _ hv' (by omega) (by rw [i64_iff]; omega) (by rw [List.length_append, List.length_singleton]; omega) (by rw [List.append_assoc]; exact he)
      rw [e1, R129_5, if_pos hne]
      rcases hv with rfl | rfl
      · have t1 : Int.tmod (m : Int) 10 = ((m % 10 : Nat) : Int) := rfl
        have t2 : Int.tdiv (m : Int) 10 = ((m / 10 : Nat) : Int) := rfl
        rw [t1, t2]
        refine ⟨by rw [i64_iff]; omega, ?_⟩
        rw [if_neg (by simp only [decide_eq_true_eq]; omega)]
        have e2 : 48 + ((m % 10 : Nat) : Int) = ((48 + m % 10 : Nat) : Int) := by omega
        rw [e2]
        exact ⟨by rw [i64_iff]; omega, by rw [u8_iff]; omega, by omega, by rw [i64_iff]; omega, next _ (.inl rfl)⟩
      · have t1 : Int.tmod (-(m : Int)) 10 = -((m % 10 : Nat) : Int) := by rw [Int.neg_tmod]; rfl
        have t2 : Int.tdiv (-(m : Int)) 10 = -((m / 10 : Nat) : Int) := by rw [Int.neg_tdiv]; rfl
        rw [t1, t2]
        refine ⟨by rw [i64_iff]; omega, ?_⟩
        by_cases hz : m % 10 = 0
        · rw [if_neg (by simp only [decide_eq_true_eq]; omega)]
          have e2 : 48 + -((m % 10 : Nat) : Int) = ((48 + m % 10 : Nat) : Int) := by omega
          rw [e2]
          exact ⟨by rw [i64_iff]; omega, by rw [u8_iff]; omega, by omega, by rw [i64_iff]; omega, next _ (.inr rfl)⟩
        · rw [if_pos (by simp only [decide_eq_true_eq]; omega)]
          have e2 : 48 + (0 - -((m % 10 : Nat) : Int)) = ((48 + m % 10 : Nat) : Int) := by omega
          rw [e2]
          exact ⟨by rw [i64_iff]; omega, by rw [i64_iff]; omega, by rw [u8_iff]; omega, by omega, by rw [i64_iff]; omega, next _ (.inr rfl)⟩

theorem top129 (x0 : Int) (hi : InR .i64 x0) : ∃ n, R129 n x0 [⟨.str, g129_0 x0⟩] := by
  unfold g129_0 numB Lib.itoa
  by_cases h : x0 = 0
  · subst h
    refine ⟨1, ?_⟩
    rw [R129, if_pos (by rfl), if_neg (by decide)]
    have e : Lib.decDigits (Int.toNat 0) = [48] := by rw [Lib.decDigits, dif_pos (by decide)]; rfl
    rw [e]
  · have hi' := hi
    rw [i64_iff] at hi'
    have hn : x0.natAbs ≠ 0 := by omega
    have hl := rdl129 19 x0.natAbs (by omega)
    refine ⟨(rd129 x0.natAbs).length + ((if x0 < 0 then (rd129 x0.natAbs).length + 1 else (rd129 x0.natAbs).length) + 1 + 1) + 1, ?_⟩
    rw [R129, if_neg (by simpa using h)]
    have hlast := last129 x0 (rd129 x0.natAbs) (by omega)
    have hrun := run129 x0 _ (rd129 x0.natAbs) _ hlast x0.natAbs x0 [] (by omega) (by omega) hi (by simp; omega) rfl
    have e : bytesStr (if x0 < 0 then rd129 x0.natAbs ++ [45] else rd129 x0.natAbs).reverse = ⟨(if x0 < 0 then 45 :: Lib.decDigits x0.natAbs else Lib.decDigits x0.toNat).toArray⟩ := by
      by_cases hx : x0 < 0
      · rw [if_pos hx, if_pos hx, List.reverse_append]
        show bytesStr ((45 : Int) :: (rd129 x0.natAbs).reverse) = _
        have := rdd129 x0.natAbs hn
        have e0 : bytesStr ((45 : Int) :: (rd129 x0.natAbs).reverse) = ⟨⟨45 :: (bytesStr (rd129 x0.natAbs).reverse).data.toList⟩⟩ := by rw [bstr129, bstr129]; rfl
        rw [e0, this]
      · rw [if_neg hx, if_neg hx, rdd129 x0.natAbs hn, show x0.natAbs = x0.toNat by omega]
    rw [e] at hrun
    exact hrun

def S129 : Am.Spec := { sig := sig129, pre := fun ⟨x0, _⟩ => P129 x0, res := fun ⟨x0, _⟩ => [⟨.str, g129_0 x0⟩] }
theorem con129 : Contract Tryd.prog 129 S129 := contract_of Tryd.func129 hb129 (Nat.le_of_ble_eq_true (by kernel_rfl)) (fun ⟨x0, _⟩ h hwf w0 O q => by
  obtain ⟨n, hn⟩ := top129 x0 hwf.1
  exact (snd129 n).1 x0 _ hn w0 O q)

end Go.Proofs.YtakodkjcmacofaaDoor

/- Function 145 (spec.l29Five): its runs between cut points. Written by a program of this repo (gen). -/
set_option linter.unusedVariables false
set_option linter.unusedSimpArgs false
set_option maxRecDepth 100000
namespace Go.Proofs.YtakodkjcmacofaaDoor
open Go Go.Am Go.Proofs
def ext145 : Ext := [(129, S129)]
theorem call145_129 : Callable Tryd.prog 129 := ⟨Tryd.f129, Tryd.func129, by kernel_rfl, by kernel_rfl⟩
theorem ext145Ok : ExtOk Tryd.prog ext145 := ⟨⟨call145_129, con129⟩, trivial⟩
/-! Function 145. -/
noncomputable def b145 : Code := bodyOf Tryd.f145
theorem hb145 : Tryd.f145.body = some b145 := by kernel_rfl
def sig145 : List AT := [AT.v (Ty.int IntKind.i64)]
def tys145 : List Ty := [Ty.str]
def E145_2 (v3 : ByteArray) : Env := [(3, PV.a (Atom.val (Value.string v3)))]
def L145_2 (v3 : ByteArray) : Heap := []
mutual
def R145 : Nat → Int → List Dyn → Prop
  | 0, _, _ => False
  | n + 1, x0, ds => (R145_2 n (g129_0 x0) ds)
def R145_2 : Nat → ByteArray → List Dyn → Prop
  | 0, _, _ => False
  | n + 1, v3, ds => (if (Decidable.decide ((↑(ByteArray.size v3) : Int) < 5)) = true then ((1 + ByteArray.size v3 ≤ 9223372036854775807) ∧ (R145_2 n (ByteArray.mk #[48] ++ v3) ds)) else (ds = [Dyn.mk Ty.str v3]))
end
theorem p145_0 (x0 : Int) : Am.runN tab ext145 false 12 [] 2000 [] [] [3] [] [] [.code b145] (entE 0 0 sig145 (x0, ())) (entL sig145 (x0, ())) = some (cutAt b145 2, E145_2 (g129_0 x0), L145_2 (g129_0 x0), [True]) := by kernel_rfl
theorem p145_1 (v3 : ByteArray) : Am.runN tab ext145 false 12 [] 2000 [] [] [3] [] [true] (cutAt b145 2) (E145_2 v3) (L145_2 v3) = some (cutAt b145 2, E145_2 (ByteArray.mk #[48] ++ v3), L145_2 (ByteArray.mk #[48] ++ v3), [Decidable.decide ((↑(ByteArray.size v3) : Int) < 5) = Bool.true, 1 + ByteArray.size v3 ≤ 9223372036854775807]) := by kernel_rfl
theorem p145_2 (v3 : ByteArray) : runF tab ext145 false 12 [] 2000 [] tys145 Tryd.f145.results [false] (cutAt b145 2) (E145_2 v3) (L145_2 v3) = some ([Dyn.mk Ty.str v3], [], [Decidable.decide ((↑(ByteArray.size v3) : Int) < 5) = Bool.false]) := by kernel_rfl
theorem snd145 : ∀ n, (∀ (x0 : Int) ds, R145 n x0 ds → ∀ w0 O q, AtV Tryd.prog 145 (PostR ds [] [] q w0 O) 12 w0 O q [] [.code b145] (entE 0 0 sig145 (x0, ())) (entL sig145 (x0, ()))) ∧ (∀ (v3 : ByteArray) ds, R145_2 n v3 ds → ∀ w0 O q, AtV Tryd.prog 145 (PostR ds [] [] q w0 O) 12 w0 O q [] (cutAt b145 2) (E145_2 v3) (L145_2 v3)) := by
  intro n
  induction n with
  | zero => exact ⟨fun _ _ h => by simp only [R145] at h, fun _ _ h => by simp only [R145_2] at h⟩
  | succ n ih =>
  obtain ⟨ih, ih2⟩ := ih
  refine ⟨?_, ?_⟩
  · intro x0 ds h w0 O q
    rw [R145] at h
    exact AtV.runN tabOk ext145Ok mixed (p145_0 x0) ⟨trivial, trivial⟩ (ih2 _ _ h w0 O q)

  · intro v3 ds h w0 O q
    rw [R145_2] at h
    by_cases b0 : (Decidable.decide ((↑(ByteArray.size v3) : Int) < 5)) = true
    · rw [if_pos b0] at h
      obtain ⟨s0, h⟩ := h
      exact AtV.runN tabOk ext145Ok mixed (p145_1 v3) ⟨b0, s0, trivial⟩ (ih2 _ _ h w0 O q)
    · rw [if_neg b0] at h
      replace b0 := Bool.eq_false_iff.2 b0
      subst h
      exact AtV.fin Tryd.func145 tabOk ext145Ok mixed (p145_2 v3) ⟨b0, trivial⟩



def f5145 : Nat → ByteArray → ByteArray
  | 0, s => s
  | k + 1, s => if s.size < 5 then f5145 k (ByteArray.mk #[48] ++ s) else s
def g145_0 (x0 : Int) : ByteArray := f5145 5 (g129_0 x0)
def P145 (x0 : Int) : Prop := True

theorem run145 : ∀ (k : Nat) (s : ByteArray), 5 ≤ s.size + k → R145_2 (k + 1) s [⟨.str, f5145 k s⟩] := by
  intro k
  have i48 : (ByteArray.mk #[48]).size = 1 := rfl
  induction k with
  | zero =>
    intro s h
    rw [R145_2, if_neg (by simp; omega)]
    rfl
  | succ k ih =>
    intro s h
    rw [R145_2]
    unfold f5145
    by_cases hc : s.size < 5
    · rw [if_pos (by simp; omega), if_pos hc]
      exact ⟨by omega, ih _ (by rw [ByteArray.size_append, i48]; omega)⟩
    · rw [if_neg (by simp; omega), if_neg hc]

theorem top145 (x0 : Int) : R145 7 x0 [⟨.str, g145_0 x0⟩] := by
  rw [R145]
  exact run145 5 _ (by omega)

def S145 : Am.Spec := { sig := sig145, pre := fun ⟨x0, _⟩ => P145 x0, res := fun ⟨x0, _⟩ => [⟨Ty.str, g145_0 x0⟩] }
theorem con145 : Contract Tryd.prog 145 S145 := contract_of Tryd.func145 hb145 (Nat.le_of_ble_eq_true (by kernel_rfl)) (fun ⟨x0, _⟩ h hwf w0 O q =>
  (snd145 _).1 x0 _ (top145 x0) w0 O q)

end Go.Proofs.YtakodkjcmacofaaDoor

/- Function 175 (spec.l01Small): its runs between cut points. Written by a program of this repo (gen). -/
set_option linter.unusedVariables false
set_option linter.unusedSimpArgs false
set_option maxRecDepth 100000
namespace Go.Proofs.YtakodkjcmacofaaDoor
open Go Go.Am Go.Proofs
def ext175 : Ext := []
theorem ext175Ok : ExtOk Tryd.prog ext175 := trivial
/-! Function 175. -/
noncomputable def b175 : Code := bodyOf Tryd.f175
theorem hb175 : Tryd.f175.body = some b175 := by kernel_rfl
def sig175 : List AT := [AT.v (Ty.int IntKind.u8)]
def tys175 : List Ty := [Ty.bool]
def P175 (x0 : Int) : Prop := True
def g175_0 (x0 : Int) : Bool := (if (Decidable.decide (x0 ≥ 97)) = true then Decidable.decide (x0 ≤ 122) else Bool.false)
theorem p175_0 (x0 : Int) : runF tab ext175 false 9 [] 2000 [] tys175 Tryd.f175.results [true] [.code b175] (entE 0 0 sig175 (x0, ())) (entL sig175 (x0, ())) = some ([Dyn.mk Ty.bool (Decidable.decide (x0 ≤ 122))], [], [Decidable.decide (x0 ≥ 97) = Bool.true]) := by kernel_rfl
theorem p175_1 (x0 : Int) : runF tab ext175 false 9 [] 2000 [] tys175 Tryd.f175.results [false] [.code b175] (entE 0 0 sig175 (x0, ())) (entL sig175 (x0, ())) = some ([Dyn.mk Ty.bool Bool.false], [], [Decidable.decide (x0 ≥ 97) = Bool.false]) := by kernel_rfl
theorem at175 (x0 : Int) (h : P175 x0) (w0 : World) (O : List Nat) (q : Nat → Value) : AtV Tryd.prog 175 (PostR [⟨Ty.bool, g175_0 x0⟩] [] [] q w0 O) 9 w0 O q [] [.code b175] (entE 0 0 sig175 (x0, ())) (entL sig175 (x0, ())) := by
  unfold P175 at h
  unfold g175_0
  by_cases b0 : (Decidable.decide (x0 ≥ 97)) = true
  · try simp only [if_pos b0] at h ⊢
    exact AtV.fin Tryd.func175 tabOk ext175Ok mixed (p175_0 x0) ⟨b0, trivial⟩
  · try simp only [if_neg b0] at h ⊢
    replace b0 := Bool.eq_false_iff.2 b0
    exact AtV.fin Tryd.func175 tabOk ext175Ok mixed (p175_1 x0) ⟨b0, trivial⟩

def S175 : Am.Spec := { sig := sig175, pre := fun ⟨x0, _⟩ => P175 x0, res := fun ⟨x0, _⟩ => [⟨Ty.bool, g175_0 x0⟩] }
theorem con175 : Contract Tryd.prog 175 S175 := contract_of Tryd.func175 hb175 (Nat.le_of_ble_eq_true (by kernel_rfl)) (fun ⟨x0, _⟩ h _ w0 O q => at175 x0 h w0 O q)


end Go.Proofs.YtakodkjcmacofaaDoor

/- Function 67 (spec.l01Digit): its runs between cut points. Written by a program of this repo (gen). -/
set_option linter.unusedVariables false
set_option linter.unusedSimpArgs false
set_option maxRecDepth 100000
namespace Go.Proofs.YtakodkjcmacofaaDoor
open Go Go.Am Go.Proofs
def ext67 : Ext := []
theorem ext67Ok : ExtOk Tryd.prog ext67 := trivial
/-! Function 67. -/
noncomputable def b67 : Code := bodyOf Tryd.f67
theorem hb67 : Tryd.f67.body = some b67 := by kernel_rfl
def sig67 : List AT := [AT.v (Ty.int IntKind.u8)]
def tys67 : List Ty := [Ty.bool]
def P67 (x0 : Int) : Prop := True
def g67_0 (x0 : Int) : Bool := (if (Decidable.decide (x0 ≥ 48)) = true then Decidable.decide (x0 ≤ 57) else Bool.false)
theorem p67_0 (x0 : Int) : runF tab ext67 false 9 [] 2000 [] tys67 Tryd.f67.results [true] [.code b67] (entE 0 0 sig67 (x0, ())) (entL sig67 (x0, ())) = some ([Dyn.mk Ty.bool (Decidable.decide (x0 ≤ 57))], [], [Decidable.decide (x0 ≥ 48) = Bool.true]) := by kernel_rfl
theorem p67_1 (x0 : Int) : runF tab ext67 false 9 [] 2000 [] tys67 Tryd.f67.results [false] [.code b67] (entE 0 0 sig67 (x0, ())) (entL sig67 (x0, ())) = some ([Dyn.mk Ty.bool Bool.false], [], [Decidable.decide (x0 ≥ 48) = Bool.false]) := by kernel_rfl
theorem at67 (x0 : Int) (h : P67 x0) (w0 : World) (O : List Nat) (q : Nat → Value) : AtV Tryd.prog 67 (PostR [⟨Ty.bool, g67_0 x0⟩] [] [] q w0 O) 9 w0 O q [] [.code b67] (entE 0 0 sig67 (x0, ())) (entL sig67 (x0, ())) := by
  unfold P67 at h
  unfold g67_0
  by_cases b0 : (Decidable.decide (x0 ≥ 48)) = true
  · try simp only [if_pos b0] at h ⊢
    exact AtV.fin Tryd.func67 tabOk ext67Ok mixed (p67_0 x0) ⟨b0, trivial⟩
  · try simp only [if_neg b0] at h ⊢
    replace b0 := Bool.eq_false_iff.2 b0
    exact AtV.fin Tryd.func67 tabOk ext67Ok mixed (p67_1 x0) ⟨b0, trivial⟩

def S67 : Am.Spec := { sig := sig67, pre := fun ⟨x0, _⟩ => P67 x0, res := fun ⟨x0, _⟩ => [⟨Ty.bool, g67_0 x0⟩] }
theorem con67 : Contract Tryd.prog 67 S67 := contract_of Tryd.func67 hb67 (Nat.le_of_ble_eq_true (by kernel_rfl)) (fun ⟨x0, _⟩ h _ w0 O q => at67 x0 h w0 O q)


end Go.Proofs.YtakodkjcmacofaaDoor

/- Function 148 (spec.l01Name): its runs between cut points. Written by a program of this repo (gen). -/
set_option linter.unusedVariables false
set_option linter.unusedSimpArgs false
set_option maxRecDepth 100000
namespace Go.Proofs.YtakodkjcmacofaaDoor
open Go Go.Am Go.Proofs
def ext148 : Ext := [(175, S175), (67, S67)]
theorem call148_175 : Callable Tryd.prog 175 := ⟨Tryd.f175, Tryd.func175, by kernel_rfl, by kernel_rfl⟩
theorem call148_67 : Callable Tryd.prog 67 := ⟨Tryd.f67, Tryd.func67, by kernel_rfl, by kernel_rfl⟩
theorem ext148Ok : ExtOk Tryd.prog ext148 := ⟨⟨call148_175, con175⟩, ⟨call148_67, con67⟩, trivial⟩
/-! Function 148. -/
noncomputable def b148 : Code := bodyOf Tryd.f148
theorem hb148 : Tryd.f148.body = some b148 := by kernel_rfl
def sig148 : List AT := [AT.v (Ty.str)]
def tys148 : List Ty := [Ty.bool]
def E148_4 (v3 : Int) (x0 : ByteArray) : Env := [(0, PV.a (Atom.val (Value.string x0))), (3, PV.a (Atom.val (Value.int IntKind.i64 v3)))]
def L148_4 (v3 : Int) (x0 : ByteArray) : Heap := []
mutual
def R148 : Nat → ByteArray → List Dyn → Prop
  | 0, _, _ => False
  | n + 1, x0, ds => (if (ByteArray.toList x0 == ByteArray.toList (ByteArray.mk #[])) = true then (ds = [Dyn.mk Ty.bool Bool.false]) else (if (Decidable.decide ((↑(ByteArray.size x0) : Int) > 10)) = true then (ds = [Dyn.mk Ty.bool Bool.false]) else ((0 < (↑(ByteArray.size x0) : Int)) ∧ (if (!g175_0 (↑(UInt8.toNat (List.getD (Array.toList (ByteArray.data x0)) 0 0)) : Int)) = true then (ds = [Dyn.mk Ty.bool Bool.false]) else (R148_4 n (0) (x0) ds)))))
def R148_4 : Nat → Int → ByteArray → List Dyn → Prop
  | 0, _, _, _ => False
  | n + 1, v3, x0, ds => (if (Decidable.decide (v3 < (↑(ByteArray.size x0) : Int))) = true then ((0 ≤ v3) ∧ (v3 < (↑(ByteArray.size x0) : Int)) ∧ (if (!g175_0 (↑(UInt8.toNat (List.getD (Array.toList (ByteArray.data x0)) (Int.toNat v3) 0)) : Int)) = true then ((0 ≤ v3) ∧ (v3 < (↑(ByteArray.size x0) : Int)) ∧ (if (!g67_0 (↑(UInt8.toNat (List.getD (Array.toList (ByteArray.data x0)) (Int.toNat v3) 0)) : Int)) = true then (ds = [Dyn.mk Ty.bool Bool.false]) else ((InR IntKind.i64 (v3 + 1)) ∧ (R148_4 n (v3 + 1) (x0) ds)))) else ((InR IntKind.i64 (v3 + 1)) ∧ (R148_4 n (v3 + 1) (x0) ds)))) else (ds = [Dyn.mk Ty.bool Bool.true]))
end
theorem p148_0 (x0 : ByteArray) : runF tab ext148 false 35 [] 2000 [] tys148 Tryd.f148.results [true, true, true] [.code b148] (entE 0 0 sig148 (x0, ())) (entL sig148 (x0, ())) = some ([Dyn.mk Ty.bool Bool.false], [], [(ByteArray.toList x0 == ByteArray.toList (ByteArray.mk #[])) = Bool.true, Bool.true = Bool.true, Bool.true = Bool.true]) := by kernel_rfl
theorem p148_1 (x0 : ByteArray) : runF tab ext148 false 35 [] 2000 [] tys148 Tryd.f148.results [false, true, true] [.code b148] (entE 0 0 sig148 (x0, ())) (entL sig148 (x0, ())) = some ([Dyn.mk Ty.bool Bool.false], [], [(ByteArray.toList x0 == ByteArray.toList (ByteArray.mk #[])) = Bool.false, Decidable.decide ((↑(ByteArray.size x0) : Int) > 10) = Bool.true, Bool.true = Bool.true]) := by kernel_rfl
theorem p148_2 (x0 : ByteArray) : runF tab ext148 false 35 [] 2000 [] tys148 Tryd.f148.results [false, false, true] [.code b148] (entE 0 0 sig148 (x0, ())) (entL sig148 (x0, ())) = some ([Dyn.mk Ty.bool Bool.false], [], [(ByteArray.toList x0 == ByteArray.toList (ByteArray.mk #[])) = Bool.false, Decidable.decide ((↑(ByteArray.size x0) : Int) > 10) = Bool.false, (0 : Int) ≤ (0 : Int), 0 < (↑(ByteArray.size x0) : Int), True, (!g175_0 (↑(UInt8.toNat (List.getD (Array.toList (ByteArray.data x0)) 0 0)) : Int)) = Bool.true]) := by kernel_rfl
theorem p148_3 (x0 : ByteArray) : Am.runN tab ext148 false 35 [] 2000 [] [] [0, 3] [] [false, false, false] [.code b148] (entE 0 0 sig148 (x0, ())) (entL sig148 (x0, ())) = some (cutAt b148 4, E148_4 (0) (x0), L148_4 (0) (x0), [(ByteArray.toList x0 == ByteArray.toList (ByteArray.mk #[])) = Bool.false, Decidable.decide ((↑(ByteArray.size x0) : Int) > 10) = Bool.false, (0 : Int) ≤ (0 : Int), 0 < (↑(ByteArray.size x0) : Int), True, (!g175_0 (↑(UInt8.toNat (List.getD (Array.toList (ByteArray.data x0)) 0 0)) : Int)) = Bool.false]) := by kernel_rfl
theorem p148_4 (v3 : Int) (x0 : ByteArray) : runF tab ext148 false 35 [] 2000 [] tys148 Tryd.f148.results [true, true, true] (cutAt b148 4) (E148_4 v3 x0) (L148_4 v3 x0) = some ([Dyn.mk Ty.bool Bool.false], [], [Decidable.decide (v3 < (↑(ByteArray.size x0) : Int)) = Bool.true, 0 ≤ v3, v3 < (↑(ByteArray.size x0) : Int), True, (!g175_0 (↑(UInt8.toNat (List.getD (Array.toList (ByteArray.data x0)) (Int.toNat v3) 0)) : Int)) = Bool.true, 0 ≤ v3, v3 < (↑(ByteArray.size x0) : Int), True, (!g67_0 (↑(UInt8.toNat (List.getD (Array.toList (ByteArray.data x0)) (Int.toNat v3) 0)) : Int)) = Bool.true]) := by kernel_rfl
theorem p148_5 (v3 : Int) (x0 : ByteArray) : Am.runN tab ext148 false 35 [] 2000 [] [] [0, 3] [] [true, true, false] (cutAt b148 4) (E148_4 v3 x0) (L148_4 v3 x0) = some (cutAt b148 4, E148_4 (v3 + 1) (x0), L148_4 (v3 + 1) (x0), [Decidable.decide (v3 < (↑(ByteArray.size x0) : Int)) = Bool.true, 0 ≤ v3, v3 < (↑(ByteArray.size x0) : Int), True, (!g175_0 (↑(UInt8.toNat (List.getD (Array.toList (ByteArray.data x0)) (Int.toNat v3) 0)) : Int)) = Bool.true, 0 ≤ v3, v3 < (↑(ByteArray.size x0) : Int), True, (!g67_0 (↑(UInt8.toNat (List.getD (Array.toList (ByteArray.data x0)) (Int.toNat v3) 0)) : Int)) = Bool.false, InR IntKind.i64 (v3 + 1)]) := by kernel_rfl
theorem p148_6 (v3 : Int) (x0 : ByteArray) : Am.runN tab ext148 false 35 [] 2000 [] [] [0, 3] [] [true, false, false] (cutAt b148 4) (E148_4 v3 x0) (L148_4 v3 x0) = some (cutAt b148 4, E148_4 (v3 + 1) (x0), L148_4 (v3 + 1) (x0), [Decidable.decide (v3 < (↑(ByteArray.size x0) : Int)) = Bool.true, 0 ≤ v3, v3 < (↑(ByteArray.size x0) : Int), True, (!g175_0 (↑(UInt8.toNat (List.getD (Array.toList (ByteArray.data x0)) (Int.toNat v3) 0)) : Int)) = Bool.false, Bool.false = Bool.false, InR IntKind.i64 (v3 + 1)]) := by kernel_rfl
theorem p148_7 (v3 : Int) (x0 : ByteArray) : runF tab ext148 false 35 [] 2000 [] tys148 Tryd.f148.results [false] (cutAt b148 4) (E148_4 v3 x0) (L148_4 v3 x0) = some ([Dyn.mk Ty.bool Bool.true], [], [Decidable.decide (v3 < (↑(ByteArray.size x0) : Int)) = Bool.false]) := by kernel_rfl
theorem snd148 : ∀ n, (∀ (x0 : ByteArray) ds, R148 n x0 ds → ∀ w0 O q, AtV Tryd.prog 148 (PostR ds [] [] q w0 O) 35 w0 O q [] [.code b148] (entE 0 0 sig148 (x0, ())) (entL sig148 (x0, ()))) ∧ (∀ (v3 : Int) (x0 : ByteArray) ds, R148_4 n v3 x0 ds → ∀ w0 O q, AtV Tryd.prog 148 (PostR ds [] [] q w0 O) 35 w0 O q [] (cutAt b148 4) (E148_4 v3 x0) (L148_4 v3 x0)) := by
  intro n
  induction n with
  | zero => exact ⟨fun _ _ h => by simp only [R148] at h, fun _ _ _ h => by simp only [R148_4] at h⟩
  | succ n ih =>
  obtain ⟨ih, ih4⟩ := ih
  refine ⟨?_, ?_⟩
  · intro x0 ds h w0 O q
    rw [R148] at h
    by_cases b0 : (ByteArray.toList x0 == ByteArray.toList (ByteArray.mk #[])) = true
    · rw [if_pos b0] at h
      subst h
      exact AtV.fin Tryd.func148 tabOk ext148Ok mixed (p148_0 x0) ⟨b0, rfl, rfl, trivial⟩
    · rw [if_neg b0] at h
      replace b0 := Bool.eq_false_iff.2 b0
      by_cases b1 : (Decidable.decide ((↑(ByteArray.size x0) : Int) > 10)) = true
      · rw [if_pos b1] at h
        subst h
        exact AtV.fin Tryd.func148 tabOk ext148Ok mixed (p148_1 x0) ⟨b0, b1, rfl, trivial⟩
      · rw [if_neg b1] at h
        replace b1 := Bool.eq_false_iff.2 b1
        obtain ⟨s0, h⟩ := h
        by_cases b2 : (!g175_0 (↑(UInt8.toNat (List.getD (Array.toList (ByteArray.data x0)) 0 0)) : Int)) = true
        · rw [if_pos b2] at h
          subst h
          exact AtV.fin Tryd.func148 tabOk ext148Ok mixed (p148_2 x0) ⟨b0, b1, (by decide), s0, trivial, b2, trivial⟩
        · rw [if_neg b2] at h
          replace b2 := Bool.eq_false_iff.2 b2
          exact AtV.runN tabOk ext148Ok mixed (p148_3 x0) ⟨b0, b1, (by decide), s0, trivial, b2, trivial⟩ (ih4 _ _ _ h w0 O q)

  · intro v3 x0 ds h w0 O q
    rw [R148_4] at h
    by_cases b0 : (Decidable.decide (v3 < (↑(ByteArray.size x0) : Int))) = true
    · rw [if_pos b0] at h
      obtain ⟨s0, s1, h⟩ := h
      by_cases b1 : (!g175_0 (↑(UInt8.toNat (List.getD (Array.toList (ByteArray.data x0)) (Int.toNat v3) 0)) : Int)) = true
      · rw [if_pos b1] at h
        obtain ⟨s2, s3, h⟩ := h
        by_cases b2 : (!g67_0 (↑(UInt8.toNat (List.getD (Array.toList (ByteArray.data x0)) (Int.toNat v3) 0)) : Int)) = true
        · rw [if_pos b2] at h
          subst h
          exact AtV.fin Tryd.func148 tabOk ext148Ok mixed (p148_4 v3 x0) ⟨b0, s0, s1, trivial, b1, s2, s3, trivial, b2, trivial⟩
        · rw [if_neg b2] at h
          replace b2 := Bool.eq_false_iff.2 b2
          obtain ⟨s4, h⟩ := h
          exact AtV.runN tabOk ext148Ok mixed (p148_5 v3 x0) ⟨b0, s0, s1, trivial, b1, s2, s3, trivial, b2, s4, trivial⟩ (ih4 _ _ _ h w0 O q)
      · rw [if_neg b1] at h
        replace b1 := Bool.eq_false_iff.2 b1
        obtain ⟨s2, h⟩ := h
        exact AtV.runN tabOk ext148Ok mixed (p148_6 v3 x0) ⟨b0, s0, s1, trivial, b1, rfl, s2, trivial⟩ (ih4 _ _ _ h w0 O q)
    · rw [if_neg b0] at h
      replace b0 := Bool.eq_false_iff.2 b0
      subst h
      exact AtV.fin Tryd.func148 tabOk ext148Ok mixed (p148_7 v3 x0) ⟨b0, trivial⟩



def g148_0 (x0 : ByteArray) : Bool := decide (1 ≤ x0.size) && decide (x0.size ≤ 10) && g175_0 ((bytesOf x0).getD 0 0) && (bytesOf x0).all fun b => g175_0 b || g67_0 b
def P148 (x0 : ByteArray) : Prop := True

theorem top148 (x0 : ByteArray) (hw : Wf .str x0) : R148 (x0.size + 1 + 1) x0 [⟨.bool, g148_0 x0⟩] := by
  have hl := bytesOf_length x0
  rw [R148]
  by_cases h0 : x0 = ByteArray.mk #[]
  · rw [if_pos ((bytes_eq _ _).2 h0)]
    subst h0
    rfl
  · rw [if_neg (fun h => h0 ((bytes_eq _ _).1 h))]
    have hs : 1 ≤ x0.size := by
      rcases Nat.lt_or_ge 0 x0.size with h | h
      · exact h
      · exact absurd (bytesOf_inj (s := x0) (t := ByteArray.mk #[]) (List.eq_nil_of_length_eq_zero (by rw [hl]; omega))) h0
    by_cases h1 : (x0.size : Int) > 10
    · rw [if_pos (by simpa using h1)]
      have : ¬ x0.size ≤ 10 := by omega
      simp [g148_0, this]
    · rw [if_neg (by simpa using h1)]
      refine ⟨by omega, ?_⟩
      rw [byte_get]
      cases h2 : g175_0 ((bytesOf x0).getD 0 0) with
      | false =>
        rw [if_pos (by simp)]
        simp [g148_0, h2, -List.getD_eq_getElem?_getD]
      | true =>
        rw [if_neg (by simp)]
        have key := loop_test (bytesOf x0) 0 (fun b => g175_0 b || g67_0 b) [(⟨.bool, false⟩ : Dyn)] [⟨.bool, true⟩] (fun n i ds => R148_4 n i x0 ds) (fun n => ?_) (fun n i hi hok ds hr => ?_) (fun n i hi hok => ?_)
        · rw [hl] at key
          have e : g148_0 x0 = (bytesOf x0).all fun b => g175_0 b || g67_0 b := by
            have : x0.size ≤ 10 := by omega
            unfold g148_0
            simp only [hs, this, decide_true, Bool.true_and, h2]
          rw [e]
          cases h : (bytesOf x0).all fun b => g175_0 b || g67_0 b with
          | true => rw [if_pos h] at key; exact key
          | false => rw [if_neg (by rw [h]; simp)] at key; exact key
        · show R148_4 (n + 1) ((bytesOf x0).length : Int) x0 _
          rw [R148_4, hl, if_neg (by simp)]
        · rw [R148_4, if_pos (by simp; omega)]
          simp only [Int.toNat_natCast, byte_get]
          generalize (bytesOf x0).getD i 0 = c at *
          refine ⟨by omega, by omega, ?_⟩
          have hu := inR_up (xs := bytesOf x0) (by rw [hl]; exact hw) hi
          cases h3 : g175_0 c with
          | true => rw [if_neg (by simp)]; exact ⟨hu, hr⟩
          | false =>
            rw [if_pos (by simp)]
            rw [h3, Bool.false_or] at hok
            refine ⟨by omega, by omega, ?_⟩
            rw [if_neg (by rw [hok]; simp)]
            exact ⟨hu, hr⟩
        · simp only [Bool.or_eq_false_iff] at hok
          rw [R148_4, if_pos (by simp; omega)]
          simp only [Int.toNat_natCast, byte_get]
          refine ⟨by omega, by omega, ?_⟩
          rw [if_pos (by rw [hok.1]; rfl)]
          refine ⟨by omega, by omega, ?_⟩
          rw [if_pos (by rw [hok.2]; rfl)] <;> trivial

def S148 : Am.Spec := { sig := sig148, pre := fun ⟨x0, _⟩ => P148 x0, res := fun ⟨x0, _⟩ => [⟨Ty.bool, g148_0 x0⟩] }
theorem con148 : Contract Tryd.prog 148 S148 := contract_of Tryd.func148 hb148 (Nat.le_of_ble_eq_true (by kernel_rfl)) (fun ⟨x0, _⟩ h hwf w0 O q =>
  (snd148 _).1 x0 _ (top148 x0 hwf.1) w0 O q)

end Go.Proofs.YtakodkjcmacofaaDoor

/- Function 135 (spec.l29One): its runs between cut points. Written by a program of this repo (gen). -/
set_option linter.unusedVariables false
set_option linter.unusedSimpArgs false
set_option maxRecDepth 100000
namespace Go.Proofs.YtakodkjcmacofaaDoor
open Go Go.Am Go.Proofs
def ext135 : Ext := [(148, S148)]
theorem call135_148 : Callable Tryd.prog 148 := ⟨Tryd.f148, Tryd.func148, by kernel_rfl, by kernel_rfl⟩
theorem ext135Ok : ExtOk Tryd.prog ext135 := ⟨⟨call135_148, con148⟩, trivial⟩
/-! Function 135. -/
noncomputable def b135 : Code := bodyOf Tryd.f135
theorem hb135 : Tryd.f135.body = some b135 := by kernel_rfl
def sig135 : List AT := [AT.p (Ty.cons Ty.str (Ty.cons Ty.str (Ty.cons Ty.str Ty.unit)))]
def tys135 : List Ty := [Ty.bool]
def E135_2 (v3 : Int) (x0 : ByteArray × ByteArray × ByteArray × Unit) : Env := [(0, PV.a (Atom.ptr (Ty.cons Ty.str (Ty.cons Ty.str (Ty.cons Ty.str Ty.unit))) x0)), (3, PV.a (Atom.val (Value.int IntKind.i64 v3)))]
def L135_2 (v3 : Int) (x0 : ByteArray × ByteArray × ByteArray × Unit) : Heap := []
mutual
def R135 : Nat → ByteArray × ByteArray × ByteArray × Unit → List Dyn → Prop
  | 0, _, _ => False
  | n + 1, x0, ds => (R135_2 n (0) (x0) ds)
def R135_2 : Nat → Int → ByteArray × ByteArray × ByteArray × Unit → List Dyn → Prop
  | 0, _, _, _ => False
  | n + 1, v3, x0, ds => (if (Decidable.decide (v3 < (↑(ByteArray.size (Prod.fst (Prod.snd (Prod.snd x0)))) : Int))) = true then ((0 ≤ v3) ∧ (v3 < (↑(ByteArray.size (Prod.fst (Prod.snd (Prod.snd x0)))) : Int)) ∧ (if ((↑(UInt8.toNat (List.getD (Array.toList (ByteArray.data (Prod.fst (Prod.snd (Prod.snd x0))))) (Int.toNat v3) 0)) : Int) == 10) = true then (ds = [Dyn.mk Ty.bool Bool.false]) else ((InR IntKind.i64 (v3 + 1)) ∧ (R135_2 n (v3 + 1) (x0) ds)))) else (if (g148_0 (Prod.fst x0)) = true then (if (g148_0 (Prod.fst (Prod.snd x0))) = true then (ds = [Dyn.mk Ty.bool (Decidable.decide ((↑(ByteArray.size (Prod.fst (Prod.snd (Prod.snd x0)))) : Int) ≤ 400))]) else (ds = [Dyn.mk Ty.bool Bool.false])) else (ds = [Dyn.mk Ty.bool Bool.false])))
end
theorem p135_0 (x0 : ByteArray × ByteArray × ByteArray × Unit) : Am.runN tab ext135 false 40 [] 2000 [] [] [0, 3] [] [] [.code b135] (entE 0 0 sig135 (x0, ())) (entL sig135 (x0, ())) = some (cutAt b135 2, E135_2 (0) (x0), L135_2 (0) (x0), []) := by kernel_rfl
theorem p135_1 (v3 : Int) (x0 : ByteArray × ByteArray × ByteArray × Unit) : runF tab ext135 false 40 [] 2000 [] tys135 Tryd.f135.results [true, true] (cutAt b135 2) (E135_2 v3 x0) (L135_2 v3 x0) = some ([Dyn.mk Ty.bool Bool.false], [], [Decidable.decide (v3 < (↑(ByteArray.size (Prod.fst (Prod.snd (Prod.snd x0)))) : Int)) = Bool.true, 0 ≤ v3, v3 < (↑(ByteArray.size (Prod.fst (Prod.snd (Prod.snd x0)))) : Int), ((↑(UInt8.toNat (List.getD (Array.toList (ByteArray.data (Prod.fst (Prod.snd (Prod.snd x0))))) (Int.toNat v3) 0)) : Int) == 10) = Bool.true]) := by kernel_rfl
theorem p135_2 (v3 : Int) (x0 : ByteArray × ByteArray × ByteArray × Unit) : Am.runN tab ext135 false 40 [] 2000 [] [] [0, 3] [] [true, false] (cutAt b135 2) (E135_2 v3 x0) (L135_2 v3 x0) = some (cutAt b135 2, E135_2 (v3 + 1) (x0), L135_2 (v3 + 1) (x0), [Decidable.decide (v3 < (↑(ByteArray.size (Prod.fst (Prod.snd (Prod.snd x0)))) : Int)) = Bool.true, 0 ≤ v3, v3 < (↑(ByteArray.size (Prod.fst (Prod.snd (Prod.snd x0)))) : Int), ((↑(UInt8.toNat (List.getD (Array.toList (ByteArray.data (Prod.fst (Prod.snd (Prod.snd x0))))) (Int.toNat v3) 0)) : Int) == 10) = Bool.false, InR IntKind.i64 (v3 + 1)]) := by kernel_rfl
theorem p135_3 (v3 : Int) (x0 : ByteArray × ByteArray × ByteArray × Unit) : runF tab ext135 false 40 [] 2000 [] tys135 Tryd.f135.results [false, true, true] (cutAt b135 2) (E135_2 v3 x0) (L135_2 v3 x0) = some ([Dyn.mk Ty.bool (Decidable.decide ((↑(ByteArray.size (Prod.fst (Prod.snd (Prod.snd x0)))) : Int) ≤ 400))], [], [Decidable.decide (v3 < (↑(ByteArray.size (Prod.fst (Prod.snd (Prod.snd x0)))) : Int)) = Bool.false, True, g148_0 (Prod.fst x0) = Bool.true, True, g148_0 (Prod.fst (Prod.snd x0)) = Bool.true]) := by kernel_rfl
theorem p135_4 (v3 : Int) (x0 : ByteArray × ByteArray × ByteArray × Unit) : runF tab ext135 false 40 [] 2000 [] tys135 Tryd.f135.results [false, true, false] (cutAt b135 2) (E135_2 v3 x0) (L135_2 v3 x0) = some ([Dyn.mk Ty.bool Bool.false], [], [Decidable.decide (v3 < (↑(ByteArray.size (Prod.fst (Prod.snd (Prod.snd x0)))) : Int)) = Bool.false, True, g148_0 (Prod.fst x0) = Bool.true, True, g148_0 (Prod.fst (Prod.snd x0)) = Bool.false]) := by kernel_rfl
theorem p135_5 (v3 : Int) (x0 : ByteArray × ByteArray × ByteArray × Unit) : runF tab ext135 false 40 [] 2000 [] tys135 Tryd.f135.results [false, false, false] (cutAt b135 2) (E135_2 v3 x0) (L135_2 v3 x0) = some ([Dyn.mk Ty.bool Bool.false], [], [Decidable.decide (v3 < (↑(ByteArray.size (Prod.fst (Prod.snd (Prod.snd x0)))) : Int)) = Bool.false, True, g148_0 (Prod.fst x0) = Bool.false, Bool.false = Bool.false]) := by kernel_rfl
theorem snd135 : ∀ n, (∀ (x0 : ByteArray × ByteArray × ByteArray × Unit) ds, R135 n x0 ds → ∀ w0 O q, AtV Tryd.prog 135 (PostR ds [] [] q w0 O) 40 w0 O q [] [.code b135] (entE 0 0 sig135 (x0, ())) (entL sig135 (x0, ()))) ∧ (∀ (v3 : Int) (x0 : ByteArray × ByteArray × ByteArray × Unit) ds, R135_2 n v3 x0 ds → ∀ w0 O q, AtV Tryd.prog 135 (PostR ds [] [] q w0 O) 40 w0 O q [] (cutAt b135 2) (E135_2 v3 x0) (L135_2 v3 x0)) := by
  intro n
  induction n with
  | zero => exact ⟨fun _ _ h => by simp only [R135] at h, fun _ _ _ h => by simp only [R135_2] at h⟩
  | succ n ih =>
  obtain ⟨ih, ih2⟩ := ih
  refine ⟨?_, ?_⟩
  · intro x0 ds h w0 O q
    rw [R135] at h
    exact AtV.runN tabOk ext135Ok mixed (p135_0 x0) trivial (ih2 _ _ _ h w0 O q)

  · intro v3 x0 ds h w0 O q
    rw [R135_2] at h
    by_cases b0 : (Decidable.decide (v3 < (↑(ByteArray.size (Prod.fst (Prod.snd (Prod.snd x0)))) : Int))) = true
    · rw [if_pos b0] at h
      obtain ⟨s0, s1, h⟩ := h
      by_cases b1 : ((↑(UInt8.toNat (List.getD (Array.toList (ByteArray.data (Prod.fst (Prod.snd (Prod.snd x0))))) (Int.toNat v3) 0)) : Int) == 10) = true
      · rw [if_pos b1] at h
        subst h
        exact AtV.fin Tryd.func135 tabOk ext135Ok mixed (p135_1 v3 x0) ⟨b0, s0, s1, b1, trivial⟩
      · rw [if_neg b1] at h
        replace b1 := Bool.eq_false_iff.2 b1
        obtain ⟨s2, h⟩ := h
        exact AtV.runN tabOk ext135Ok mixed (p135_2 v3 x0) ⟨b0, s0, s1, b1, s2, trivial⟩ (ih2 _ _ _ h w0 O q)
    · rw [if_neg b0] at h
      replace b0 := Bool.eq_false_iff.2 b0
      by_cases b1 : (g148_0 (Prod.fst x0)) = true
      · rw [if_pos b1] at h
        by_cases b2 : (g148_0 (Prod.fst (Prod.snd x0))) = true
        · rw [if_pos b2] at h
          subst h
          exact AtV.fin Tryd.func135 tabOk ext135Ok mixed (p135_3 v3 x0) ⟨b0, trivial, b1, trivial, b2, trivial⟩
        · rw [if_neg b2] at h
          replace b2 := Bool.eq_false_iff.2 b2
          subst h
          exact AtV.fin Tryd.func135 tabOk ext135Ok mixed (p135_4 v3 x0) ⟨b0, trivial, b1, trivial, b2, trivial⟩
      · rw [if_neg b1] at h
        replace b1 := Bool.eq_false_iff.2 b1
        subst h
        exact AtV.fin Tryd.func135 tabOk ext135Ok mixed (p135_5 v3 x0) ⟨b0, trivial, b1, rfl, trivial⟩



def g135_0 (x0 : ByteArray × ByteArray × ByteArray × Unit) : Bool := (bytesOf x0.2.2.1).all (fun b => !(b == 10)) && g148_0 x0.1 && g148_0 x0.2.1 && decide (x0.2.2.1.size ≤ 400)
def P135 (x0 : ByteArray × ByteArray × ByteArray × Unit) : Prop := True

theorem top135 (x0 : ByteArray × ByteArray × ByteArray × Unit) (hw : Wf (.cons .str (.cons .str (.cons .str .unit))) x0) : R135 (x0.2.2.1.size + 1 + 1) x0 [⟨.bool, g135_0 x0⟩] := by
  have hl := bytesOf_length x0.2.2.1
  have hw3 : Wf .str x0.2.2.1 := hw.2.2.1
  rw [R135]
  have key := loop_test (bytesOf x0.2.2.1) 0 (fun b => !(b == 10)) [(⟨.bool, false⟩ : Dyn)] [⟨.bool, g148_0 x0.1 && g148_0 x0.2.1 && decide (x0.2.2.1.size ≤ 400)⟩] (fun n i ds => R135_2 n i x0 ds) (fun n => ?_) (fun n i hi hok ds hr => ?_) (fun n i hi hok => ?_)
  · rw [hl] at key
    unfold g135_0
    cases h : (bytesOf x0.2.2.1).all fun b => !(b == 10) with
    | true => rw [if_pos h] at key; simpa using key
    | false => rw [if_neg (by rw [h]; simp)] at key; simpa using key
  · show R135_2 (n + 1) ((bytesOf x0.2.2.1).length : Int) x0 _
    rw [R135_2, hl, if_neg (by simp)]
    have hc : decide ((x0.2.2.1.size : Int) ≤ 400) = decide (x0.2.2.1.size ≤ 400) := by
      congr 1; exact propext ⟨fun h => by omega, fun h => by omega⟩
    rw [hc]
    cases g148_0 x0.1 <;> cases g148_0 x0.2.1 <;> simp
  · rw [R135_2, if_pos (by simp; omega)]
    simp only [Int.toNat_natCast, byte_get]
    refine ⟨by omega, by omega, ?_⟩
    rw [if_neg (by intro h; rw [h] at hok; cases hok)]
    exact ⟨inR_up (xs := bytesOf x0.2.2.1) (by rw [hl]; exact hw3) hi, hr⟩
  · rw [R135_2, if_pos (by simp; omega)]
    simp only [Int.toNat_natCast, byte_get]
    refine ⟨by omega, by omega, ?_⟩
    rw [if_pos (by rw [Bool.not_eq_false'] at hok; exact hok)] <;> trivial

def S135 : Am.Spec := { sig := sig135, pre := fun ⟨x0, _⟩ => P135 x0, res := fun ⟨x0, _⟩ => [⟨Ty.bool, g135_0 x0⟩] }
theorem con135 : Contract Tryd.prog 135 S135 := contract_of Tryd.func135 hb135 (Nat.le_of_ble_eq_true (by kernel_rfl)) (fun ⟨x0, _⟩ h hwf w0 O q =>
  (snd135 _).1 x0 _ (top135 x0 hwf.1) w0 O q)

end Go.Proofs.YtakodkjcmacofaaDoor

/- Function 119 (spec.l29Parse): its runs between cut points. Written by a program of this repo (gen). -/
set_option linter.unusedVariables false
set_option linter.unusedSimpArgs false
set_option maxRecDepth 100000
namespace Go.Proofs.YtakodkjcmacofaaDoor
open Go Go.Am Go.Proofs
def ext119 : Ext := [(146, S146), (145, S145), (135, S135)]
theorem call119_146 : Callable Tryd.prog 146 := ⟨Tryd.f146, Tryd.func146, by kernel_rfl, by kernel_rfl⟩
theorem call119_145 : Callable Tryd.prog 145 := ⟨Tryd.f145, Tryd.func145, by kernel_rfl, by kernel_rfl⟩
theorem call119_135 : Callable Tryd.prog 135 := ⟨Tryd.f135, Tryd.func135, by kernel_rfl, by kernel_rfl⟩
theorem ext119Ok : ExtOk Tryd.prog ext119 := ⟨⟨call119_146, con146⟩, ⟨call119_145, con145⟩, ⟨call119_135, con135⟩, trivial⟩
/-! Function 119. -/
noncomputable def b119 : Code := bodyOf Tryd.f119
theorem hb119 : Tryd.f119.body = some b119 := by kernel_rfl
def sig119 : List AT := [AT.v (Ty.str)]
def tys119 : List Ty := [Ty.cons Ty.str (Ty.cons Ty.str (Ty.cons Ty.str Ty.unit)), Ty.int IntKind.i64]
def E119_7 (v5 : Int) (x0 : ByteArray) : Env := [(2, PV.a (Atom.optr 0 0 [])), (4, PV.a (Atom.val (Value.string (ByteArray.extract x0 6 (Int.toNat (↑(ByteArray.size x0) : Int)))))), (5, PV.a (Atom.val (Value.int IntKind.i64 v5)))]
def L119_7 (v5 : Int) (x0 : ByteArray) : Heap := [Option.some (Arr.mk (Ty.cons Ty.str (Ty.cons Ty.str (Ty.cons Ty.str Ty.unit))) [(ByteArray.empty, ByteArray.empty, ByteArray.empty, ())] Bool.true)]
def E119_10 (v6 : Int) (x0 : ByteArray) (v5 : Int) : Env := [(2, PV.a (Atom.optr 0 0 [])), (4, PV.a (Atom.val (Value.string (ByteArray.extract x0 6 (Int.toNat (↑(ByteArray.size x0) : Int)))))), (5, PV.a (Atom.val (Value.int IntKind.i64 v5))), (6, PV.a (Atom.val (Value.int IntKind.i64 v6)))]
def L119_10 (v6 : Int) (x0 : ByteArray) (v5 : Int) : Heap := [Option.some (Arr.mk (Ty.cons Ty.str (Ty.cons Ty.str (Ty.cons Ty.str Ty.unit))) [(ByteArray.empty, ByteArray.empty, ByteArray.empty, ())] Bool.true)]
mutual
def R119 : Nat → ByteArray → List Dyn → Prop
  | 0, _, _ => False
  | n + 1, x0, ds => (if (Decidable.decide ((↑(ByteArray.size x0) : Int) < 6)) = true then (ds = [Dyn.mk (Ty.cons Ty.str (Ty.cons Ty.str (Ty.cons Ty.str Ty.unit))) (ByteArray.empty, ByteArray.empty, ByteArray.empty, ()), Dyn.mk (Ty.int IntKind.i64) 9]) else ((5 < (↑(ByteArray.size x0) : Int)) ∧ (if ((↑(UInt8.toNat (List.getD (Array.toList (ByteArray.data x0)) 5 0)) : Int) != 32) = true then (ds = [Dyn.mk (Ty.cons Ty.str (Ty.cons Ty.str (Ty.cons Ty.str Ty.unit))) (ByteArray.empty, ByteArray.empty, ByteArray.empty, ()), Dyn.mk (Ty.int IntKind.i64) 9]) else ((6 ≤ (↑(ByteArray.size x0) : Int)) ∧ ((5 ≤ (↑(ByteArray.size x0) : Int)) ∧ (if (!ByteArray.toList (ByteArray.extract x0 0 5) == ByteArray.toList (g145_0 (g146_0 (ByteArray.extract x0 6 (Int.toNat (↑(ByteArray.size x0) : Int))) 65535))) = true then (ds = [Dyn.mk (Ty.cons Ty.str (Ty.cons Ty.str (Ty.cons Ty.str Ty.unit))) (ByteArray.empty, ByteArray.empty, ByteArray.empty, ()), Dyn.mk (Ty.int IntKind.i64) 10]) else (R119_7 n (0) (x0) ds)))))))
def R119_7 : Nat → Int → ByteArray → List Dyn → Prop
  | 0, _, _, _ => False
  | n + 1, v5, x0, ds => (if (Decidable.decide (v5 < (↑(ByteArray.size (ByteArray.extract x0 6 (Int.toNat (↑(ByteArray.size x0) : Int)))) : Int))) = true then ((0 ≤ v5) ∧ (v5 < (↑(ByteArray.size (ByteArray.extract x0 6 (Int.toNat (↑(ByteArray.size x0) : Int)))) : Int)) ∧ (if ((↑(UInt8.toNat (List.getD (Array.toList (ByteArray.data (ByteArray.extract x0 6 (Int.toNat (↑(ByteArray.size x0) : Int))))) (Int.toNat v5) 0)) : Int) != 32) = true then ((InR IntKind.i64 (v5 + 1)) ∧ (R119_7 n (v5 + 1) (x0) ds)) else ((InR IntKind.i64 (v5 + 1)) ∧ (R119_10 n (v5 + 1) (x0) (v5) ds)))) else ((InR IntKind.i64 (v5 + 1)) ∧ (R119_10 n (v5 + 1) (x0) (v5) ds)))
def R119_10 : Nat → Int → ByteArray → Int → List Dyn → Prop
  | 0, _, _, _, _ => False
  | n + 1, v6, x0, v5, ds => (if (Decidable.decide (v6 < (↑(ByteArray.size (ByteArray.extract x0 6 (Int.toNat (↑(ByteArray.size x0) : Int)))) : Int))) = true then ((0 ≤ v6) ∧ (v6 < (↑(ByteArray.size (ByteArray.extract x0 6 (Int.toNat (↑(ByteArray.size x0) : Int)))) : Int)) ∧ (if ((↑(UInt8.toNat (List.getD (Array.toList (ByteArray.data (ByteArray.extract x0 6 (Int.toNat (↑(ByteArray.size x0) : Int))))) (Int.toNat v6) 0)) : Int) != 32) = true then ((InR IntKind.i64 (v6 + 1)) ∧ (R119_10 n (v6 + 1) (x0) (v5) ds)) else (if (Decidable.decide (v6 ≥ (↑(ByteArray.size (ByteArray.extract x0 6 (Int.toNat (↑(ByteArray.size x0) : Int)))) : Int))) = true then (ds = [Dyn.mk (Ty.cons Ty.str (Ty.cons Ty.str (Ty.cons Ty.str Ty.unit))) (ByteArray.empty, ByteArray.empty, ByteArray.empty, ()), Dyn.mk (Ty.int IntKind.i64) 9]) else ((0 ≤ v5) ∧ (v5 ≤ (↑(ByteArray.size (ByteArray.extract x0 6 (Int.toNat (↑(ByteArray.size x0) : Int)))) : Int)) ∧ ((InR IntKind.i64 (v5 + 1)) ∧ ((0 ≤ v5 + 1) ∧ (v5 + 1 ≤ v6) ∧ (v6 ≤ (↑(ByteArray.size (ByteArray.extract x0 6 (Int.toNat (↑(ByteArray.size x0) : Int)))) : Int)) ∧ ((InR IntKind.i64 (v6 + 1)) ∧ ((0 ≤ v6 + 1) ∧ (v6 + 1 ≤ (↑(ByteArray.size (ByteArray.extract x0 6 (Int.toNat (↑(ByteArray.size x0) : Int)))) : Int)) ∧ (if (!g135_0 (ByteArray.extract (ByteArray.extract x0 6 (Int.toNat (↑(ByteArray.size x0) : Int))) 0 (Int.toNat v5), ByteArray.extract (ByteArray.extract x0 6 (Int.toNat (↑(ByteArray.size x0) : Int))) (Int.toNat (v5 + 1)) (Int.toNat v6), ByteArray.extract (ByteArray.extract x0 6 (Int.toNat (↑(ByteArray.size x0) : Int))) (Int.toNat (v6 + 1)) (Int.toNat (↑(ByteArray.size (ByteArray.extract x0 6 (Int.toNat (↑(ByteArray.size x0) : Int)))) : Int)), ())) = true then (ds = [Dyn.mk (Ty.cons Ty.str (Ty.cons Ty.str (Ty.cons Ty.str Ty.unit))) (ByteArray.empty, ByteArray.empty, ByteArray.empty, ()), Dyn.mk (Ty.int IntKind.i64) 9]) else (ds = [Dyn.mk (Ty.cons Ty.str (Ty.cons Ty.str (Ty.cons Ty.str Ty.unit))) (ByteArray.extract (ByteArray.extract x0 6 (Int.toNat (↑(ByteArray.size x0) : Int))) 0 (Int.toNat v5), ByteArray.extract (ByteArray.extract x0 6 (Int.toNat (↑(ByteArray.size x0) : Int))) (Int.toNat (v5 + 1)) (Int.toNat v6), ByteArray.extract (ByteArray.extract x0 6 (Int.toNat (↑(ByteArray.size x0) : Int))) (Int.toNat (v6 + 1)) (Int.toNat (↑(ByteArray.size (ByteArray.extract x0 6 (Int.toNat (↑(ByteArray.size x0) : Int)))) : Int)), ()), Dyn.mk (Ty.int IntKind.i64) 0])))))))))) else (if (Decidable.decide (v6 ≥ (↑(ByteArray.size (ByteArray.extract x0 6 (Int.toNat (↑(ByteArray.size x0) : Int)))) : Int))) = true then (ds = [Dyn.mk (Ty.cons Ty.str (Ty.cons Ty.str (Ty.cons Ty.str Ty.unit))) (ByteArray.empty, ByteArray.empty, ByteArray.empty, ()), Dyn.mk (Ty.int IntKind.i64) 9]) else ((0 ≤ v5) ∧ (v5 ≤ (↑(ByteArray.size (ByteArray.extract x0 6 (Int.toNat (↑(ByteArray.size x0) : Int)))) : Int)) ∧ ((InR IntKind.i64 (v5 + 1)) ∧ ((0 ≤ v5 + 1) ∧ (v5 + 1 ≤ v6) ∧ (v6 ≤ (↑(ByteArray.size (ByteArray.extract x0 6 (Int.toNat (↑(ByteArray.size x0) : Int)))) : Int)) ∧ ((InR IntKind.i64 (v6 + 1)) ∧ ((0 ≤ v6 + 1) ∧ (v6 + 1 ≤ (↑(ByteArray.size (ByteArray.extract x0 6 (Int.toNat (↑(ByteArray.size x0) : Int)))) : Int)) ∧ (if (!g135_0 (ByteArray.extract (ByteArray.extract x0 6 (Int.toNat (↑(ByteArray.size x0) : Int))) 0 (Int.toNat v5), ByteArray.extract (ByteArray.extract x0 6 (Int.toNat (↑(ByteArray.size x0) : Int))) (Int.toNat (v5 + 1)) (Int.toNat v6), ByteArray.extract (ByteArray.extract x0 6 (Int.toNat (↑(ByteArray.size x0) : Int))) (Int.toNat (v6 + 1)) (Int.toNat (↑(ByteArray.size (ByteArray.extract x0 6 (Int.toNat (↑(ByteArray.size x0) : Int)))) : Int)), ())) = true then (ds = [Dyn.mk (Ty.cons Ty.str (Ty.cons Ty.str (Ty.cons Ty.str Ty.unit))) (ByteArray.empty, ByteArray.empty, ByteArray.empty, ()), Dyn.mk (Ty.int IntKind.i64) 9]) else (ds = [Dyn.mk (Ty.cons Ty.str (Ty.cons Ty.str (Ty.cons Ty.str Ty.unit))) (ByteArray.extract (ByteArray.extract x0 6 (Int.toNat (↑(ByteArray.size x0) : Int))) 0 (Int.toNat v5), ByteArray.extract (ByteArray.extract x0 6 (Int.toNat (↑(ByteArray.size x0) : Int))) (Int.toNat (v5 + 1)) (Int.toNat v6), ByteArray.extract (ByteArray.extract x0 6 (Int.toNat (↑(ByteArray.size x0) : Int))) (Int.toNat (v6 + 1)) (Int.toNat (↑(ByteArray.size (ByteArray.extract x0 6 (Int.toNat (↑(ByteArray.size x0) : Int)))) : Int)), ()), Dyn.mk (Ty.int IntKind.i64) 0])))))))))
end
theorem p119_0 (x0 : ByteArray) : runF tab ext119 false 74 [] 2000 [] tys119 Tryd.f119.results [true, true] [.code b119] (entE 0 0 sig119 (x0, ())) (entL sig119 (x0, ())) = some ([Dyn.mk (Ty.cons Ty.str (Ty.cons Ty.str (Ty.cons Ty.str Ty.unit))) (ByteArray.empty, ByteArray.empty, ByteArray.empty, ()), Dyn.mk (Ty.int IntKind.i64) 9], [], [Decidable.decide ((↑(ByteArray.size x0) : Int) < 6) = Bool.true, Bool.true = Bool.true]) := by kernel_rfl
theorem p119_1 (x0 : ByteArray) : runF tab ext119 false 74 [] 2000 [] tys119 Tryd.f119.results [false, true] [.code b119] (entE 0 0 sig119 (x0, ())) (entL sig119 (x0, ())) = some ([Dyn.mk (Ty.cons Ty.str (Ty.cons Ty.str (Ty.cons Ty.str Ty.unit))) (ByteArray.empty, ByteArray.empty, ByteArray.empty, ()), Dyn.mk (Ty.int IntKind.i64) 9], [], [Decidable.decide ((↑(ByteArray.size x0) : Int) < 6) = Bool.false, (0 : Int) ≤ (5 : Int), 5 < (↑(ByteArray.size x0) : Int), ((↑(UInt8.toNat (List.getD (Array.toList (ByteArray.data x0)) 5 0)) : Int) != 32) = Bool.true]) := by kernel_rfl
theorem p119_2 (x0 : ByteArray) : runF tab ext119 false 74 [] 2000 [] tys119 Tryd.f119.results [false, false, true] [.code b119] (entE 0 0 sig119 (x0, ())) (entL sig119 (x0, ())) = some ([Dyn.mk (Ty.cons Ty.str (Ty.cons Ty.str (Ty.cons Ty.str Ty.unit))) (ByteArray.empty, ByteArray.empty, ByteArray.empty, ()), Dyn.mk (Ty.int IntKind.i64) 10], [], [Decidable.decide ((↑(ByteArray.size x0) : Int) < 6) = Bool.false, (0 : Int) ≤ (5 : Int), 5 < (↑(ByteArray.size x0) : Int), ((↑(UInt8.toNat (List.getD (Array.toList (ByteArray.data x0)) 5 0)) : Int) != 32) = Bool.false, (0 : Int) ≤ (6 : Int), 6 ≤ (↑(ByteArray.size x0) : Int), (0 : Int) ≤ (5 : Int), 5 ≤ (↑(ByteArray.size x0) : Int), True, True, (!ByteArray.toList (ByteArray.extract x0 0 5) == ByteArray.toList (g145_0 (g146_0 (ByteArray.extract x0 6 (Int.toNat (↑(ByteArray.size x0) : Int))) 65535))) = Bool.true]) := by kernel_rfl
theorem p119_3 (x0 : ByteArray) : Am.runN tab ext119 false 74 [] 2000 [] [] [2, 4, 5] [0] [false, false, false] [.code b119] (entE 0 0 sig119 (x0, ())) (entL sig119 (x0, ())) = some (cutAt b119 7, E119_7 (0) (x0), L119_7 (0) (x0), [Decidable.decide ((↑(ByteArray.size x0) : Int) < 6) = Bool.false, (0 : Int) ≤ (5 : Int), 5 < (↑(ByteArray.size x0) : Int), ((↑(UInt8.toNat (List.getD (Array.toList (ByteArray.data x0)) 5 0)) : Int) != 32) = Bool.false, (0 : Int) ≤ (6 : Int), 6 ≤ (↑(ByteArray.size x0) : Int), (0 : Int) ≤ (5 : Int), 5 ≤ (↑(ByteArray.size x0) : Int), True, True, (!ByteArray.toList (ByteArray.extract x0 0 5) == ByteArray.toList (g145_0 (g146_0 (ByteArray.extract x0 6 (Int.toNat (↑(ByteArray.size x0) : Int))) 65535))) = Bool.false]) := by kernel_rfl
theorem p119_4 (v5 : Int) (x0 : ByteArray) : Am.runN tab ext119 false 74 [] 2000 [] [] [2, 4, 5] [0] [true, true] (cutAt b119 7) (E119_7 v5 x0) (L119_7 v5 x0) = some (cutAt b119 7, E119_7 (v5 + 1) (x0), L119_7 (v5 + 1) (x0), [Decidable.decide (v5 < (↑(ByteArray.size (ByteArray.extract x0 6 (Int.toNat (↑(ByteArray.size x0) : Int)))) : Int)) = Bool.true, 0 ≤ v5, v5 < (↑(ByteArray.size (ByteArray.extract x0 6 (Int.toNat (↑(ByteArray.size x0) : Int)))) : Int), ((↑(UInt8.toNat (List.getD (Array.toList (ByteArray.data (ByteArray.extract x0 6 (Int.toNat (↑(ByteArray.size x0) : Int))))) (Int.toNat v5) 0)) : Int) != 32) = Bool.true, InR IntKind.i64 (v5 + 1)]) := by kernel_rfl
theorem p119_5 (v5 : Int) (x0 : ByteArray) : Am.runN tab ext119 false 74 [] 2000 [] [] [2, 4, 5, 6] [0] [true, false] (cutAt b119 7) (E119_7 v5 x0) (L119_7 v5 x0) = some (cutAt b119 10, E119_10 (v5 + 1) (x0) (v5), L119_10 (v5 + 1) (x0) (v5), [Decidable.decide (v5 < (↑(ByteArray.size (ByteArray.extract x0 6 (Int.toNat (↑(ByteArray.size x0) : Int)))) : Int)) = Bool.true, 0 ≤ v5, v5 < (↑(ByteArray.size (ByteArray.extract x0 6 (Int.toNat (↑(ByteArray.size x0) : Int)))) : Int), ((↑(UInt8.toNat (List.getD (Array.toList (ByteArray.data (ByteArray.extract x0 6 (Int.toNat (↑(ByteArray.size x0) : Int))))) (Int.toNat v5) 0)) : Int) != 32) = Bool.false, InR IntKind.i64 (v5 + 1)]) := by kernel_rfl
theorem p119_6 (v5 : Int) (x0 : ByteArray) : Am.runN tab ext119 false 74 [] 2000 [] [] [2, 4, 5, 6] [0] [false, false] (cutAt b119 7) (E119_7 v5 x0) (L119_7 v5 x0) = some (cutAt b119 10, E119_10 (v5 + 1) (x0) (v5), L119_10 (v5 + 1) (x0) (v5), [Decidable.decide (v5 < (↑(ByteArray.size (ByteArray.extract x0 6 (Int.toNat (↑(ByteArray.size x0) : Int)))) : Int)) = Bool.false, Bool.false = Bool.false, InR IntKind.i64 (v5 + 1)]) := by kernel_rfl
theorem p119_7 (v6 : Int) (x0 : ByteArray) (v5 : Int) : Am.runN tab ext119 false 74 [] 2000 [] [] [2, 4, 5, 6] [0] [true, true] (cutAt b119 10) (E119_10 v6 x0 v5) (L119_10 v6 x0 v5) = some (cutAt b119 10, E119_10 (v6 + 1) (x0) (v5), L119_10 (v6 + 1) (x0) (v5), [Decidable.decide (v6 < (↑(ByteArray.size (ByteArray.extract x0 6 (Int.toNat (↑(ByteArray.size x0) : Int)))) : Int)) = Bool.true, 0 ≤ v6, v6 < (↑(ByteArray.size (ByteArray.extract x0 6 (Int.toNat (↑(ByteArray.size x0) : Int)))) : Int), ((↑(UInt8.toNat (List.getD (Array.toList (ByteArray.data (ByteArray.extract x0 6 (Int.toNat (↑(ByteArray.size x0) : Int))))) (Int.toNat v6) 0)) : Int) != 32) = Bool.true, InR IntKind.i64 (v6 + 1)]) := by kernel_rfl
theorem p119_8 (v6 : Int) (x0 : ByteArray) (v5 : Int) : runF tab ext119 false 74 [] 2000 [] tys119 Tryd.f119.results [true, false, true] (cutAt b119 10) (E119_10 v6 x0 v5) (L119_10 v6 x0 v5) = some ([Dyn.mk (Ty.cons Ty.str (Ty.cons Ty.str (Ty.cons Ty.str Ty.unit))) (ByteArray.empty, ByteArray.empty, ByteArray.empty, ()), Dyn.mk (Ty.int IntKind.i64) 9], [], [Decidable.decide (v6 < (↑(ByteArray.size (ByteArray.extract x0 6 (Int.toNat (↑(ByteArray.size x0) : Int)))) : Int)) = Bool.true, 0 ≤ v6, v6 < (↑(ByteArray.size (ByteArray.extract x0 6 (Int.toNat (↑(ByteArray.size x0) : Int)))) : Int), ((↑(UInt8.toNat (List.getD (Array.toList (ByteArray.data (ByteArray.extract x0 6 (Int.toNat (↑(ByteArray.size x0) : Int))))) (Int.toNat v6) 0)) : Int) != 32) = Bool.false, Decidable.decide (v6 ≥ (↑(ByteArray.size (ByteArray.extract x0 6 (Int.toNat (↑(ByteArray.size x0) : Int)))) : Int)) = Bool.true]) := by kernel_rfl
theorem p119_9 (v6 : Int) (x0 : ByteArray) (v5 : Int) : runF tab ext119 false 74 [] 2000 [] tys119 Tryd.f119.results [true, false, false, true] (cutAt b119 10) (E119_10 v6 x0 v5) (L119_10 v6 x0 v5) = some ([Dyn.mk (Ty.cons Ty.str (Ty.cons Ty.str (Ty.cons Ty.str Ty.unit))) (ByteArray.empty, ByteArray.empty, ByteArray.empty, ()), Dyn.mk (Ty.int IntKind.i64) 9], [], [Decidable.decide (v6 < (↑(ByteArray.size (ByteArray.extract x0 6 (Int.toNat (↑(ByteArray.size x0) : Int)))) : Int)) = Bool.true, 0 ≤ v6, v6 < (↑(ByteArray.size (ByteArray.extract x0 6 (Int.toNat (↑(ByteArray.size x0) : Int)))) : Int), ((↑(UInt8.toNat (List.getD (Array.toList (ByteArray.data (ByteArray.extract x0 6 (Int.toNat (↑(ByteArray.size x0) : Int))))) (Int.toNat v6) 0)) : Int) != 32) = Bool.false, Decidable.decide (v6 ≥ (↑(ByteArray.size (ByteArray.extract x0 6 (Int.toNat (↑(ByteArray.size x0) : Int)))) : Int)) = Bool.false, 0 ≤ v5, v5 ≤ (↑(ByteArray.size (ByteArray.extract x0 6 (Int.toNat (↑(ByteArray.size x0) : Int)))) : Int), InR IntKind.i64 (v5 + 1), 0 ≤ v5 + 1, v5 + 1 ≤ v6, v6 ≤ (↑(ByteArray.size (ByteArray.extract x0 6 (Int.toNat (↑(ByteArray.size x0) : Int)))) : Int), InR IntKind.i64 (v6 + 1), 0 ≤ v6 + 1, v6 + 1 ≤ (↑(ByteArray.size (ByteArray.extract x0 6 (Int.toNat (↑(ByteArray.size x0) : Int)))) : Int), True, (!g135_0 (ByteArray.extract (ByteArray.extract x0 6 (Int.toNat (↑(ByteArray.size x0) : Int))) 0 (Int.toNat v5), ByteArray.extract (ByteArray.extract x0 6 (Int.toNat (↑(ByteArray.size x0) : Int))) (Int.toNat (v5 + 1)) (Int.toNat v6), ByteArray.extract (ByteArray.extract x0 6 (Int.toNat (↑(ByteArray.size x0) : Int))) (Int.toNat (v6 + 1)) (Int.toNat (↑(ByteArray.size (ByteArray.extract x0 6 (Int.toNat (↑(ByteArray.size x0) : Int)))) : Int)), ())) = Bool.true]) := by kernel_rfl
theorem p119_10 (v6 : Int) (x0 : ByteArray) (v5 : Int) : runF tab ext119 false 74 [] 2000 [] tys119 Tryd.f119.results [true, false, false, false] (cutAt b119 10) (E119_10 v6 x0 v5) (L119_10 v6 x0 v5) = some ([Dyn.mk (Ty.cons Ty.str (Ty.cons Ty.str (Ty.cons Ty.str Ty.unit))) (ByteArray.extract (ByteArray.extract x0 6 (Int.toNat (↑(ByteArray.size x0) : Int))) 0 (Int.toNat v5), ByteArray.extract (ByteArray.extract x0 6 (Int.toNat (↑(ByteArray.size x0) : Int))) (Int.toNat (v5 + 1)) (Int.toNat v6), ByteArray.extract (ByteArray.extract x0 6 (Int.toNat (↑(ByteArray.size x0) : Int))) (Int.toNat (v6 + 1)) (Int.toNat (↑(ByteArray.size (ByteArray.extract x0 6 (Int.toNat (↑(ByteArray.size x0) : Int)))) : Int)), ()), Dyn.mk (Ty.int IntKind.i64) 0], [], [Decidable.decide (v6 < (↑(ByteArray.size (ByteArray.extract x0 6 (Int.toNat (↑(ByteArray.size x0) : Int)))) : Int)) = Bool.true, 0 ≤ v6, v6 < (↑(ByteArray.size (ByteArray.extract x0 6 (Int.toNat (↑(ByteArray.size x0) : Int)))) : Int), ((↑(UInt8.toNat (List.getD (Array.toList (ByteArray.data (ByteArray.extract x0 6 (Int.toNat (↑(ByteArray.size x0) : Int))))) (Int.toNat v6) 0)) : Int) != 32) = Bool.false, Decidable.decide (v6 ≥ (↑(ByteArray.size (ByteArray.extract x0 6 (Int.toNat (↑(ByteArray.size x0) : Int)))) : Int)) = Bool.false, 0 ≤ v5, v5 ≤ (↑(ByteArray.size (ByteArray.extract x0 6 (Int.toNat (↑(ByteArray.size x0) : Int)))) : Int), InR IntKind.i64 (v5 + 1), 0 ≤ v5 + 1, v5 + 1 ≤ v6, v6 ≤ (↑(ByteArray.size (ByteArray.extract x0 6 (Int.toNat (↑(ByteArray.size x0) : Int)))) : Int), InR IntKind.i64 (v6 + 1), 0 ≤ v6 + 1, v6 + 1 ≤ (↑(ByteArray.size (ByteArray.extract x0 6 (Int.toNat (↑(ByteArray.size x0) : Int)))) : Int), True, (!g135_0 (ByteArray.extract (ByteArray.extract x0 6 (Int.toNat (↑(ByteArray.size x0) : Int))) 0 (Int.toNat v5), ByteArray.extract (ByteArray.extract x0 6 (Int.toNat (↑(ByteArray.size x0) : Int))) (Int.toNat (v5 + 1)) (Int.toNat v6), ByteArray.extract (ByteArray.extract x0 6 (Int.toNat (↑(ByteArray.size x0) : Int))) (Int.toNat (v6 + 1)) (Int.toNat (↑(ByteArray.size (ByteArray.extract x0 6 (Int.toNat (↑(ByteArray.size x0) : Int)))) : Int)), ())) = Bool.false]) := by kernel_rfl
theorem p119_11 (v6 : Int) (x0 : ByteArray) (v5 : Int) : runF tab ext119 false 74 [] 2000 [] tys119 Tryd.f119.results [false, false, true] (cutAt b119 10) (E119_10 v6 x0 v5) (L119_10 v6 x0 v5) = some ([Dyn.mk (Ty.cons Ty.str (Ty.cons Ty.str (Ty.cons Ty.str Ty.unit))) (ByteArray.empty, ByteArray.empty, ByteArray.empty, ()), Dyn.mk (Ty.int IntKind.i64) 9], [], [Decidable.decide (v6 < (↑(ByteArray.size (ByteArray.extract x0 6 (Int.toNat (↑(ByteArray.size x0) : Int)))) : Int)) = Bool.false, Bool.false = Bool.false, Decidable.decide (v6 ≥ (↑(ByteArray.size (ByteArray.extract x0 6 (Int.toNat (↑(ByteArray.size x0) : Int)))) : Int)) = Bool.true]) := by kernel_rfl
theorem p119_12 (v6 : Int) (x0 : ByteArray) (v5 : Int) : runF tab ext119 false 74 [] 2000 [] tys119 Tryd.f119.results [false, false, false, true] (cutAt b119 10) (E119_10 v6 x0 v5) (L119_10 v6 x0 v5) = some ([Dyn.mk (Ty.cons Ty.str (Ty.cons Ty.str (Ty.cons Ty.str Ty.unit))) (ByteArray.empty, ByteArray.empty, ByteArray.empty, ()), Dyn.mk (Ty.int IntKind.i64) 9], [], [Decidable.decide (v6 < (↑(ByteArray.size (ByteArray.extract x0 6 (Int.toNat (↑(ByteArray.size x0) : Int)))) : Int)) = Bool.false, Bool.false = Bool.false, Decidable.decide (v6 ≥ (↑(ByteArray.size (ByteArray.extract x0 6 (Int.toNat (↑(ByteArray.size x0) : Int)))) : Int)) = Bool.false, 0 ≤ v5, v5 ≤ (↑(ByteArray.size (ByteArray.extract x0 6 (Int.toNat (↑(ByteArray.size x0) : Int)))) : Int), InR IntKind.i64 (v5 + 1), 0 ≤ v5 + 1, v5 + 1 ≤ v6, v6 ≤ (↑(ByteArray.size (ByteArray.extract x0 6 (Int.toNat (↑(ByteArray.size x0) : Int)))) : Int), InR IntKind.i64 (v6 + 1), 0 ≤ v6 + 1, v6 + 1 ≤ (↑(ByteArray.size (ByteArray.extract x0 6 (Int.toNat (↑(ByteArray.size x0) : Int)))) : Int), True, (!g135_0 (ByteArray.extract (ByteArray.extract x0 6 (Int.toNat (↑(ByteArray.size x0) : Int))) 0 (Int.toNat v5), ByteArray.extract (ByteArray.extract x0 6 (Int.toNat (↑(ByteArray.size x0) : Int))) (Int.toNat (v5 + 1)) (Int.toNat v6), ByteArray.extract (ByteArray.extract x0 6 (Int.toNat (↑(ByteArray.size x0) : Int))) (Int.toNat (v6 + 1)) (Int.toNat (↑(ByteArray.size (ByteArray.extract x0 6 (Int.toNat (↑(ByteArray.size x0) : Int)))) : Int)), ())) = Bool.true]) := by kernel_rfl
theorem p119_13 (v6 : Int) (x0 : ByteArray) (v5 : Int) : runF tab ext119 false 74 [] 2000 [] tys119 Tryd.f119.results [false, false, false, false] (cutAt b119 10) (E119_10 v6 x0 v5) (L119_10 v6 x0 v5) = some ([Dyn.mk (Ty.cons Ty.str (Ty.cons Ty.str (Ty.cons Ty.str Ty.unit))) (ByteArray.extract (ByteArray.extract x0 6 (Int.toNat (↑(ByteArray.size x0) : Int))) 0 (Int.toNat v5), ByteArray.extract (ByteArray.extract x0 6 (Int.toNat (↑(ByteArray.size x0) : Int))) (Int.toNat (v5 + 1)) (Int.toNat v6), ByteArray.extract (ByteArray.extract x0 6 (Int.toNat (↑(ByteArray.size x0) : Int))) (Int.toNat (v6 + 1)) (Int.toNat (↑(ByteArray.size (ByteArray.extract x0 6 (Int.toNat (↑(ByteArray.size x0) : Int)))) : Int)), ()), Dyn.mk (Ty.int IntKind.i64) 0], [], [Decidable.decide (v6 < (↑(ByteArray.size (ByteArray.extract x0 6 (Int.toNat (↑(ByteArray.size x0) : Int)))) : Int)) = Bool.false, Bool.false = Bool.false, Decidable.decide (v6 ≥ (↑(ByteArray.size (ByteArray.extract x0 6 (Int.toNat (↑(ByteArray.size x0) : Int)))) : Int)) = Bool.false, 0 ≤ v5, v5 ≤ (↑(ByteArray.size (ByteArray.extract x0 6 (Int.toNat (↑(ByteArray.size x0) : Int)))) : Int), InR IntKind.i64 (v5 + 1), 0 ≤ v5 + 1, v5 + 1 ≤ v6, v6 ≤ (↑(ByteArray.size (ByteArray.extract x0 6 (Int.toNat (↑(ByteArray.size x0) : Int)))) : Int), InR IntKind.i64 (v6 + 1), 0 ≤ v6 + 1, v6 + 1 ≤ (↑(ByteArray.size (ByteArray.extract x0 6 (Int.toNat (↑(ByteArray.size x0) : Int)))) : Int), True, (!g135_0 (ByteArray.extract (ByteArray.extract x0 6 (Int.toNat (↑(ByteArray.size x0) : Int))) 0 (Int.toNat v5), ByteArray.extract (ByteArray.extract x0 6 (Int.toNat (↑(ByteArray.size x0) : Int))) (Int.toNat (v5 + 1)) (Int.toNat v6), ByteArray.extract (ByteArray.extract x0 6 (Int.toNat (↑(ByteArray.size x0) : Int))) (Int.toNat (v6 + 1)) (Int.toNat (↑(ByteArray.size (ByteArray.extract x0 6 (Int.toNat (↑(ByteArray.size x0) : Int)))) : Int)), ())) = Bool.false]) := by kernel_rfl
theorem snd119 : ∀ n, (∀ (x0 : ByteArray) ds, R119 n x0 ds → ∀ w0 O q, AtV Tryd.prog 119 (PostR ds [] [] q w0 O) 74 w0 O q [] [.code b119] (entE 0 0 sig119 (x0, ())) (entL sig119 (x0, ()))) ∧ (∀ (v5 : Int) (x0 : ByteArray) ds, R119_7 n v5 x0 ds → ∀ w0 O q, AtV Tryd.prog 119 (PostR ds [] [] q w0 O) 74 w0 O q [] (cutAt b119 7) (E119_7 v5 x0) (L119_7 v5 x0)) ∧ (∀ (v6 : Int) (x0 : ByteArray) (v5 : Int) ds, R119_10 n v6 x0 v5 ds → ∀ w0 O q, AtV Tryd.prog 119 (PostR ds [] [] q w0 O) 74 w0 O q [] (cutAt b119 10) (E119_10 v6 x0 v5) (L119_10 v6 x0 v5)) := by
  intro n
  induction n with
  | zero => exact ⟨fun _ _ h => by simp only [R119] at h, fun _ _ _ h => by simp only [R119_7] at h, fun _ _ _ _ h => by simp only [R119_10] at h⟩
  | succ n ih =>
  obtain ⟨ih, ih7, ih10⟩ := ih
  refine ⟨?_, ?_, ?_⟩
  · intro x0 ds h w0 O q
    rw [R119] at h
    by_cases b0 : (Decidable.decide ((↑(ByteArray.size x0) : Int) < 6)) = true
    · rw [if_pos b0] at h
      subst h
      exact AtV.fin Tryd.func119 tabOk ext119Ok mixed (p119_0 x0) ⟨b0, rfl, trivial⟩
    · rw [if_neg b0] at h
      replace b0 := Bool.eq_false_iff.2 b0
      obtain ⟨s0, h⟩ := h
      by_cases b1 : ((↑(UInt8.toNat (List.getD (Array.toList (ByteArray.data x0)) 5 0)) : Int) != 32) = true
      · rw [if_pos b1] at h
        subst h
        exact AtV.fin Tryd.func119 tabOk ext119Ok mixed (p119_1 x0) ⟨b0, (by decide), s0, b1, trivial⟩
      · rw [if_neg b1] at h
        replace b1 := Bool.eq_false_iff.2 b1
        obtain ⟨s1, h⟩ := h
        obtain ⟨s2, h⟩ := h
        by_cases b2 : (!ByteArray.toList (ByteArray.extract x0 0 5) == ByteArray.toList (g145_0 (g146_0 (ByteArray.extract x0 6 (Int.toNat (↑(ByteArray.size x0) : Int))) 65535))) = true
        · rw [if_pos b2] at h
          subst h
          exact AtV.fin Tryd.func119 tabOk ext119Ok mixed (p119_2 x0) ⟨b0, (by decide), s0, b1, (by decide), s1, (by decide), s2, trivial, trivial, b2, trivial⟩
        · rw [if_neg b2] at h
          replace b2 := Bool.eq_false_iff.2 b2
          exact AtV.runN tabOk ext119Ok mixed (p119_3 x0) ⟨b0, (by decide), s0, b1, (by decide), s1, (by decide), s2, trivial, trivial, b2, trivial⟩ (ih7 _ _ _ h w0 O q)

  · intro v5 x0 ds h w0 O q
    rw [R119_7] at h
    by_cases b0 : (Decidable.decide (v5 < (↑(ByteArray.size (ByteArray.extract x0 6 (Int.toNat (↑(ByteArray.size x0) : Int)))) : Int))) = true
    · rw [if_pos b0] at h
      obtain ⟨s0, s1, h⟩ := h
      by_cases b1 : ((↑(UInt8.toNat (List.getD (Array.toList (ByteArray.data (ByteArray.extract x0 6 (Int.toNat (↑(ByteArray.size x0) : Int))))) (Int.toNat v5) 0)) : Int) != 32) = true
      · rw [if_pos b1] at h
        obtain ⟨s2, h⟩ := h
        exact AtV.runN tabOk ext119Ok mixed (p119_4 v5 x0) ⟨b0, s0, s1, b1, s2, trivial⟩ (ih7 _ _ _ h w0 O q)
      · rw [if_neg b1] at h
        replace b1 := Bool.eq_false_iff.2 b1
        obtain ⟨s2, h⟩ := h
        exact AtV.runN tabOk ext119Ok mixed (p119_5 v5 x0) ⟨b0, s0, s1, b1, s2, trivial⟩ (ih10 _ _ _ _ h w0 O q)
    · rw [if_neg b0] at h
      replace b0 := Bool.eq_false_iff.2 b0
      obtain ⟨s0, h⟩ := h
      exact AtV.runN tabOk ext119Ok mixed (p119_6 v5 x0) ⟨b0, rfl, s0, trivial⟩ (ih10 _ _ _ _ h w0 O q)

  · intro v6 x0 v5 ds h w0 O q
    rw [R119_10] at h
    by_cases b0 : (Decidable.decide (v6 < (↑(ByteArray.size (ByteArray.extract x0 6 (Int.toNat (↑(ByteArray.size x0) : Int)))) : Int))) = true
    · rw [if_pos b0] at h
      obtain ⟨s0, s1, h⟩ := h
      by_cases b1 : ((↑(UInt8.toNat (List.getD (Array.toList (ByteArray.data (ByteArray.extract x0 6 (Int.toNat (↑(ByteArray.size x0) : Int))))) (Int.toNat v6) 0)) : Int) != 32) = true
      · rw [if_pos b1] at h
        obtain ⟨s2, h⟩ := h
        exact AtV.runN tabOk ext119Ok mixed (p119_7 v6 x0 v5) ⟨b0, s0, s1, b1, s2, trivial⟩ (ih10 _ _ _ _ h w0 O q)
      · rw [if_neg b1] at h
        replace b1 := Bool.eq_false_iff.2 b1
        by_cases b2 : (Decidable.decide (v6 ≥ (↑(ByteArray.size (ByteArray.extract x0 6 (Int.toNat (↑(ByteArray.size x0) : Int)))) : Int))) = true
        · rw [if_pos b2] at h
          subst h
          exact AtV.fin Tryd.func119 tabOk ext119Ok mixed (p119_8 v6 x0 v5) ⟨b0, s0, s1, b1, b2, trivial⟩
        · rw [if_neg b2] at h
          replace b2 := Bool.eq_false_iff.2 b2
          obtain ⟨s2, s3, h⟩ := h
          obtain ⟨s4, h⟩ := h
          obtain ⟨s5, s6, s7, h⟩ := h
          obtain ⟨s8, h⟩ := h
          obtain ⟨s9, s10, h⟩ := h
          by_cases b3 : (!g135_0 (ByteArray.extract (ByteArray.extract x0 6 (Int.toNat (↑(ByteArray.size x0) : Int))) 0 (Int.toNat v5), ByteArray.extract (ByteArray.extract x0 6 (Int.toNat (↑(ByteArray.size x0) : Int))) (Int.toNat (v5 + 1)) (Int.toNat v6), ByteArray.extract (ByteArray.extract x0 6 (Int.toNat (↑(ByteArray.size x0) : Int))) (Int.toNat (v6 + 1)) (Int.toNat (↑(ByteArray.size (ByteArray.extract x0 6 (Int.toNat (↑(ByteArray.size x0) : Int)))) : Int)), ())) = true
          · rw [if_pos b3] at h
            subst h
            exact AtV.fin Tryd.func119 tabOk ext119Ok mixed (p119_9 v6 x0 v5) ⟨b0, s0, s1, b1, b2, s2, s3, s4, s5, s6, s7, s8, s9, s10, trivial, b3, trivial⟩
          · rw [if_neg b3] at h
            replace b3 := Bool.eq_false_iff.2 b3
            subst h
            exact AtV.fin Tryd.func119 tabOk ext119Ok mixed (p119_10 v6 x0 v5) ⟨b0, s0, s1, b1, b2, s2, s3, s4, s5, s6, s7, s8, s9, s10, trivial, b3, trivial⟩
    · rw [if_neg b0] at h
      replace b0 := Bool.eq_false_iff.2 b0
      by_cases b1 : (Decidable.decide (v6 ≥ (↑(ByteArray.size (ByteArray.extract x0 6 (Int.toNat (↑(ByteArray.size x0) : Int)))) : Int))) = true
      · rw [if_pos b1] at h
        subst h
        exact AtV.fin Tryd.func119 tabOk ext119Ok mixed (p119_11 v6 x0 v5) ⟨b0, rfl, b1, trivial⟩
      · rw [if_neg b1] at h
        replace b1 := Bool.eq_false_iff.2 b1
        obtain ⟨s0, s1, h⟩ := h
        obtain ⟨s2, h⟩ := h
        obtain ⟨s3, s4, s5, h⟩ := h
        obtain ⟨s6, h⟩ := h
        obtain ⟨s7, s8, h⟩ := h
        by_cases b2 : (!g135_0 (ByteArray.extract (ByteArray.extract x0 6 (Int.toNat (↑(ByteArray.size x0) : Int))) 0 (Int.toNat v5), ByteArray.extract (ByteArray.extract x0 6 (Int.toNat (↑(ByteArray.size x0) : Int))) (Int.toNat (v5 + 1)) (Int.toNat v6), ByteArray.extract (ByteArray.extract x0 6 (Int.toNat (↑(ByteArray.size x0) : Int))) (Int.toNat (v6 + 1)) (Int.toNat (↑(ByteArray.size (ByteArray.extract x0 6 (Int.toNat (↑(ByteArray.size x0) : Int)))) : Int)), ())) = true
        · rw [if_pos b2] at h
          subst h
          exact AtV.fin Tryd.func119 tabOk ext119Ok mixed (p119_12 v6 x0 v5) ⟨b0, rfl, b1, s0, s1, s2, s3, s4, s5, s6, s7, s8, trivial, b2, trivial⟩
        · rw [if_neg b2] at h
          replace b2 := Bool.eq_false_iff.2 b2
          subst h
          exact AtV.fin Tryd.func119 tabOk ext119Ok mixed (p119_13 v6 x0 v5) ⟨b0, rfl, b1, s0, s1, s2, s3, s4, s5, s6, s7, s8, trivial, b2, trivial⟩



/-- How many bytes stand ahead of the next blank. -/
def nx119 : List UInt8 → Nat
  | [] => 0
  | b :: r => if b.toNat = 32 then 0 else nx119 r + 1
def rs119 (x0 : ByteArray) : ByteArray := ByteArray.extract x0 6 x0.size
def blk119 (r : ByteArray) (i k : Nat) : (ByteArray × ByteArray × ByteArray × Unit) := (ByteArray.extract r 0 i, ByteArray.extract r (i + 1) k, ByteArray.extract r (k + 1) r.size, ())
def ok119 (r : ByteArray) (i k : Nat) : Bool := decide (k < r.size) && g135_0 (blk119 r i k)
def fb119 (r : ByteArray) (i k : Nat) : (ByteArray × ByteArray × ByteArray × Unit) := if ok119 r i k = true then blk119 r i k else (ByteArray.empty, ByteArray.empty, ByteArray.empty, ())
def fc119 (r : ByteArray) (i k : Nat) : Int := if ok119 r i k = true then 0 else 9
def at119 (r : ByteArray) : Nat := nx119 r.data.toList
def to119 (r : ByteArray) : Nat := at119 r + 1 + nx119 (r.data.toList.drop (at119 r + 1))
def sum119 (x0 : ByteArray) : Bool := (!ByteArray.toList (ByteArray.extract x0 0 5) == ByteArray.toList (g145_0 (g146_0 (rs119 x0) 65535)))
def g119_0 (x0 : ByteArray) : (ByteArray × ByteArray × ByteArray × Unit) := if x0.size < 6 then (ByteArray.empty, ByteArray.empty, ByteArray.empty, ()) else if (x0.data.toList.getD 5 0).toNat ≠ 32 then (ByteArray.empty, ByteArray.empty, ByteArray.empty, ()) else if sum119 x0 = true then (ByteArray.empty, ByteArray.empty, ByteArray.empty, ()) else fb119 (rs119 x0) (at119 (rs119 x0)) (to119 (rs119 x0))
def g119_1 (x0 : ByteArray) : Int := if x0.size < 6 then 9 else if (x0.data.toList.getD 5 0).toNat ≠ 32 then 9 else if sum119 x0 = true then 10 else fc119 (rs119 x0) (at119 (rs119 x0)) (to119 (rs119 x0))
def P119 (x0 : ByteArray) : Prop := True

theorem end119 (r : ByteArray) (hr : r.size ≤ 9223372036854775801) (i k : Nat) (hi : i ≤ r.size) (hik : i + 1 ≤ k) (ds : List Dyn) (hd : ds = [⟨(.cons .str (.cons .str (.cons .str .unit))), fb119 r i k⟩, ⟨.int .i64, fc119 r i k⟩]) :
    (if (Decidable.decide ((k : Int) ≥ (r.size : Int))) = true then (ds = [Dyn.mk (.cons .str (.cons .str (.cons .str .unit))) (ByteArray.empty, ByteArray.empty, ByteArray.empty, ()), Dyn.mk (Ty.int IntKind.i64) 9]) else ((0 ≤ (i : Int)) ∧ ((i : Int) ≤ (r.size : Int)) ∧ ((InR IntKind.i64 ((i : Int) + 1)) ∧ ((0 ≤ (i : Int) + 1) ∧ ((i : Int) + 1 ≤ (k : Int)) ∧ ((k : Int) ≤ (r.size : Int)) ∧ ((InR IntKind.i64 ((k : Int) + 1)) ∧ ((0 ≤ (k : Int) + 1) ∧ ((k : Int) + 1 ≤ (r.size : Int)) ∧ (if (!g135_0 (ByteArray.extract r 0 i, ByteArray.extract r (Int.toNat ((i : Int) + 1)) k, ByteArray.extract r (Int.toNat ((k : Int) + 1)) r.size, ())) = true then (ds = [Dyn.mk (.cons .str (.cons .str (.cons .str .unit))) (ByteArray.empty, ByteArray.empty, ByteArray.empty, ()), Dyn.mk (Ty.int IntKind.i64) 9]) else (ds = [Dyn.mk (.cons .str (.cons .str (.cons .str .unit))) (ByteArray.extract r 0 i, ByteArray.extract r (Int.toNat ((i : Int) + 1)) k, ByteArray.extract r (Int.toNat ((k : Int) + 1)) r.size, ()), Dyn.mk (Ty.int IntKind.i64) 0])))))))) := by
  have e1 : Int.toNat ((i : Int) + 1) = i + 1 := by omega
  have e2 : Int.toNat ((k : Int) + 1) = k + 1 := by omega
  rw [e1, e2]
  unfold fb119 fc119 ok119 at hd
  by_cases hk : k < r.size
  · rw [if_neg (by simp; omega)]
    refine ⟨by omega, by omega, by rw [i64_iff]; omega, by omega, by omega, by omega, by rw [i64_iff]; omega, by omega, by omega, ?_⟩
    change if (!g135_0 (blk119 r i k)) = true then ds = [Dyn.mk (.cons .str (.cons .str (.cons .str .unit))) (ByteArray.empty, ByteArray.empty, ByteArray.empty, ()), Dyn.mk (Ty.int IntKind.i64) 9] else ds = [Dyn.mk (.cons .str (.cons .str (.cons .str .unit))) (blk119 r i k), Dyn.mk (Ty.int IntKind.i64) 0]
    rw [decide_eq_true hk, Bool.true_and] at hd
    cases hb : g135_0 (blk119 r i k) with
    | true => rw [hb] at hd; simpa using hd
    | false => rw [hb] at hd; simpa using hd
  · rw [if_pos (by simp; omega)]
    rw [decide_eq_false hk, Bool.false_and] at hd
    simpa using hd

theorem byte119 {b : UInt8} : (((b.toNat : Nat) : Int) != 32) = true ↔ b.toNat ≠ 32 := by
  rw [bne_iff_ne]
  constructor
  · intro h e; apply h; rw [e]; rfl
  · intro h e; apply h; omega

theorem runB119 (x0 : ByteArray) (hr : (rs119 x0).size ≤ 9223372036854775801) (i : Nat) (hi : i ≤ (rs119 x0).size) : ∀ (f k : Nat), i + 1 ≤ k → k ≤ (rs119 x0).size + 1 → (rs119 x0).size ≤ f + k →
    R119_10 (f + 1) (k : Int) x0 (i : Int) [⟨(.cons .str (.cons .str (.cons .str .unit))), fb119 (rs119 x0) i (k + nx119 ((rs119 x0).data.toList.drop k))⟩, ⟨.int .i64, fc119 (rs119 x0) i (k + nx119 ((rs119 x0).data.toList.drop k))⟩] := by
  have hll : (rs119 x0).data.toList.length = (rs119 x0).size := rfl
  have e0 : ByteArray.extract x0 6 x0.size = rs119 x0 := rfl
  intro f
  induction f with
  | zero =>
    intro k hk hk2 hf
    rw [R119_10]
    simp only [Int.toNat_natCast, e0]
    rw [if_neg (by simp; omega), List.drop_of_length_le (by omega)]
    exact end119 _ hr i k hi hk _ rfl
  | succ f ih =>
    intro k hk hk2 hf
    rw [R119_10]
    simp only [Int.toNat_natCast, e0]
    by_cases hlt : k < (rs119 x0).size
    · rw [if_pos (by simp; omega)]
      refine ⟨by omega, by omega, ?_⟩
      rw [drop_get (rs119 x0).data.toList k 0 (by omega)]
      by_cases hb : ((rs119 x0).data.toList.getD k 0).toNat = 32
      · rw [if_neg (by rw [byte119]; exact fun h => h hb)]
        unfold nx119
        rw [if_pos hb]
        exact end119 _ hr i k hi hk _ rfl
      · rw [if_pos (by rw [byte119]; exact hb)]
        unfold nx119
        rw [if_neg hb]
        have e1 : (k : Int) + 1 = ((k + 1 : Nat) : Int) := by omega
        have e2 : k + (nx119 (List.drop (k + 1) (rs119 x0).data.toList) + 1) = k + 1 + nx119 (List.drop (k + 1) (rs119 x0).data.toList) := by omega
        rw [e1, e2]
        exact ⟨by rw [i64_iff]; omega, ih (k + 1) (by omega) (by omega) (by omega)⟩
    · rw [if_neg (by simp; omega), List.drop_of_length_le (by omega)]
      exact end119 _ hr i k hi hk _ rfl

theorem runA119 (x0 : ByteArray) (hr : (rs119 x0).size ≤ 9223372036854775801) : ∀ (j i : Nat), i + j = (rs119 x0).size →
    R119_7 (j + 1 + ((rs119 x0).size + 1)) (i : Int) x0 [⟨(.cons .str (.cons .str (.cons .str .unit))), fb119 (rs119 x0) (i + nx119 ((rs119 x0).data.toList.drop i)) (i + nx119 ((rs119 x0).data.toList.drop i) + 1 + nx119 ((rs119 x0).data.toList.drop (i + nx119 ((rs119 x0).data.toList.drop i) + 1)))⟩, ⟨.int .i64, fc119 (rs119 x0) (i + nx119 ((rs119 x0).data.toList.drop i)) (i + nx119 ((rs119 x0).data.toList.drop i) + 1 + nx119 ((rs119 x0).data.toList.drop (i + nx119 ((rs119 x0).data.toList.drop i) + 1)))⟩] := by
  have hll : (rs119 x0).data.toList.length = (rs119 x0).size := rfl
  have e0 : ByteArray.extract x0 6 x0.size = rs119 x0 := rfl
  intro j
  induction j with
  | zero =>
    intro i hi
    rw [show 0 + 1 + ((rs119 x0).size + 1) = ((rs119 x0).size + 1) + 1 by omega, R119_7]
    simp only [Int.toNat_natCast, e0]
    rw [if_neg (by simp; omega), List.drop_of_length_le (show (rs119 x0).data.toList.length ≤ i by omega)]
    have e1 : (i : Int) + 1 = ((i + 1 : Nat) : Int) := by omega
    rw [e1]
    exact ⟨by rw [i64_iff]; omega, runB119 x0 hr i (by omega) _ (i + 1) (by omega) (by omega) (by omega)⟩
  | succ j ih =>
    intro i hi
    rw [show j + 1 + 1 + ((rs119 x0).size + 1) = (j + 1 + ((rs119 x0).size + 1)) + 1 by omega, R119_7]
    simp only [Int.toNat_natCast, e0]
    have e1 : (i : Int) + 1 = ((i + 1 : Nat) : Int) := by omega
    rw [if_pos (by simp; omega)]
    refine ⟨by omega, by omega, ?_⟩
    rw [drop_get (rs119 x0).data.toList i 0 (by omega)]
    by_cases hb : ((rs119 x0).data.toList.getD i 0).toNat = 32
    · rw [if_neg (by rw [byte119]; exact fun h => h hb)]
      have en : nx119 ((rs119 x0).data.toList.getD i 0 :: List.drop (i + 1) (rs119 x0).data.toList) = 0 := by unfold nx119; rw [if_pos hb]
      rw [en, e1]
      exact ⟨by rw [i64_iff]; omega, by rw [show j + 1 + ((rs119 x0).size + 1) = (j + 1 + (rs119 x0).size) + 1 by omega]; exact runB119 x0 hr i (by omega) _ (i + 1) (by omega) (by omega) (by omega)⟩
    · rw [if_pos (by rw [byte119]; exact hb)]
      have en : nx119 ((rs119 x0).data.toList.getD i 0 :: List.drop (i + 1) (rs119 x0).data.toList) = nx119 (List.drop (i + 1) (rs119 x0).data.toList) + 1 := by
        conv => lhs; unfold nx119
        rw [if_neg hb]
      rw [en, e1, show i + (nx119 (List.drop (i + 1) (rs119 x0).data.toList) + 1) = i + 1 + nx119 (List.drop (i + 1) (rs119 x0).data.toList) by omega]
      exact ⟨by rw [i64_iff]; omega, ih (i + 1) (by omega)⟩

theorem top119 (x0 : ByteArray) (hm : x0.size ≤ maxLen) : ∃ n, R119 n x0 [⟨(.cons .str (.cons .str (.cons .str .unit))), g119_0 x0⟩, ⟨.int .i64, g119_1 x0⟩] := by
  have e0 : ByteArray.extract x0 6 x0.size = rs119 x0 := rfl
  have hr : (rs119 x0).size ≤ 9223372036854775801 := by
    have hm' : x0.size ≤ 9223372036854775807 := hm
    have es : (rs119 x0).size = min x0.size x0.size - 6 := ByteArray.size_extract
    rw [es, Nat.min_self]; omega
  refine ⟨((rs119 x0).size + 1 + ((rs119 x0).size + 1)) + 1, ?_⟩
  rw [R119]
  simp only [Int.toNat_natCast, e0]
  unfold g119_0 g119_1
  by_cases h1 : x0.size < 6
  · rw [if_pos (by simp; omega), if_pos h1, if_pos h1]
  · rw [if_neg (by simp; omega), if_neg h1, if_neg h1]
    refine ⟨by omega, ?_⟩
    by_cases h2 : (x0.data.toList.getD 5 0).toNat = 32
    · rw [if_neg (by rw [byte119]; exact fun h => h h2), if_neg (show ¬ ((x0.data.toList.getD 5 0).toNat ≠ 32) from fun h => h h2), if_neg (show ¬ ((x0.data.toList.getD 5 0).toNat ≠ 32) from fun h => h h2)]
      refine ⟨by omega, by omega, ?_⟩
      by_cases h3 : sum119 x0 = true
      · have h3' : (!ByteArray.toList (ByteArray.extract x0 0 5) == ByteArray.toList (g145_0 (g146_0 (rs119 x0) 65535))) = true := h3
        rw [if_pos h3, if_pos h3, if_pos h3']
      · have h3' : ¬ (!ByteArray.toList (ByteArray.extract x0 0 5) == ByteArray.toList (g145_0 (g146_0 (rs119 x0) 65535))) = true := h3
        rw [if_neg h3, if_neg h3, if_neg h3']
        have := runA119 x0 hr (rs119 x0).size 0 (by omega)
        simp only [Nat.zero_add, List.drop_zero] at this
        exact this
    · rw [if_pos (by rw [byte119]; exact h2), if_pos h2, if_pos h2]

def S119 : Am.Spec := { sig := sig119, pre := fun ⟨x0, _⟩ => P119 x0, res := fun ⟨x0, _⟩ => [⟨(.cons .str (.cons .str (.cons .str .unit))), g119_0 x0⟩, ⟨.int .i64, g119_1 x0⟩] }
theorem con119 : Contract Tryd.prog 119 S119 := contract_of Tryd.func119 hb119 (Nat.le_of_ble_eq_true (by kernel_rfl)) (fun ⟨x0, _⟩ h hwf w0 O q =>
  let ⟨n, hn⟩ := top119 x0 hwf.1
  (snd119 n).1 x0 _ hn w0 O q)

end Go.Proofs.YtakodkjcmacofaaDoor

/- Function 58 (spec.DamagedLines): its runs between cut points. Written by a program of this repo (gen). -/
set_option linter.unusedVariables false
set_option linter.unusedSimpArgs false
set_option maxRecDepth 100000
namespace Go.Proofs.YtakodkjcmacofaaDoor
open Go Go.Am Go.Proofs
def ext58 : Ext := [(118, S118), (119, S119)]
theorem call58_118 : Callable Tryd.prog 118 := ⟨Tryd.f118, Tryd.func118, by kernel_rfl, by kernel_rfl⟩
theorem call58_119 : Callable Tryd.prog 119 := ⟨Tryd.f119, Tryd.func119, by kernel_rfl, by kernel_rfl⟩
theorem ext58Ok : ExtOk Tryd.prog ext58 := ⟨⟨call58_118, con118⟩, ⟨call58_119, con119⟩, trivial⟩
/-! Function 58. -/
noncomputable def b58 : Code := bodyOf Tryd.f58
theorem hb58 : Tryd.f58.body = some b58 := by kernel_rfl
def sig58 : List AT := [AT.v (Ty.str)]
def tys58 : List Ty := [Ty.sl (Ty.int IntKind.i64)]
def E58_4 (v6 : Int) (h1 : List Int) (x0 : ByteArray) : Env := [(3, PV.a (Atom.osl 0 Option.none)), (4, PV.a (Atom.val (Value.bool (g118_1 x0)))), (5, PV.a (Atom.osl 1 Option.none)), (6, PV.a (Atom.val (Value.int IntKind.i64 v6)))]
def L58_4 (v6 : Int) (h1 : List Int) (x0 : ByteArray) : Heap := [Option.some (Arr.mk Ty.str (g118_0 x0) Bool.false), Option.some (Arr.mk (Ty.int IntKind.i64) h1 Bool.false)]
mutual
def R58 : Nat → ByteArray → List Dyn → Prop
  | 0, _, _ => False
  | n + 1, x0, ds => ((P118 x0) ∧ (R58_4 n (1) ([]) (x0) ds))
def R58_4 : Nat → Int → List Int → ByteArray → List Dyn → Prop
  | 0, _, _, _, _ => False
  | n + 1, v6, h1, x0, ds => (if (Decidable.decide (v6 < (↑(List.length (g118_0 x0)) : Int))) = true then ((0 ≤ v6) ∧ (v6 < (↑(List.length (g118_0 x0)) : Int)) ∧ (if (g119_1 (List.getD (g118_0 x0) (Int.toNat v6) ByteArray.empty) != 0) = true then ((InR IntKind.i64 (v6 + 1)) ∧ (((List.length h1 + 1) * 8 ≤ 140737488355328) ∧ ((InR IntKind.i64 (v6 + 1)) ∧ (R58_4 n (v6 + 1) (h1 ++ [v6 + 1]) (x0) ds)))) else ((InR IntKind.i64 (v6 + 1)) ∧ (R58_4 n (v6 + 1) (h1) (x0) ds)))) else (if (!g118_1 x0) = true then ((InR IntKind.i64 ((↑(List.length (g118_0 x0)) : Int) + 1)) ∧ (((List.length h1 + 1) * 8 ≤ 140737488355328) ∧ (ds = [Dyn.mk (Ty.sl (Ty.int IntKind.i64)) (h1 ++ [(↑(List.length (g118_0 x0)) : Int) + 1])]))) else (ds = [Dyn.mk (Ty.sl (Ty.int IntKind.i64)) h1])))
end
theorem p58_0 (x0 : ByteArray) : Am.runN tab ext58 false 45 [] 2000 [] [] [3, 4, 5, 6] [0, 1] [] [.code b58] (entE 0 0 sig58 (x0, ())) (entL sig58 (x0, ())) = some (cutAt b58 4, E58_4 (1) ([]) (x0), L58_4 (1) ([]) (x0), [P118 x0]) := by kernel_rfl
theorem p58_1 (v6 : Int) (h1 : List Int) (x0 : ByteArray) : Am.runN tab ext58 false 45 [] 2000 [] [] [3, 4, 5, 6] [0, 1] [true, true] (cutAt b58 4) (E58_4 v6 h1 x0) (L58_4 v6 h1 x0) = some (cutAt b58 4, E58_4 (v6 + 1) (h1 ++ [v6 + 1]) (x0), L58_4 (v6 + 1) (h1 ++ [v6 + 1]) (x0), [Decidable.decide (v6 < (↑(List.length (g118_0 x0)) : Int)) = Bool.true, 0 ≤ v6, v6 < (↑(List.length (g118_0 x0)) : Int), True, (g119_1 (List.getD (g118_0 x0) (Int.toNat v6) ByteArray.empty) != 0) = Bool.true, InR IntKind.i64 (v6 + 1), (List.length h1 + 1) * 8 ≤ 140737488355328, InR IntKind.i64 (v6 + 1)]) := by kernel_rfl
theorem p58_2 (v6 : Int) (h1 : List Int) (x0 : ByteArray) : Am.runN tab ext58 false 45 [] 2000 [] [] [3, 4, 5, 6] [0, 1] [true, false] (cutAt b58 4) (E58_4 v6 h1 x0) (L58_4 v6 h1 x0) = some (cutAt b58 4, E58_4 (v6 + 1) (h1) (x0), L58_4 (v6 + 1) (h1) (x0), [Decidable.decide (v6 < (↑(List.length (g118_0 x0)) : Int)) = Bool.true, 0 ≤ v6, v6 < (↑(List.length (g118_0 x0)) : Int), True, (g119_1 (List.getD (g118_0 x0) (Int.toNat v6) ByteArray.empty) != 0) = Bool.false, InR IntKind.i64 (v6 + 1)]) := by kernel_rfl
theorem p58_3 (v6 : Int) (h1 : List Int) (x0 : ByteArray) : runF tab ext58 false 45 [] 2000 [] tys58 Tryd.f58.results [false, true] (cutAt b58 4) (E58_4 v6 h1 x0) (L58_4 v6 h1 x0) = some ([Dyn.mk (Ty.sl (Ty.int IntKind.i64)) (h1 ++ [(↑(List.length (g118_0 x0)) : Int) + 1])], [], [Decidable.decide (v6 < (↑(List.length (g118_0 x0)) : Int)) = Bool.false, (!g118_1 x0) = Bool.true, InR IntKind.i64 ((↑(List.length (g118_0 x0)) : Int) + 1), (List.length h1 + 1) * 8 ≤ 140737488355328]) := by kernel_rfl
theorem p58_4 (v6 : Int) (h1 : List Int) (x0 : ByteArray) : runF tab ext58 false 45 [] 2000 [] tys58 Tryd.f58.results [false, false] (cutAt b58 4) (E58_4 v6 h1 x0) (L58_4 v6 h1 x0) = some ([Dyn.mk (Ty.sl (Ty.int IntKind.i64)) h1], [], [Decidable.decide (v6 < (↑(List.length (g118_0 x0)) : Int)) = Bool.false, (!g118_1 x0) = Bool.false]) := by kernel_rfl
theorem snd58 : ∀ n, (∀ (x0 : ByteArray) ds, R58 n x0 ds → ∀ w0 O q, AtV Tryd.prog 58 (PostR ds [] [] q w0 O) 45 w0 O q [] [.code b58] (entE 0 0 sig58 (x0, ())) (entL sig58 (x0, ()))) ∧ (∀ (v6 : Int) (h1 : List Int) (x0 : ByteArray) ds, R58_4 n v6 h1 x0 ds → ∀ w0 O q, AtV Tryd.prog 58 (PostR ds [] [] q w0 O) 45 w0 O q [] (cutAt b58 4) (E58_4 v6 h1 x0) (L58_4 v6 h1 x0)) := by
  intro n
  induction n with
  | zero => exact ⟨fun _ _ h => by simp only [R58] at h, fun _ _ _ _ h => by simp only [R58_4] at h⟩
  | succ n ih =>
  obtain ⟨ih, ih4⟩ := ih
  refine ⟨?_, ?_⟩
  · intro x0 ds h w0 O q
    rw [R58] at h
    obtain ⟨s0, h⟩ := h
    exact AtV.runN tabOk ext58Ok mixed (p58_0 x0) ⟨s0, trivial⟩ (ih4 _ _ _ _ h w0 O q)

  · intro v6 h1 x0 ds h w0 O q
    rw [R58_4] at h
    by_cases b0 : (Decidable.decide (v6 < (↑(List.length (g118_0 x0)) : Int))) = true
    · rw [if_pos b0] at h
      obtain ⟨s0, s1, h⟩ := h
      by_cases b1 : (g119_1 (List.getD (g118_0 x0) (Int.toNat v6) ByteArray.empty) != 0) = true
      · rw [if_pos b1] at h
        obtain ⟨s2, h⟩ := h
        obtain ⟨s3, h⟩ := h
        obtain ⟨s4, h⟩ := h
        exact AtV.runN tabOk ext58Ok mixed (p58_1 v6 h1 x0) ⟨b0, s0, s1, trivial, b1, s2, s3, s4, trivial⟩ (ih4 _ _ _ _ h w0 O q)
      · rw [if_neg b1] at h
        replace b1 := Bool.eq_false_iff.2 b1
        obtain ⟨s2, h⟩ := h
        exact AtV.runN tabOk ext58Ok mixed (p58_2 v6 h1 x0) ⟨b0, s0, s1, trivial, b1, s2, trivial⟩ (ih4 _ _ _ _ h w0 O q)
    · rw [if_neg b0] at h
      replace b0 := Bool.eq_false_iff.2 b0
      by_cases b1 : (!g118_1 x0) = true
      · rw [if_pos b1] at h
        obtain ⟨s0, h⟩ := h
        obtain ⟨s1, h⟩ := h
        subst h
        exact AtV.fin Tryd.func58 tabOk ext58Ok mixed (p58_3 v6 h1 x0) ⟨b0, b1, s0, s1, trivial⟩
      · rw [if_neg b1] at h
        replace b1 := Bool.eq_false_iff.2 b1
        subst h
        exact AtV.fin Tryd.func58 tabOk ext58Ok mixed (p58_4 v6 h1 x0) ⟨b0, b1, trivial⟩



def dm58 : Nat → List ByteArray → List Int
  | _, [] => []
  | i, x :: r => (if (g119_1 x != 0) = true then [(i : Int) + 1] else []) ++ dm58 (i + 1) r
def tl58 (x0 : ByteArray) : List Int := if (!g118_1 x0) = true then [((g118_0 x0).length : Int) + 1] else []
def g58_0 (x0 : ByteArray) : List Int := dm58 1 ((g118_0 x0).drop 1) ++ tl58 x0
def P58 (x0 : ByteArray) : Prop := P118 x0 ∧ (g118_0 x0).length ≤ 1048577

theorem run58 (x0 : ByteArray) (hl : (g118_0 x0).length ≤ 1048577) : ∀ (k i : Nat) (h : List Int), (g118_0 x0).length ≤ i + k → h.length ≤ i → i ≤ 1048578 →
    R58_4 (k + 1) (i : Int) h x0 [⟨.sl (.int .i64), h ++ (dm58 i ((g118_0 x0).drop i) ++ tl58 x0)⟩] := by
  have fin : ∀ (n i : Nat) (h : List Int), ¬ i < (g118_0 x0).length → h.length ≤ i → i ≤ 1048578 → R58_4 (n + 1) (i : Int) h x0 [⟨.sl (.int .i64), h ++ (dm58 i ((g118_0 x0).drop i) ++ tl58 x0)⟩] := by
    intro n i h hi hh h8
    rw [R58_4, if_neg (by simp; omega), List.drop_of_length_le (by omega)]
    unfold dm58 tl58
    by_cases hc : (!g118_1 x0) = true
    · rw [if_pos hc, if_pos hc]
      exact ⟨by rw [i64_iff]; omega, by omega, rfl⟩
    · rw [if_neg hc, if_neg hc]
      simp
  intro k
  induction k with
  | zero =>
    intro i h hi hh h8
    exact fin 0 i h (by omega) hh h8
  | succ k ih =>
    intro i h hi hh h8
    by_cases hlt : i < (g118_0 x0).length
    · rw [R58_4, if_pos (by simp; omega), drop_get _ i ByteArray.empty hlt]
      simp only [Int.toNat_natCast]
      refine ⟨by omega, by omega, ?_⟩
      have e1 : (i : Int) + 1 = ((i + 1 : Nat) : Int) := by omega
      unfold dm58
      by_cases hc : (g119_1 (List.getD (g118_0 x0) i ByteArray.empty) != 0) = true
      · rw [if_pos hc, if_pos hc]
        refine ⟨by rw [i64_iff]; omega, by omega, by rw [i64_iff]; omega, ?_⟩
        have := ih (i + 1) (h ++ [(i : Int) + 1]) (by omega) (len_up hh) (by omega)
        rw [← e1] at this
        simpa using this
      · rw [if_neg hc, if_neg hc]
        refine ⟨by rw [i64_iff]; omega, ?_⟩
        have := ih (i + 1) h (by omega) (by omega) (by omega)
        rw [← e1] at this
        simpa using this
    · exact fin (k + 1) i h hlt hh h8

theorem top58 (x0 : ByteArray) (h : P58 x0) : R58 ((g118_0 x0).length + 1 + 1) x0 [⟨.sl (.int .i64), g58_0 x0⟩] := by
  rw [R58]
  refine ⟨h.1, ?_⟩
  have := run58 x0 h.2 (g118_0 x0).length 1 [] (by omega) (by simp) (by omega)
  simpa [g58_0] using this

def S58 : Am.Spec := { sig := sig58, pre := fun ⟨x0, _⟩ => P58 x0, res := fun ⟨x0, _⟩ => [⟨.sl (.int .i64), g58_0 x0⟩] }
theorem con58 : Contract Tryd.prog 58 S58 := contract_of Tryd.func58 hb58 (Nat.le_of_ble_eq_true (by kernel_rfl)) (fun ⟨x0, _⟩ h hwf w0 O q =>
  (snd58 _).1 x0 _ (top58 x0 h) w0 O q)

end Go.Proofs.YtakodkjcmacofaaDoor

/- The contracts of the library that this program uses, laid at this program. Written by a tool of the kit. -/
set_option linter.unusedVariables false
set_option maxRecDepth 100000
namespace Go.Proofs
open Go.Shelf
def Tryd.lays156_ren : Go.Shelf.Ren := ⟨fun | 156 => 157 | 165 => 169 | 166 => 93 | 169 => 97 | 240 => 140 | 241 => 187 | 276 => 166 | 277 => 196 | n => n, fun | 31 => 67 | 9 => 9 | 3 => 3 | 4 => 4 | 0 => 0 | 20 => 20 | 72 => 95 | 76 => 98 | 70 => 93 | 37 => 45 | 75 => 97 | 127 => 133 | 164 => 143 | 5 => 5 | 80 => 102 | n => n, fun | n => n⟩
theorem Tryd.lays156 : Go.Proofs.Lays.n156 Tryd.prog Tryd.lays156_ren := {
  mixed := by kernel_rfl
  f156 := Tryd.func157.trans (congrArg some (by kernel_rfl))
  f165 := Tryd.func169.trans (congrArg some (by kernel_rfl))
  f166 := Tryd.func93.trans (congrArg some (by kernel_rfl))
  f169 := Tryd.func97.trans (congrArg some (by kernel_rfl))
  f240 := Tryd.func140.trans (congrArg some (by kernel_rfl))
  f241 := Tryd.func187.trans (congrArg some (by kernel_rfl))
  f276 := Tryd.func166.trans (congrArg some (by kernel_rfl))
  f277 := Tryd.func196.trans (congrArg some (by kernel_rfl))
  t0 := Tryd.underlying0
  a0 := Tryd.isAgg0
  z0 := Tryd.sizeOf0
  v0 := Tryd.zeroValue0
  t3 := Tryd.underlying3
  a3 := Tryd.isAgg3
  z3 := Tryd.sizeOf3
  v3 := Tryd.zeroValue3
  t4 := Tryd.underlying4
  a4 := Tryd.isAgg4
  z4 := Tryd.sizeOf4
  v4 := Tryd.zeroValue4
  t9 := Tryd.underlying9
  a9 := Tryd.isAgg9
  z9 := Tryd.sizeOf9
  v9 := Tryd.zeroValue9
  t20 := Tryd.underlying20
  a20 := Tryd.isAgg20
  z20 := Tryd.sizeOf20
  v20 := Tryd.zeroValue20
  t31 := Tryd.underlying67
  a31 := Tryd.isAgg67
  z31 := Tryd.sizeOf67
  v31 := Tryd.zeroValue67
  t37 := Tryd.underlying45
  a37 := Tryd.isAgg45
  z37 := Tryd.sizeOf45
  v37 := Tryd.zeroValue45
  t70 := Tryd.underlying93
  a70 := Tryd.isAgg93
  z70 := Tryd.sizeOf93
  v70 := Tryd.zeroValue93
  t72 := Tryd.underlying95
  a72 := Tryd.isAgg95
  z72 := Tryd.sizeOf95
  v72 := Tryd.zeroValue95
  t75 := Tryd.underlying97
  a75 := Tryd.isAgg97
  z75 := Tryd.sizeOf97
  v75 := Tryd.zeroValue97
  t76 := Tryd.underlying98
  a76 := Tryd.isAgg98
  z76 := Tryd.sizeOf98
  v76 := Tryd.zeroValue98
  t127 := Tryd.underlying133
  a127 := Tryd.isAgg133
  z127 := Tryd.sizeOf133
  v127 := Tryd.zeroValue133
  t164 := Tryd.underlying143
  a164 := Tryd.isAgg143
  z164 := Tryd.sizeOf143
  v164 := Tryd.zeroValue143 }
theorem Tryd.Builder_Extra_156 : Builder.Extra Tryd.prog Tryd.lays156_ren := {
  sizeBuilder := by kernel_rfl
  liesBuilder := by kernel_rfl
  t5 := Tryd.underlying5
  a5 := Tryd.isAgg5
  z5 := Tryd.sizeOf5
  v5 := Tryd.zeroValue5
  infoByte := by kernel_rfl
  cellsByte := by kernel_rfl
  sizeByte := by kernel_rfl
  neB5 := by decide }
open Go.RowKit in theorem Tryd.strings_Join_none (a : Option Addr) (c : Nat) (sep : ByteArray) (w : World) :
    Calls Tryd.prog 157 #[.slice a 0 c, .string sep] w fun e w' => e = .returned (.string ⟨#[]⟩) ∧ w' = w := Any.strings_Join_none Tryd.lays156 Tryd.Builder_Extra_156 a c sep w
open Go.RowKit in theorem Tryd.strings_Join (bk o c : Nat) (xs : List ByteArray) (sep : ByteArray) (w : World) (hcells : ∀ (j : Nat) x, xs[j]? = some x → w.cell? ⟨bk, o + j, none⟩ = some (.string x)) (hbk : bk < w.heap.size) (hN : xs.length ≤ 140737488355328) (hcap : xs.length ≤ c) (hlen : (Lib.join (xs.map (·.data.toList)) sep.data.toList).length ≤ 140737488355328) :
    Calls Tryd.prog 157 #[.slice (some ⟨bk, o, none⟩) xs.length c, .string sep] w fun e w' => e = .returned (.string ⟨(Lib.join (xs.map (·.data.toList)) sep.data.toList).toArray⟩) ∧ Below w.heap.size w w' := Any.strings_Join Tryd.lays156 Tryd.Builder_Extra_156 bk o c xs sep w hcells hbk hN hcap hlen
def Tryd.laysM173_ren : Go.Shelf.Ren := ⟨fun | 173 => 141 | 246 => 167 | 283 => 181 | 284 => 182 | 285 => 183 | 286 => 184 | 129 => 192 | 317 => 191 | 318 => 193 | 319 => 194 | 320 => 195 | 337 => 197 | 338 => 198 | n => n, fun | 2 => 2 | 3 => 3 | 9 => 9 | 4 => 4 | 171 => 157 | 0 => 0 | 53 => 134 | 37 => 45 | 5 => 5 | 173 => 160 | 212 => 169 | 51 => 162 | 20 => 20 | 213 => 170 | 46 => 145 | 232 => 179 | 233 => 180 | n => n, fun | 17 => 1 | 18 => 4 | 19 => 5 | n => n⟩
theorem Tryd.laysM173 : Go.Proofs.LaysM.n173 Tryd.prog Tryd.laysM173_ren := {
  mixed := by kernel_rfl
  f129 := Tryd.func192.trans (congrArg some (by kernel_rfl))
  f173 := Tryd.func141.trans (congrArg some (by kernel_rfl))
  f246 := Tryd.func167.trans (congrArg some (by kernel_rfl))
  f283 := Tryd.func181.trans (congrArg some (by kernel_rfl))
  f284 := Tryd.func182.trans (congrArg some (by kernel_rfl))
  f285 := Tryd.func183.trans (congrArg some (by kernel_rfl))
  f286 := Tryd.func184.trans (congrArg some (by kernel_rfl))
  f317 := Tryd.func191.trans (congrArg some (by kernel_rfl))
  f318 := Tryd.func193.trans (congrArg some (by kernel_rfl))
  f319 := Tryd.func194.trans (congrArg some (by kernel_rfl))
  f320 := Tryd.func195.trans (congrArg some (by kernel_rfl))
  f337 := Tryd.func197.trans (congrArg some (by kernel_rfl))
  f338 := Tryd.func198.trans (congrArg some (by kernel_rfl))
  t0 := Tryd.underlying0
  a0 := Tryd.isAgg0
  z0 := Tryd.sizeOf0
  v0 := Tryd.zeroValue0
  t2 := Tryd.underlying2
  a2 := Tryd.isAgg2
  z2 := Tryd.sizeOf2
  v2 := Tryd.zeroValue2
  t3 := Tryd.underlying3
  a3 := Tryd.isAgg3
  z3 := Tryd.sizeOf3
  v3 := Tryd.zeroValue3
  t4 := Tryd.underlying4
  a4 := Tryd.isAgg4
  z4 := Tryd.sizeOf4
  v4 := Tryd.zeroValue4
  t5 := Tryd.underlying5
  a5 := Tryd.isAgg5
  z5 := Tryd.sizeOf5
  v5 := Tryd.zeroValue5
  t9 := Tryd.underlying9
  a9 := Tryd.isAgg9
  z9 := Tryd.sizeOf9
  v9 := Tryd.zeroValue9
  t20 := Tryd.underlying20
  a20 := Tryd.isAgg20
  z20 := Tryd.sizeOf20
  v20 := Tryd.zeroValue20
  t37 := Tryd.underlying45
  a37 := Tryd.isAgg45
  z37 := Tryd.sizeOf45
  v37 := Tryd.zeroValue45
  t46 := Tryd.underlying145
  a46 := Tryd.isAgg145
  z46 := Tryd.sizeOf145
  v46 := Tryd.zeroValue145
  t51 := Tryd.underlying162
  a51 := Tryd.isAgg162
  z51 := Tryd.sizeOf162
  v51 := Tryd.zeroValue162
  t53 := Tryd.underlying134
  a53 := Tryd.isAgg134
  z53 := Tryd.sizeOf134
  v53 := Tryd.zeroValue134
  t171 := Tryd.underlying157
  a171 := Tryd.isAgg157
  z171 := Tryd.sizeOf157
  v171 := Tryd.zeroValue157
  t173 := Tryd.underlying160
  a173 := Tryd.isAgg160
  z173 := Tryd.sizeOf160
  v173 := Tryd.zeroValue160
  t212 := Tryd.underlying169
  a212 := Tryd.isAgg169
  z212 := Tryd.sizeOf169
  v212 := Tryd.zeroValue169
  t213 := Tryd.underlying170
  a213 := Tryd.isAgg170
  z213 := Tryd.sizeOf170
  t232 := Tryd.underlying179
  a232 := Tryd.isAgg179
  z232 := Tryd.sizeOf179
  v232 := Tryd.zeroValue179
  t233 := Tryd.underlying180
  a233 := Tryd.isAgg180
  z233 := Tryd.sizeOf180
  v233 := Tryd.zeroValue180
  g17 := by kernel_rfl
  g18 := by kernel_rfl
  g19 := by kernel_rfl
  i0 := by kernel_rfl
  i2 := by kernel_rfl
  i3 := by kernel_rfl
  i4 := by kernel_rfl
  i5 := by kernel_rfl
  i9 := by kernel_rfl
  i20 := by kernel_rfl
  i37 := by kernel_rfl
  i46 := by kernel_rfl
  i51 := by kernel_rfl
  i53 := by kernel_rfl
  i171 := by kernel_rfl
  i173 := by kernel_rfl
  i212 := by kernel_rfl
  i232 := by kernel_rfl
  i233 := by kernel_rfl
  m17 := by kernel_rfl
  m18 := by kernel_rfl
  m19 := by kernel_rfl }
open Go.RowKit Go.Sort Go.Lib in theorem Tryd.strconv_FormatInt_10 (n : Int) (h0 : -9223372036854775808 ≤ n) (h1 : n ≤ 9223372036854775807) (w : World) (htab : Lib.TabIs Tryd.prog w "internal/strconv.uint64pow10" .u64 Lib.pow10Tab) :
    Calls Tryd.prog 141 #[.int .i64 n, .int .i64 10] w fun e w' => e = .returned (.string ⟨(Lib.itoa n).toArray⟩) ∧ ∃ k os, w' = grow (w.drewN k) os := Any.strconv_FormatInt_10 Tryd.laysM173 n h0 h1 w htab
def Tryd.lays144_ren : Go.Shelf.Ren := ⟨fun | 144 => 163 | 143 => 162 | 219 => 147 | 217 => 171 | 225 => 172 | 224 => 173 | 267 => 174 | 266 => 188 | 314 => 189 | n => n, fun | 9 => 9 | 4 => 4 | 3 => 3 | 5 => 5 | 46 => 145 | 146 => 163 | 51 => 162 | n => n, fun | 1 => 0 | n => n⟩
theorem Tryd.lays144 : Go.Proofs.Lays.n144 Tryd.prog Tryd.lays144_ren := {
  mixed := by kernel_rfl
  f143 := Tryd.func162.trans (congrArg some (by kernel_rfl))
  f144 := Tryd.func163.trans (congrArg some (by kernel_rfl))
  f217 := Tryd.func171.trans (congrArg some (by kernel_rfl))
  f219 := Tryd.func147.trans (congrArg some (by kernel_rfl))
  f224 := Tryd.func173.trans (congrArg some (by kernel_rfl))
  f225 := Tryd.func172.trans (congrArg some (by kernel_rfl))
  f266 := Tryd.func188.trans (congrArg some (by kernel_rfl))
  f267 := Tryd.func174.trans (congrArg some (by kernel_rfl))
  f314 := Tryd.func189.trans (congrArg some (by kernel_rfl))
  t3 := Tryd.underlying3
  a3 := Tryd.isAgg3
  z3 := Tryd.sizeOf3
  v3 := Tryd.zeroValue3
  t4 := Tryd.underlying4
  a4 := Tryd.isAgg4
  z4 := Tryd.sizeOf4
  v4 := Tryd.zeroValue4
  t5 := Tryd.underlying5
  a5 := Tryd.isAgg5
  z5 := Tryd.sizeOf5
  v5 := Tryd.zeroValue5
  t9 := Tryd.underlying9
  a9 := Tryd.isAgg9
  z9 := Tryd.sizeOf9
  v9 := Tryd.zeroValue9
  t46 := Tryd.underlying145
  a46 := Tryd.isAgg145
  z46 := Tryd.sizeOf145
  v46 := Tryd.zeroValue145
  t51 := Tryd.underlying162
  a51 := Tryd.isAgg162
  z51 := Tryd.sizeOf162
  v51 := Tryd.zeroValue162
  t146 := Tryd.underlying163
  a146 := Tryd.isAgg163
  z146 := Tryd.sizeOf163
  v146 := Tryd.zeroValue163
  g1 := by kernel_rfl }
open Go.RowKit Go.Lib in theorem Tryd.strings_Contains (s sub : ByteArray) (m : Int) (w : World) (hs : s.size < 4294967281) (hm : w.cell? ⟨0, 0, none⟩ = some (.int .i64 m)) :
    Calls Tryd.prog 163 #[.string s, .string sub] w fun e w' => e = .returned (.bool (Lib.contains s.data.toList sub.data.toList)) ∧ w' = w := Any.strings_Contains Tryd.lays144 s sub m w hs hm
def Tryd.lays145_ren : Go.Shelf.Ren := ⟨fun | 145 => 64 | 220 => 123 | 219 => 147 | 217 => 171 | 225 => 172 | 224 => 173 | 267 => 174 | 266 => 188 | 314 => 189 | n => n, fun | 9 => 9 | 4 => 4 | 59 => 64 | 3 => 3 | 5 => 5 | 46 => 145 | 146 => 163 | 51 => 162 | n => n, fun | 1 => 0 | n => n⟩
theorem Tryd.lays145 : Go.Proofs.Lays.n145 Tryd.prog Tryd.lays145_ren := {
  mixed := by kernel_rfl
  f145 := Tryd.func64.trans (congrArg some (by kernel_rfl))
  f217 := Tryd.func171.trans (congrArg some (by kernel_rfl))
  f219 := Tryd.func147.trans (congrArg some (by kernel_rfl))
  f220 := Tryd.func123.trans (congrArg some (by kernel_rfl))
  f224 := Tryd.func173.trans (congrArg some (by kernel_rfl))
  f225 := Tryd.func172.trans (congrArg some (by kernel_rfl))
  f266 := Tryd.func188.trans (congrArg some (by kernel_rfl))
  f267 := Tryd.func174.trans (congrArg some (by kernel_rfl))
  f314 := Tryd.func189.trans (congrArg some (by kernel_rfl))
  t3 := Tryd.underlying3
  a3 := Tryd.isAgg3
  z3 := Tryd.sizeOf3
  v3 := Tryd.zeroValue3
  t4 := Tryd.underlying4
  a4 := Tryd.isAgg4
  z4 := Tryd.sizeOf4
  v4 := Tryd.zeroValue4
  t5 := Tryd.underlying5
  a5 := Tryd.isAgg5
  z5 := Tryd.sizeOf5
  v5 := Tryd.zeroValue5
  t9 := Tryd.underlying9
  a9 := Tryd.isAgg9
  z9 := Tryd.sizeOf9
  v9 := Tryd.zeroValue9
  t46 := Tryd.underlying145
  a46 := Tryd.isAgg145
  z46 := Tryd.sizeOf145
  v46 := Tryd.zeroValue145
  t51 := Tryd.underlying162
  a51 := Tryd.isAgg162
  z51 := Tryd.sizeOf162
  v51 := Tryd.zeroValue162
  t59 := Tryd.underlying64
  a59 := Tryd.isAgg64
  z59 := Tryd.sizeOf64
  v59 := Tryd.zeroValue64
  t146 := Tryd.underlying163
  a146 := Tryd.isAgg163
  z146 := Tryd.sizeOf163
  v146 := Tryd.zeroValue163
  g1 := by kernel_rfl }
open Go.RowKit Go.Lib in theorem Tryd.strings_Cut (s sep : ByteArray) (m : Int) (w : World) (hs : s.size < 4294967281) (hm : w.cell? ⟨0, 0, none⟩ = some (.int .i64 m)) :
    Calls Tryd.prog 64 #[.string s, .string sep] w fun e w' => e = .returned (.tuple #[.string ⟨(Lib.cut s.data.toList sep.data.toList).1.toArray⟩, .string ⟨(Lib.cut s.data.toList sep.data.toList).2.1.toArray⟩, .bool (Lib.cut s.data.toList sep.data.toList).2.2]) ∧ ∃ n, w' = w.drewN n := Any.strings_Cut Tryd.lays145 s sep m w hs hm
def Tryd.lays99_ren : Go.Shelf.Ren := ⟨fun | 99 => 84 | 206 => 131 | n => n, fun | 9 => 9 | 4 => 4 | 3 => 3 | n => n, fun | n => n⟩
theorem Tryd.lays99 : Go.Proofs.Lays.n99 Tryd.prog Tryd.lays99_ren := {
  mixed := by kernel_rfl
  f99 := Tryd.func84.trans (congrArg some (by kernel_rfl))
  f206 := Tryd.func131.trans (congrArg some (by kernel_rfl))
  t3 := Tryd.underlying3
  a3 := Tryd.isAgg3
  z3 := Tryd.sizeOf3
  v3 := Tryd.zeroValue3
  t4 := Tryd.underlying4
  a4 := Tryd.isAgg4
  z4 := Tryd.sizeOf4
  v4 := Tryd.zeroValue4
  t9 := Tryd.underlying9
  a9 := Tryd.isAgg9
  z9 := Tryd.sizeOf9
  v9 := Tryd.zeroValue9 }
open Go.RowKit Go.Lib in theorem Tryd.strings_HasPrefix (s p : ByteArray) (w : World) :
    Calls Tryd.prog 84 #[.string s, .string p] w fun e w' => e = .returned (.bool (Lib.hasPrefix s.data.toList p.data.toList)) ∧ w' = w := Any.strings_HasPrefix Tryd.lays99 s p w
def Tryd.lays101_ren : Go.Shelf.Ren := ⟨fun | 101 => 83 | 208 => 130 | 206 => 131 | n => n, fun | 9 => 9 | 4 => 4 | 3 => 3 | n => n, fun | n => n⟩
theorem Tryd.lays101 : Go.Proofs.Lays.n101 Tryd.prog Tryd.lays101_ren := {
  mixed := by kernel_rfl
  f101 := Tryd.func83.trans (congrArg some (by kernel_rfl))
  f206 := Tryd.func131.trans (congrArg some (by kernel_rfl))
  f208 := Tryd.func130.trans (congrArg some (by kernel_rfl))
  t3 := Tryd.underlying3
  a3 := Tryd.isAgg3
  z3 := Tryd.sizeOf3
  v3 := Tryd.zeroValue3
  t4 := Tryd.underlying4
  a4 := Tryd.isAgg4
  z4 := Tryd.sizeOf4
  v4 := Tryd.zeroValue4
  t9 := Tryd.underlying9
  a9 := Tryd.isAgg9
  z9 := Tryd.sizeOf9
  v9 := Tryd.zeroValue9 }
open Go.RowKit Go.Lib in theorem Tryd.strings_TrimPrefix (s p : ByteArray) (w : World) :
    Calls Tryd.prog 83 #[.string s, .string p] w fun e w' => e = .returned (.string ⟨(Lib.trimPrefix s.data.toList p.data.toList).toArray⟩) ∧ w' = w := Any.strings_TrimPrefix Tryd.lays101 s p w
def Tryd.lays102_ren : Go.Shelf.Ren := ⟨fun | 102 => 85 | 209 => 132 | 207 => 158 | n => n, fun | 9 => 9 | 4 => 4 | 3 => 3 | n => n, fun | n => n⟩
theorem Tryd.lays102 : Go.Proofs.Lays.n102 Tryd.prog Tryd.lays102_ren := {
  mixed := by kernel_rfl
  f102 := Tryd.func85.trans (congrArg some (by kernel_rfl))
  f207 := Tryd.func158.trans (congrArg some (by kernel_rfl))
  f209 := Tryd.func132.trans (congrArg some (by kernel_rfl))
  t3 := Tryd.underlying3
  a3 := Tryd.isAgg3
  z3 := Tryd.sizeOf3
  v3 := Tryd.zeroValue3
  t4 := Tryd.underlying4
  a4 := Tryd.isAgg4
  z4 := Tryd.sizeOf4
  v4 := Tryd.zeroValue4
  t9 := Tryd.underlying9
  a9 := Tryd.isAgg9
  z9 := Tryd.sizeOf9
  v9 := Tryd.zeroValue9 }
open Go.RowKit Go.Lib in theorem Tryd.strings_TrimSuffix (s p : ByteArray) (w : World) (hs : s.size ≤ 9223372036854775807) :
    Calls Tryd.prog 85 #[.string s, .string p] w fun e w' => e = .returned (.string ⟨(Lib.trimSuffix s.data.toList p.data.toList).toArray⟩) ∧ w' = w := Any.strings_TrimSuffix Tryd.lays102 s p w hs
def Tryd.lays146_ren : Go.Shelf.Ren := ⟨fun | 146 => 87 | 221 => 134 | 268 => 160 | 138 => 161 | 143 => 162 | 195 => 177 | 197 => 178 | 218 => 179 | 219 => 147 | 260 => 190 | 217 => 171 | 225 => 172 | 224 => 173 | 267 => 174 | 266 => 188 | 314 => 189 | n => n, fun | 9 => 9 | 31 => 67 | 3 => 3 | 4 => 4 | 0 => 0 | 105 => 154 | 21 => 21 | 5 => 5 | 46 => 145 | 119 => 174 | 139 => 177 | 138 => 176 | 146 => 163 | 51 => 162 | n => n, fun | 1 => 0 | 3 => 2 | 4 => 3 | n => n⟩
theorem Tryd.lays146 : Go.Proofs.Lays.n146 Tryd.prog Tryd.lays146_ren := {
  mixed := by kernel_rfl
  f138 := Tryd.func161.trans (congrArg some (by kernel_rfl))
  f143 := Tryd.func162.trans (congrArg some (by kernel_rfl))
  f146 := Tryd.func87.trans (congrArg some (by kernel_rfl))
  f195 := Tryd.func177.trans (congrArg some (by kernel_rfl))
  f197 := Tryd.func178.trans (congrArg some (by kernel_rfl))
  f217 := Tryd.func171.trans (congrArg some (by kernel_rfl))
  f218 := Tryd.func179.trans (congrArg some (by kernel_rfl))
  f219 := Tryd.func147.trans (congrArg some (by kernel_rfl))
  f221 := Tryd.func134.trans (congrArg some (by kernel_rfl))
  f224 := Tryd.func173.trans (congrArg some (by kernel_rfl))
  f225 := Tryd.func172.trans (congrArg some (by kernel_rfl))
  f260 := Tryd.func190.trans (congrArg some (by kernel_rfl))
  f266 := Tryd.func188.trans (congrArg some (by kernel_rfl))
  f267 := Tryd.func174.trans (congrArg some (by kernel_rfl))
  f268 := Tryd.func160.trans (congrArg some (by kernel_rfl))
  f314 := Tryd.func189.trans (congrArg some (by kernel_rfl))
  t0 := Tryd.underlying0
  a0 := Tryd.isAgg0
  z0 := Tryd.sizeOf0
  v0 := Tryd.zeroValue0
  t3 := Tryd.underlying3
  a3 := Tryd.isAgg3
  z3 := Tryd.sizeOf3
  v3 := Tryd.zeroValue3
  t4 := Tryd.underlying4
  a4 := Tryd.isAgg4
  z4 := Tryd.sizeOf4
  v4 := Tryd.zeroValue4
  t5 := Tryd.underlying5
  a5 := Tryd.isAgg5
  z5 := Tryd.sizeOf5
  v5 := Tryd.zeroValue5
  t9 := Tryd.underlying9
  a9 := Tryd.isAgg9
  z9 := Tryd.sizeOf9
  v9 := Tryd.zeroValue9
  t21 := Tryd.underlying21
  a21 := Tryd.isAgg21
  z21 := Tryd.sizeOf21
  v21 := Tryd.zeroValue21
  t31 := Tryd.underlying67
  a31 := Tryd.isAgg67
  z31 := Tryd.sizeOf67
  v31 := Tryd.zeroValue67
  t46 := Tryd.underlying145
  a46 := Tryd.isAgg145
  z46 := Tryd.sizeOf145
  v46 := Tryd.zeroValue145
  t51 := Tryd.underlying162
  a51 := Tryd.isAgg162
  z51 := Tryd.sizeOf162
  v51 := Tryd.zeroValue162
  t105 := Tryd.underlying154
  a105 := Tryd.isAgg154
  z105 := Tryd.sizeOf154
  v105 := Tryd.zeroValue154
  t119 := Tryd.underlying174
  a119 := Tryd.isAgg174
  z119 := Tryd.sizeOf174
  t138 := Tryd.underlying176
  a138 := Tryd.isAgg176
  z138 := Tryd.sizeOf176
  v138 := Tryd.zeroValue176
  t139 := Tryd.underlying177
  a139 := Tryd.isAgg177
  z139 := Tryd.sizeOf177
  v139 := Tryd.zeroValue177
  t146 := Tryd.underlying163
  a146 := Tryd.isAgg163
  z146 := Tryd.sizeOf163
  v146 := Tryd.zeroValue163
  g1 := by kernel_rfl
  g3 := by kernel_rfl
  g4 := by kernel_rfl }
open Go.RowKit Go.Lib in theorem Tryd.strings_Split (s sep : ByteArray) (m : Int) (w : World) (hs : s.size < 4294967281) (hm : w.cell? ⟨0, 0, none⟩ = some (.int .i64 m)) (h1 : 1 ≤ sep.size) :
    Calls Tryd.prog 87 #[.string s, .string sep] w fun e w' =>
      e = .returned (.slice (some ⟨w.heap.size, 0, none⟩) (Lib.countB s sep + 1) (Lib.countB s sep + 1)) ∧ w' = w.alloc (.cells ((Lib.splitB sep 0 (Lib.countB s sep) s).map Value.string).toArray 9) := Any.strings_Split Tryd.lays146 (by kernel_rfl) s sep m w hs hm h1
def Tryd.lays105_ren : Go.Shelf.Ren := ⟨fun | 105 => 143 | 212 => 168 | 99 => 84 | 165 => 169 | 166 => 93 | 170 => 170 | 169 => 97 | 263 => 185 | 264 => 186 | 206 => 131 | 240 => 140 | 241 => 187 | 276 => 166 | 277 => 196 | n => n, fun | 9 => 9 | 3 => 3 | 4 => 4 | 20 => 20 | 0 => 0 | 46 => 145 | 109 => 146 | 5 => 5 | 72 => 95 | 76 => 98 | 51 => 162 | 146 => 163 | 53 => 134 | 148 => 165 | 70 => 93 | 37 => 45 | 75 => 97 | 127 => 133 | 164 => 143 | 80 => 102 | n => n, fun | n => n⟩
theorem Tryd.lays105 : Go.Proofs.Lays.n105 Tryd.prog Tryd.lays105_ren := {
  mixed := by kernel_rfl
  f99 := Tryd.func84.trans (congrArg some (by kernel_rfl))
  f105 := Tryd.func143.trans (congrArg some (by kernel_rfl))
  f165 := Tryd.func169.trans (congrArg some (by kernel_rfl))
  f166 := Tryd.func93.trans (congrArg some (by kernel_rfl))
  f169 := Tryd.func97.trans (congrArg some (by kernel_rfl))
  f170 := Tryd.func170.trans (congrArg some (by kernel_rfl))
  f206 := Tryd.func131.trans (congrArg some (by kernel_rfl))
  f212 := Tryd.func168.trans (congrArg some (by kernel_rfl))
  f240 := Tryd.func140.trans (congrArg some (by kernel_rfl))
  f241 := Tryd.func187.trans (congrArg some (by kernel_rfl))
  f263 := Tryd.func185.trans (congrArg some (by kernel_rfl))
  f264 := Tryd.func186.trans (congrArg some (by kernel_rfl))
  f276 := Tryd.func166.trans (congrArg some (by kernel_rfl))
  f277 := Tryd.func196.trans (congrArg some (by kernel_rfl))
  t0 := Tryd.underlying0
  a0 := Tryd.isAgg0
  z0 := Tryd.sizeOf0
  v0 := Tryd.zeroValue0
  t3 := Tryd.underlying3
  a3 := Tryd.isAgg3
  z3 := Tryd.sizeOf3
  v3 := Tryd.zeroValue3
  t4 := Tryd.underlying4
  a4 := Tryd.isAgg4
  z4 := Tryd.sizeOf4
  v4 := Tryd.zeroValue4
  t5 := Tryd.underlying5
  a5 := Tryd.isAgg5
  z5 := Tryd.sizeOf5
  v5 := Tryd.zeroValue5
  t9 := Tryd.underlying9
  a9 := Tryd.isAgg9
  z9 := Tryd.sizeOf9
  v9 := Tryd.zeroValue9
  t20 := Tryd.underlying20
  a20 := Tryd.isAgg20
  z20 := Tryd.sizeOf20
  v20 := Tryd.zeroValue20
  t37 := Tryd.underlying45
  a37 := Tryd.isAgg45
  z37 := Tryd.sizeOf45
  v37 := Tryd.zeroValue45
  t46 := Tryd.underlying145
  a46 := Tryd.isAgg145
  z46 := Tryd.sizeOf145
  v46 := Tryd.zeroValue145
  t51 := Tryd.underlying162
  a51 := Tryd.isAgg162
  z51 := Tryd.sizeOf162
  v51 := Tryd.zeroValue162
  t53 := Tryd.underlying134
  a53 := Tryd.isAgg134
  z53 := Tryd.sizeOf134
  v53 := Tryd.zeroValue134
  t70 := Tryd.underlying93
  a70 := Tryd.isAgg93
  z70 := Tryd.sizeOf93
  v70 := Tryd.zeroValue93
  t72 := Tryd.underlying95
  a72 := Tryd.isAgg95
  z72 := Tryd.sizeOf95
  v72 := Tryd.zeroValue95
  t75 := Tryd.underlying97
  a75 := Tryd.isAgg97
  z75 := Tryd.sizeOf97
  v75 := Tryd.zeroValue97
  t76 := Tryd.underlying98
  a76 := Tryd.isAgg98
  z76 := Tryd.sizeOf98
  v76 := Tryd.zeroValue98
  t109 := Tryd.underlying146
  a109 := Tryd.isAgg146
  z109 := Tryd.sizeOf146
  v109 := Tryd.zeroValue146
  t127 := Tryd.underlying133
  a127 := Tryd.isAgg133
  z127 := Tryd.sizeOf133
  v127 := Tryd.zeroValue133
  t146 := Tryd.underlying163
  a146 := Tryd.isAgg163
  z146 := Tryd.sizeOf163
  v146 := Tryd.zeroValue163
  t148 := Tryd.underlying165
  a148 := Tryd.isAgg165
  z148 := Tryd.sizeOf165
  v148 := Tryd.zeroValue165
  t164 := Tryd.underlying143
  a164 := Tryd.isAgg143
  z164 := Tryd.sizeOf143
  v164 := Tryd.zeroValue143 }
theorem Tryd.Builder_Extra_105 : Builder.Extra Tryd.prog Tryd.lays105_ren := {
  sizeBuilder := by kernel_rfl
  liesBuilder := by kernel_rfl
  t5 := Tryd.underlying5
  a5 := Tryd.isAgg5
  z5 := Tryd.sizeOf5
  v5 := Tryd.zeroValue5
  infoByte := by kernel_rfl
  cellsByte := by kernel_rfl
  sizeByte := by kernel_rfl
  neB5 := by decide }
open Go.RowKit Go.Lib in theorem Tryd.strings_Repeat (s : ByteArray) (c : Nat) (w : World) (hc : c ≤ 9223372036854775807) (hlen : s.size * c ≤ 140737488355328) :
    Calls Tryd.prog 143 #[.string s, .int .i64 c] w fun e w' => e = .returned (.string ⟨(Lib.repeatL s.data.toList c).toArray⟩) ∧ Below w.heap.size w w' := Any.strings_Repeat Tryd.lays105 Tryd.Builder_Extra_105 s c w hc hlen
end Go.Proofs

/- Function 87 (strings.Split): its contract, off what is known of the library. -/
set_option linter.unusedVariables false
set_option linter.unusedSimpArgs false
set_option maxRecDepth 100000
namespace Go.Proofs.YtakodkjcmacofaaDoor
open Go Go.Am Go.Proofs

def sig87 : List AT := [AT.v Ty.str, AT.v Ty.str]
def g87_0 (x0 x1 : ByteArray) : List ByteArray := Lib.splitB x1 0 (Lib.countB x0 x1) x0
def P87 (x0 x1 : ByteArray) : Prop := x0.size < 4294967281 ∧ 1 ≤ x1.size
def S87 : Am.Spec := { sig := sig87, pre := fun ⟨x0, x1, _⟩ => P87 x0 x1, res := fun ⟨x0, x1, _⟩ => [⟨Ty.sl Ty.str, g87_0 x0 x1⟩] }

theorem con87 : Contract Tryd.prog 87 S87 := by
  rintro w ⟨x0, x1, u⟩ vs bss hgo hp ⟨v0, s0, b0, bs0, rfl, rfl, ⟨rfl, rfl, _⟩, v1, s1, b1, bs1, rfl, rfl, ⟨rfl, rfl, _⟩, rfl, rfl⟩ hn
  obtain ⟨hs, h1⟩ : x0.size < 4294967281 ∧ 1 ≤ x1.size := hp
  obtain ⟨m, hm⟩ := maxLenG hgo.inv
  refine (Tryd.strings_Split x0 x1 m w hs hm h1).mono ?_
  rintro e w' ⟨rfl, rfl⟩
  have hlen : (g87_0 x0 x1).length = Lib.countB x0 x1 + 1 := Lib.splitB_all x1 h1 0 _ _ rfl
  have hle := Lib.countB_le x1 h1 x0.size x0 (Nat.le_refl _)
  have hparts : ∀ y ∈ g87_0 x0 x1, y.size ≤ maxLen := fun y hy => by
    have := splitB_part x1 0 _ _ y hy
    unfold maxLen; omega
  have e1 : ∀ xs : List ByteArray, fcs .str xs = xs.map Value.string := by
    intro xs
    induction xs with
    | nil => rfl
    | cons a r ih => unfold fcs at ih ⊢; rw [List.map_cons, List.flatten_cons, ih]; rfl
  have ho : OwnC (w.alloc (.cells ((g87_0 x0 x1).map Value.string).toArray 9)) (.sl .str) (g87_0 x0 x1) [.slice (some ⟨w.heap.size, 0, none⟩) (Lib.countB x0 x1 + 1) (Lib.countB x0 x1 + 1)] [w.heap.size] :=
    own_flat_mk rfl hparts hlen.symm (Nat.le_of_eq hlen) (by unfold maxLen; omega) (by rw [List.size_toArray, List.length_map, hlen]; simp [Ty.size]) (heap_new w _) (freeS_zero _ _) (fun j u hj => by
      rw [e1] at hj
      rw [Nat.zero_add, ← Array.getElem?_toList]
      exact hj)
  refine ⟨[_], [], [[w.heap.size]], rfl, (Kept.refl _ _).alloc _, ⟨_, _, _, _, _, rfl, rfl, ho, rfl, rfl, rfl⟩, ⟨rfl, rfl⟩, by simp, fun b hb hg => ?_⟩
  simp at hb
  have := hg.1
  omega

end Go.Proofs.YtakodkjcmacofaaDoor

/- Function 120 (impl.endedLines): its runs between cut points. Written by a program of this repo (gen). -/
set_option linter.unusedVariables false
set_option linter.unusedSimpArgs false
set_option maxRecDepth 100000
namespace Go.Proofs.YtakodkjcmacofaaDoor
open Go Go.Am Go.Proofs
def ext120 : Ext := [(87, S87)]
theorem call120_87 : Callable Tryd.prog 87 := ⟨Tryd.f87, Tryd.func87, by kernel_rfl, by kernel_rfl⟩
theorem ext120Ok : ExtOk Tryd.prog ext120 := ⟨⟨call120_87, con87⟩, trivial⟩
/-! Function 120. -/
noncomputable def b120 : Code := bodyOf Tryd.f120
theorem hb120 : Tryd.f120.body = some b120 := by kernel_rfl
def sig120 : List AT := [AT.v (Ty.str)]
def tys120 : List Ty := [Ty.sl Ty.str, Ty.str]
def P120 (x0 : ByteArray) : Prop := ((P87 x0 (ByteArray.mk #[10])) ∧ ((InR IntKind.i64 ((↑(List.length (g87_0 x0 (ByteArray.mk #[10]))) : Int) - 1)) ∧ ((0 ≤ (↑(List.length (g87_0 x0 (ByteArray.mk #[10]))) : Int) - 1) ∧ ((↑(List.length (g87_0 x0 (ByteArray.mk #[10]))) : Int) - 1 ≤ (↑(List.length (g87_0 x0 (ByteArray.mk #[10])) - 0) : Int)) ∧ ((0 ≤ (↑(List.length (g87_0 x0 (ByteArray.mk #[10]))) : Int) - 1) ∧ ((↑(List.length (g87_0 x0 (ByteArray.mk #[10]))) : Int) - 1 < (↑(List.length (g87_0 x0 (ByteArray.mk #[10]))) : Int)) ∧ True))))
def g120_0 (x0 : ByteArray) : List ByteArray := List.drop 0 (List.take (0 + Int.toNat ((↑(List.length (g87_0 x0 (ByteArray.mk #[10]))) : Int) - 1)) (g87_0 x0 (ByteArray.mk #[10])))
def g120_1 (x0 : ByteArray) : ByteArray := List.getD (g87_0 x0 (ByteArray.mk #[10])) (Int.toNat ((↑(List.length (g87_0 x0 (ByteArray.mk #[10]))) : Int) - 1)) ByteArray.empty
theorem p120_0 (x0 : ByteArray) : runF tab ext120 false 18 [] 2000 [] tys120 Tryd.f120.results [] [.code b120] (entE 0 0 sig120 (x0, ())) (entL sig120 (x0, ())) = some ([Dyn.mk (Ty.sl Ty.str) (List.drop 0 (List.take (0 + Int.toNat ((↑(List.length (g87_0 x0 (ByteArray.mk #[10]))) : Int) - 1)) (g87_0 x0 (ByteArray.mk #[10])))), Dyn.mk Ty.str (List.getD (g87_0 x0 (ByteArray.mk #[10])) (Int.toNat ((↑(List.length (g87_0 x0 (ByteArray.mk #[10]))) : Int) - 1)) ByteArray.empty)], [], [P87 x0 (ByteArray.mk #[10]), InR IntKind.i64 ((↑(List.length (g87_0 x0 (ByteArray.mk #[10]))) : Int) - 1), 0 ≤ (↑(List.length (g87_0 x0 (ByteArray.mk #[10]))) : Int) - 1, (↑(List.length (g87_0 x0 (ByteArray.mk #[10]))) : Int) - 1 ≤ (↑(List.length (g87_0 x0 (ByteArray.mk #[10])) - 0) : Int), 0 ≤ (↑(List.length (g87_0 x0 (ByteArray.mk #[10]))) : Int) - 1, (↑(List.length (g87_0 x0 (ByteArray.mk #[10]))) : Int) - 1 < (↑(List.length (g87_0 x0 (ByteArray.mk #[10]))) : Int)]) := by kernel_rfl
theorem at120 (x0 : ByteArray) (h : P120 x0) (w0 : World) (O : List Nat) (q : Nat → Value) : AtV Tryd.prog 120 (PostR [⟨Ty.sl Ty.str, g120_0 x0⟩, ⟨Ty.str, g120_1 x0⟩] [] [] q w0 O) 18 w0 O q [] [.code b120] (entE 0 0 sig120 (x0, ())) (entL sig120 (x0, ())) := by
  unfold P120 at h
  unfold g120_0 g120_1
  obtain ⟨s0, h⟩ := h
  obtain ⟨s1, h⟩ := h
  obtain ⟨s2, s3, h⟩ := h
  obtain ⟨s4, s5, h⟩ := h
  exact AtV.fin Tryd.func120 tabOk ext120Ok mixed (p120_0 x0) ⟨s0, s1, s2, s3, s4, s5, trivial⟩

def S120 : Am.Spec := { sig := sig120, pre := fun ⟨x0, _⟩ => P120 x0, res := fun ⟨x0, _⟩ => [⟨Ty.sl Ty.str, g120_0 x0⟩, ⟨Ty.str, g120_1 x0⟩] }
theorem con120 : Contract Tryd.prog 120 S120 := contract_of Tryd.func120 hb120 (Nat.le_of_ble_eq_true (by kernel_rfl)) (fun ⟨x0, _⟩ h _ w0 O q => at120 x0 h w0 O q)


end Go.Proofs.YtakodkjcmacofaaDoor

/- Function 64 (strings.Cut): its contract, off what is known of the library. -/
set_option linter.unusedVariables false
set_option linter.unusedSimpArgs false
set_option maxRecDepth 100000
namespace Go.Proofs.YtakodkjcmacofaaDoor
open Go Go.Am Go.Proofs

def sig64 : List AT := [AT.v Ty.str, AT.v Ty.str]
def g64_0 (x0 x1 : ByteArray) : ByteArray := ⟨(Lib.cut x0.data.toList x1.data.toList).1.toArray⟩
def g64_1 (x0 x1 : ByteArray) : ByteArray := ⟨(Lib.cut x0.data.toList x1.data.toList).2.1.toArray⟩
def g64_2 (x0 x1 : ByteArray) : Bool := (Lib.cut x0.data.toList x1.data.toList).2.2
def P64 (x0 x1 : ByteArray) : Prop := x0.size < 4294967281
def S64 : Am.Spec := { sig := sig64, pre := fun ⟨x0, x1, _⟩ => P64 x0 x1, res := fun ⟨x0, x1, _⟩ => [⟨Ty.str, g64_0 x0 x1⟩, ⟨Ty.str, g64_1 x0 x1⟩, ⟨Ty.bool, g64_2 x0 x1⟩] }
theorem cutLen64 (s sep : List UInt8) : (Lib.cut s sep).1.length ≤ s.length ∧ (Lib.cut s sep).2.1.length ≤ s.length := by
  unfold Lib.cut
  split
  · exact ⟨by simp; omega, by simp⟩
  · exact ⟨Nat.le_refl _, Nat.zero_le _⟩
theorem con64 : Contract Tryd.prog 64 S64 := contract_flat rfl fun w ⟨x0, x1, _⟩ vs bss hg hp hw ha => by
  obtain ⟨v0, s0, _, _, rfl, _, ⟨_, rfl, _⟩, v1, s1, _, _, rfl, _, ⟨_, rfl, _⟩, rfl, _⟩ := ha
  have hp : x0.size < 4294967281 := hp
  obtain ⟨l1, l2⟩ := cutLen64 x0.data.toList x1.data.toList
  have e : x0.data.toList.length = x0.size := rfl
  refine ⟨fun d hd => ?_, ?_⟩
  · simp only [S64, List.mem_cons, List.mem_nil_iff, or_false] at hd
    rcases hd with rfl | rfl | rfl
    · refine ⟨rfl, ?_⟩
      show (List.toArray _).size ≤ maxLen
      rw [List.size_toArray]; unfold maxLen; omega
    · refine ⟨rfl, ?_⟩
      show (List.toArray _).size ≤ maxLen
      rw [List.size_toArray]; unfold maxLen; omega
    · exact ⟨rfl, trivial⟩
  · obtain ⟨m, hm⟩ := maxLenG hg
    refine (Tryd.strings_Cut x0 x1 m w hp hm).mono ?_
    rintro e w' ⟨rfl, n, rfl⟩
    exact ⟨rfl, ⟨rfl, rfl, rfl, Nat.le_refl _, fun _ _ _ => rfl⟩⟩

end Go.Proofs.YtakodkjcmacofaaDoor

/- Function 102 (impl.within): its runs between cut points. Written by a program of this repo (gen). -/
set_option linter.unusedVariables false
set_option linter.unusedSimpArgs false
set_option maxRecDepth 100000
namespace Go.Proofs.YtakodkjcmacofaaDoor
open Go Go.Am Go.Proofs
def ext102 : Ext := []
theorem ext102Ok : ExtOk Tryd.prog ext102 := trivial
/-! Function 102. -/
noncomputable def b102 : Code := bodyOf Tryd.f102
theorem hb102 : Tryd.f102.body = some b102 := by kernel_rfl
def sig102 : List AT := [AT.v (Ty.int IntKind.i64), AT.v (Ty.int IntKind.i64), AT.v (Ty.int IntKind.i64)]
def tys102 : List Ty := [Ty.bool]
def P102 (x0 : Int) (x1 : Int) (x2 : Int) : Prop := True
def g102_0 (x0 : Int) (x1 : Int) (x2 : Int) : Bool := (if (Decidable.decide (x0 ≥ x1)) = true then Decidable.decide (x0 ≤ x2) else Bool.false)
theorem p102_0 (x0 : Int) (x1 : Int) (x2 : Int) : runF tab ext102 false 15 [] 2000 [] tys102 Tryd.f102.results [true] [.code b102] (entE 0 0 sig102 (x0, x1, x2, ())) (entL sig102 (x0, x1, x2, ())) = some ([Dyn.mk Ty.bool (Decidable.decide (x0 ≤ x2))], [], [Decidable.decide (x0 ≥ x1) = Bool.true]) := by kernel_rfl
theorem p102_1 (x0 : Int) (x1 : Int) (x2 : Int) : runF tab ext102 false 15 [] 2000 [] tys102 Tryd.f102.results [false] [.code b102] (entE 0 0 sig102 (x0, x1, x2, ())) (entL sig102 (x0, x1, x2, ())) = some ([Dyn.mk Ty.bool Bool.false], [], [Decidable.decide (x0 ≥ x1) = Bool.false]) := by kernel_rfl
theorem at102 (x0 : Int) (x1 : Int) (x2 : Int) (h : P102 x0 x1 x2) (w0 : World) (O : List Nat) (q : Nat → Value) : AtV Tryd.prog 102 (PostR [⟨Ty.bool, g102_0 x0 x1 x2⟩] [] [] q w0 O) 15 w0 O q [] [.code b102] (entE 0 0 sig102 (x0, x1, x2, ())) (entL sig102 (x0, x1, x2, ())) := by
  unfold P102 at h
  unfold g102_0
  by_cases b0 : (Decidable.decide (x0 ≥ x1)) = true
  · try simp only [if_pos b0] at h ⊢
    exact AtV.fin Tryd.func102 tabOk ext102Ok mixed (p102_0 x0 x1 x2) ⟨b0, trivial⟩
  · try simp only [if_neg b0] at h ⊢
    replace b0 := Bool.eq_false_iff.2 b0
    exact AtV.fin Tryd.func102 tabOk ext102Ok mixed (p102_1 x0 x1 x2) ⟨b0, trivial⟩

def S102 : Am.Spec := { sig := sig102, pre := fun ⟨x0, x1, x2, _⟩ => P102 x0 x1 x2, res := fun ⟨x0, x1, x2, _⟩ => [⟨Ty.bool, g102_0 x0 x1 x2⟩] }
theorem con102 : Contract Tryd.prog 102 S102 := contract_of Tryd.func102 hb102 (Nat.le_of_ble_eq_true (by kernel_rfl)) (fun ⟨x0, x1, x2, _⟩ h _ w0 O q => at102 x0 x1 x2 h w0 O q)


end Go.Proofs.YtakodkjcmacofaaDoor

/- Function 142 (impl.Crc16): its runs between cut points. Written by a program of this repo (gen). -/
set_option linter.unusedVariables false
set_option linter.unusedSimpArgs false
set_option maxRecDepth 100000
namespace Go.Proofs.YtakodkjcmacofaaDoor
open Go Go.Am Go.Proofs
def ext142 : Ext := [(102, S102)]
theorem call142_102 : Callable Tryd.prog 102 := ⟨Tryd.f102, Tryd.func102, by kernel_rfl, by kernel_rfl⟩
theorem ext142Ok : ExtOk Tryd.prog ext142 := ⟨⟨call142_102, con102⟩, trivial⟩
/-! Function 142. -/
noncomputable def b142 : Code := bodyOf Tryd.f142
theorem hb142 : Tryd.f142.body = some b142 := by kernel_rfl
def sig142 : List AT := [AT.v (Ty.str), AT.v (Ty.int IntKind.i64)]
def tys142 : List Ty := [Ty.int IntKind.i64]
def E142_5 (v15 : Int) (x1 : Int) (x0 : ByteArray) : Env := [(5, PV.a (Atom.val (Value.int IntKind.i64 x1))), (13, PV.a (Atom.osl 0 Option.none)), (14, PV.a (Atom.val (Value.int IntKind.i64 (↑(List.length (bytesOf x0)) : Int)))), (15, PV.a (Atom.val (Value.int IntKind.i64 v15)))]
def L142_5 (v15 : Int) (x1 : Int) (x0 : ByteArray) : Heap := [Option.some (Arr.mk (Ty.int IntKind.u8) (bytesOf x0) Bool.false)]
def E142_9 (v5 : Int) (v24 : Int) (x0 : ByteArray) (v15 : Int) : Env := [(5, PV.a (Atom.val (Value.int IntKind.i64 v5))), (13, PV.a (Atom.osl 0 Option.none)), (14, PV.a (Atom.val (Value.int IntKind.i64 (↑(List.length (bytesOf x0)) : Int)))), (15, PV.a (Atom.val (Value.int IntKind.i64 v15))), (24, PV.a (Atom.val (Value.int IntKind.i64 v24)))]
def L142_9 (v5 : Int) (v24 : Int) (x0 : ByteArray) (v15 : Int) : Heap := [Option.some (Arr.mk (Ty.int IntKind.u8) (bytesOf x0) Bool.false)]
mutual
def R142 : Nat → ByteArray → Int → List Dyn → Prop
  | 0, _, _, _ => False
  | n + 1, x0, x1, ds => (if (!g102_0 x1 0 65535) = true then (ds = [Dyn.mk (Ty.int IntKind.i64) 0]) else (R142_5 n (0) (x1) (x0) ds))
def R142_5 : Nat → Int → Int → ByteArray → List Dyn → Prop
  | 0, _, _, _, _ => False
  | n + 1, v15, x1, x0, ds => (if (Decidable.decide (v15 < (↑(List.length (bytesOf x0)) : Int))) = true then ((0 ≤ v15) ∧ (v15 < (↑(List.length (bytesOf x0)) : Int)) ∧ ((InR IntKind.i64 (List.getD (bytesOf x0) (Int.toNat v15) 0)) ∧ (R142_9 n (IntKind.wrap IntKind.i64 (↑(BitVec.toNat (BitVec.ofInt 64 x1 ^^^ BitVec.ofInt 64 (IntKind.wrap IntKind.i64 (List.getD (bytesOf x0) (Int.toNat v15) 0 * 256)))) : Int)) (0) (x0) (v15) ds))) else (ds = [Dyn.mk (Ty.int IntKind.i64) x1]))
def R142_9 : Nat → Int → Int → ByteArray → Int → List Dyn → Prop
  | 0, _, _, _, _, _ => False
  | n + 1, v5, v24, x0, v15, ds => (if (Decidable.decide (v24 < 8)) = true then (if (Decidable.decide (IntKind.wrap IntKind.i64 (v5 * 2) > 65535)) = true then ((InR IntKind.i64 (v24 + 1)) ∧ (R142_9 n (IntKind.wrap IntKind.i64 (↑(BitVec.toNat (BitVec.ofInt 64 (IntKind.wrap IntKind.i64 (↑(BitVec.toNat (BitVec.ofInt 64 (IntKind.wrap IntKind.i64 (v5 * 2)) &&& BitVec.ofInt 64 65535)) : Int)) ^^^ BitVec.ofInt 64 4129)) : Int)) (v24 + 1) (x0) (v15) ds)) else ((InR IntKind.i64 (v24 + 1)) ∧ (R142_9 n (IntKind.wrap IntKind.i64 (v5 * 2)) (v24 + 1) (x0) (v15) ds))) else ((InR IntKind.i64 (v15 + 1)) ∧ (R142_5 n (v15 + 1) (v5) (x0) ds)))
end
theorem p142_0 (x0 : ByteArray) (x1 : Int) : runF tab ext142 false 36 [] 2000 [] tys142 Tryd.f142.results [true] [.code b142] (entE 0 0 sig142 (x0, x1, ())) (entL sig142 (x0, x1, ())) = some ([Dyn.mk (Ty.int IntKind.i64) 0], [], [True, (!g102_0 x1 0 65535) = Bool.true]) := by kernel_rfl
theorem p142_1 (x0 : ByteArray) (x1 : Int) : Am.runN tab ext142 false 36 [] 2000 [] [] [5, 13, 14, 15] [0] [false] [.code b142] (entE 0 0 sig142 (x0, x1, ())) (entL sig142 (x0, x1, ())) = some (cutAt b142 5, E142_5 (0) (x1) (x0), L142_5 (0) (x1) (x0), [True, (!g102_0 x1 0 65535) = Bool.false]) := by kernel_rfl
theorem p142_2 (v15 : Int) (x1 : Int) (x0 : ByteArray) : Am.runN tab ext142 false 36 [] 2000 [] [] [5, 13, 14, 15, 24] [0] [true] (cutAt b142 5) (E142_5 v15 x1 x0) (L142_5 v15 x1 x0) = some (cutAt b142 9, E142_9 (IntKind.wrap IntKind.i64 (↑(BitVec.toNat (BitVec.ofInt 64 x1 ^^^ BitVec.ofInt 64 (IntKind.wrap IntKind.i64 (List.getD (bytesOf x0) (Int.toNat v15) 0 * 256)))) : Int)) (0) (x0) (v15), L142_9 (IntKind.wrap IntKind.i64 (↑(BitVec.toNat (BitVec.ofInt 64 x1 ^^^ BitVec.ofInt 64 (IntKind.wrap IntKind.i64 (List.getD (bytesOf x0) (Int.toNat v15) 0 * 256)))) : Int)) (0) (x0) (v15), [Decidable.decide (v15 < (↑(List.length (bytesOf x0)) : Int)) = Bool.true, 0 ≤ v15, v15 < (↑(List.length (bytesOf x0)) : Int), InR IntKind.i64 (List.getD (bytesOf x0) (Int.toNat v15) 0), (0 : Int) ≤ (8 : Int)]) := by kernel_rfl
theorem p142_3 (v15 : Int) (x1 : Int) (x0 : ByteArray) : runF tab ext142 false 36 [] 2000 [] tys142 Tryd.f142.results [false] (cutAt b142 5) (E142_5 v15 x1 x0) (L142_5 v15 x1 x0) = some ([Dyn.mk (Ty.int IntKind.i64) x1], [], [Decidable.decide (v15 < (↑(List.length (bytesOf x0)) : Int)) = Bool.false]) := by kernel_rfl
theorem p142_4 (v5 : Int) (v24 : Int) (x0 : ByteArray) (v15 : Int) : Am.runN tab ext142 false 36 [] 2000 [] [] [5, 13, 14, 15, 24] [0] [true, true] (cutAt b142 9) (E142_9 v5 v24 x0 v15) (L142_9 v5 v24 x0 v15) = some (cutAt b142 9, E142_9 (IntKind.wrap IntKind.i64 (↑(BitVec.toNat (BitVec.ofInt 64 (IntKind.wrap IntKind.i64 (↑(BitVec.toNat (BitVec.ofInt 64 (IntKind.wrap IntKind.i64 (v5 * 2)) &&& BitVec.ofInt 64 65535)) : Int)) ^^^ BitVec.ofInt 64 4129)) : Int)) (v24 + 1) (x0) (v15), L142_9 (IntKind.wrap IntKind.i64 (↑(BitVec.toNat (BitVec.ofInt 64 (IntKind.wrap IntKind.i64 (↑(BitVec.toNat (BitVec.ofInt 64 (IntKind.wrap IntKind.i64 (v5 * 2)) &&& BitVec.ofInt 64 65535)) : Int)) ^^^ BitVec.ofInt 64 4129)) : Int)) (v24 + 1) (x0) (v15), [Decidable.decide (v24 < 8) = Bool.true, (0 : Int) ≤ (1 : Int), Decidable.decide (IntKind.wrap IntKind.i64 (v5 * 2) > 65535) = Bool.true, InR IntKind.i64 (v24 + 1)]) := by kernel_rfl
theorem p142_5 (v5 : Int) (v24 : Int) (x0 : ByteArray) (v15 : Int) : Am.runN tab ext142 false 36 [] 2000 [] [] [5, 13, 14, 15, 24] [0] [true, false] (cutAt b142 9) (E142_9 v5 v24 x0 v15) (L142_9 v5 v24 x0 v15) = some (cutAt b142 9, E142_9 (IntKind.wrap IntKind.i64 (v5 * 2)) (v24 + 1) (x0) (v15), L142_9 (IntKind.wrap IntKind.i64 (v5 * 2)) (v24 + 1) (x0) (v15), [Decidable.decide (v24 < 8) = Bool.true, (0 : Int) ≤ (1 : Int), Decidable.decide (IntKind.wrap IntKind.i64 (v5 * 2) > 65535) = Bool.false, InR IntKind.i64 (v24 + 1)]) := by kernel_rfl
theorem p142_6 (v5 : Int) (v24 : Int) (x0 : ByteArray) (v15 : Int) : Am.runN tab ext142 false 36 [] 2000 [] [] [5, 13, 14, 15] [0] [false] (cutAt b142 9) (E142_9 v5 v24 x0 v15) (L142_9 v5 v24 x0 v15) = some (cutAt b142 5, E142_5 (v15 + 1) (v5) (x0), L142_5 (v15 + 1) (v5) (x0), [Decidable.decide (v24 < 8) = Bool.false, InR IntKind.i64 (v15 + 1)]) := by kernel_rfl
theorem snd142 : ∀ n, (∀ (x0 : ByteArray) (x1 : Int) ds, R142 n x0 x1 ds → ∀ w0 O q, AtV Tryd.prog 142 (PostR ds [] [] q w0 O) 36 w0 O q [] [.code b142] (entE 0 0 sig142 (x0, x1, ())) (entL sig142 (x0, x1, ()))) ∧ (∀ (v15 : Int) (x1 : Int) (x0 : ByteArray) ds, R142_5 n v15 x1 x0 ds → ∀ w0 O q, AtV Tryd.prog 142 (PostR ds [] [] q w0 O) 36 w0 O q [] (cutAt b142 5) (E142_5 v15 x1 x0) (L142_5 v15 x1 x0)) ∧ (∀ (v5 : Int) (v24 : Int) (x0 : ByteArray) (v15 : Int) ds, R142_9 n v5 v24 x0 v15 ds → ∀ w0 O q, AtV Tryd.prog 142 (PostR ds [] [] q w0 O) 36 w0 O q [] (cutAt b142 9) (E142_9 v5 v24 x0 v15) (L142_9 v5 v24 x0 v15)) := by
  intro n
  induction n with
  | zero => exact ⟨fun _ _ _ h => by simp only [R142] at h, fun _ _ _ _ h => by simp only [R142_5] at h, fun _ _ _ _ _ h => by simp only [R142_9] at h⟩
  | succ n ih =>
  obtain ⟨ih, ih5, ih9⟩ := ih
  refine ⟨?_, ?_, ?_⟩
  · intro x0 x1 ds h w0 O q
    rw [R142] at h
    by_cases b0 : (!g102_0 x1 0 65535) = true
    · rw [if_pos b0] at h
      subst h
      exact AtV.fin Tryd.func142 tabOk ext142Ok mixed (p142_0 x0 x1) ⟨trivial, b0, trivial⟩
    · rw [if_neg b0] at h
      replace b0 := Bool.eq_false_iff.2 b0
      exact AtV.runN tabOk ext142Ok mixed (p142_1 x0 x1) ⟨trivial, b0, trivial⟩ (ih5 _ _ _ _ h w0 O q)

  · intro v15 x1 x0 ds h w0 O q
    rw [R142_5] at h
    by_cases b0 : (Decidable.decide (v15 < (↑(List.length (bytesOf x0)) : Int))) = true
    · rw [if_pos b0] at h
      obtain ⟨s0, s1, h⟩ := h
      obtain ⟨s2, h⟩ := h
      exact AtV.runN tabOk ext142Ok mixed (p142_2 v15 x1 x0) ⟨b0, s0, s1, s2, (by decide), trivial⟩ (ih9 _ _ _ _ _ h w0 O q)
    · rw [if_neg b0] at h
      replace b0 := Bool.eq_false_iff.2 b0
      subst h
      exact AtV.fin Tryd.func142 tabOk ext142Ok mixed (p142_3 v15 x1 x0) ⟨b0, trivial⟩

  · intro v5 v24 x0 v15 ds h w0 O q
    rw [R142_9] at h
    by_cases b0 : (Decidable.decide (v24 < 8)) = true
    · rw [if_pos b0] at h
      by_cases b1 : (Decidable.decide (IntKind.wrap IntKind.i64 (v5 * 2) > 65535)) = true
      · rw [if_pos b1] at h
        obtain ⟨s0, h⟩ := h
        exact AtV.runN tabOk ext142Ok mixed (p142_4 v5 v24 x0 v15) ⟨b0, (by decide), b1, s0, trivial⟩ (ih9 _ _ _ _ _ h w0 O q)
      · rw [if_neg b1] at h
        replace b1 := Bool.eq_false_iff.2 b1
        obtain ⟨s0, h⟩ := h
        exact AtV.runN tabOk ext142Ok mixed (p142_5 v5 v24 x0 v15) ⟨b0, (by decide), b1, s0, trivial⟩ (ih9 _ _ _ _ _ h w0 O q)
    · rw [if_neg b0] at h
      replace b0 := Bool.eq_false_iff.2 b0
      obtain ⟨s0, h⟩ := h
      exact AtV.runN tabOk ext142Ok mixed (p142_6 v5 v24 x0 v15) ⟨b0, s0, trivial⟩ (ih5 _ _ _ _ h w0 O q)



def bit142 (s : Int) : Int := if (Decidable.decide (IntKind.wrap IntKind.i64 (s * 2) > 65535)) = true then (IntKind.wrap IntKind.i64 (↑(BitVec.toNat (BitVec.ofInt 64 (IntKind.wrap IntKind.i64 (↑(BitVec.toNat (BitVec.ofInt 64 (IntKind.wrap IntKind.i64 (s * 2)) &&& BitVec.ofInt 64 65535)) : Int)) ^^^ BitVec.ofInt 64 4129)) : Int)) else (IntKind.wrap IntKind.i64 (s * 2))
def bits142 : Nat → Int → Int
  | 0, s => s
  | k + 1, s => bits142 k (bit142 s)
def byte142 (s c : Int) : Int := bits142 8 (IntKind.wrap IntKind.i64 (↑(BitVec.toNat (BitVec.ofInt 64 s ^^^ BitVec.ofInt 64 (IntKind.wrap IntKind.i64 (c * 256)))) : Int))
def g142_0 (x0 : ByteArray) (x1 : Int) : Int := if (!g102_0 x1 0 65535) = true then 0 else (bytesOf x0).foldl byte142 x1
def P142 (x0 : ByteArray) (x1 : Int) : Prop := True

theorem inner142 (x0 : ByteArray) (hm : (bytesOf x0).length ≤ maxLen) (i n : Nat) (hi : i < (bytesOf x0).length) (ds : List Dyn) : ∀ (k j : Nat) (s : Int), j + k = 8 → R142_5 n ((i : Int) + 1) (bits142 k s) x0 ds → R142_9 (n + 1 + k) s (j : Int) x0 (i : Int) ds := by
  intro k
  induction k with
  | zero =>
    intro j s hj hr
    rw [R142_9, if_neg (by simp; omega)]
    exact ⟨inR_up hm hi, hr⟩
  | succ k ih =>
    intro j s hj hr
    have e2 : (j : Int) + 1 = ((j + 1 : Nat) : Int) := by omega
    rw [show n + 1 + (k + 1) = (n + 1 + k) + 1 by omega, R142_9, if_pos (by simp; omega)]
    unfold bits142 bit142 at hr
    by_cases hc : (Decidable.decide (IntKind.wrap IntKind.i64 (s * 2) > 65535)) = true
    · rw [if_pos hc] at hr ⊢
      rw [e2]
      exact ⟨by rw [i64_iff]; omega, ih (j + 1) _ (by omega) hr⟩
    · rw [if_neg hc] at hr ⊢
      rw [e2]
      exact ⟨by rw [i64_iff]; omega, ih (j + 1) _ (by omega) hr⟩

theorem run142 (x0 : ByteArray) (hm : x0.size ≤ maxLen) : ∀ (k i : Nat) (s : Int), i + k = x0.size → ∃ n, R142_5 n (i : Int) s x0 [⟨.int .i64, ((bytesOf x0).drop i).foldl byte142 s⟩] := by
  intro k
  have hl := bytesOf_length x0
  induction k with
  | zero =>
    intro i s hi
    refine ⟨1, ?_⟩
    rw [R142_5, if_neg (by rw [hl]; simp; omega), List.drop_of_length_le (by omega)]
    rfl
  | succ k ih =>
    intro i s hi
    have hlt : i < (bytesOf x0).length := by omega
    have hcons := drop_get (bytesOf x0) i 0 hlt
    obtain ⟨n, hn⟩ := ih (i + 1) (byte142 s ((bytesOf x0).getD i 0)) (by omega)
    refine ⟨n + 1 + 8 + 1, ?_⟩
    have hb := bytesOf_range x0 _ (mem_getD (bytesOf x0) i 0 hlt)
    rw [R142_5, if_pos (by rw [hl]; simp; omega)]
    simp only [Int.toNat_natCast]
    rw [hcons, List.foldl_cons]
    exact ⟨by omega, by omega, by rw [i64_iff]; omega, inner142 x0 (by rw [hl]; exact hm) i n hlt _ 8 0 _ (by omega) hn⟩

theorem top142 (x0 : ByteArray) (x1 : Int) (hm : x0.size ≤ maxLen) : ∃ n, R142 n x0 x1 [⟨.int .i64, g142_0 x0 x1⟩] := by
  obtain ⟨n, hn⟩ := run142 x0 hm x0.size 0 x1 (by omega)
  refine ⟨n + 1, ?_⟩
  rw [R142]
  unfold g142_0
  by_cases hc : (!g102_0 x1 0 65535) = true
  · rw [if_pos hc, if_pos hc]
  · rw [if_neg hc, if_neg hc]
    exact hn

def S142 : Am.Spec := { sig := sig142, pre := fun ⟨x0, x1, _⟩ => P142 x0 x1, res := fun ⟨x0, x1, _⟩ => [⟨Ty.int .i64, g142_0 x0 x1⟩] }
theorem con142 : Contract Tryd.prog 142 S142 := contract_of Tryd.func142 hb142 (Nat.le_of_ble_eq_true (by kernel_rfl)) (fun ⟨x0, x1, _⟩ h hwf w0 O q =>
  let ⟨n, hn⟩ := top142 x0 x1 hwf.1
  (snd142 n).1 x0 x1 _ hn w0 O q)

end Go.Proofs.YtakodkjcmacofaaDoor

/- Function 141 (strconv.FormatInt): its contract, off what is known of the library. -/
set_option linter.unusedVariables false
set_option linter.unusedSimpArgs false
set_option maxRecDepth 100000
namespace Go.Proofs.YtakodkjcmacofaaDoor
open Go Go.Am Go.Proofs

def sig141 : List AT := [AT.v (Ty.int .i64), AT.v (Ty.int .i64)]
def g141_0 (x0 x1 : Int) : ByteArray := numB x0
def P141 (x0 x1 : Int) : Prop := x1 = 10
def S141 : Am.Spec := { sig := sig141, pre := fun ⟨x0, x1, _⟩ => P141 x0 x1, res := fun ⟨x0, x1, _⟩ => [⟨Ty.str, g141_0 x0 x1⟩] }
theorem con141 : Contract Tryd.prog 141 S141 := contract_flat rfl fun w ⟨x0, x1, _⟩ vs bss hg hp hw ha => by
  obtain ⟨v0, s0, _, _, rfl, _, ⟨_, rfl, hi⟩, v1, s1, _, _, rfl, _, ⟨_, rfl, _⟩, rfl, _⟩ := ha
  obtain rfl : x1 = 10 := hp
  have hi : InR .i64 x0 := hi
  rw [i64_iff] at hi
  refine ⟨fun d hd => ?_, ?_⟩
  · rw [List.mem_singleton.1 hd]
    refine ⟨rfl, ?_⟩
    show (numB x0).size ≤ maxLen
    have := numB_size x0 hi.1 hi.2
    unfold maxLen; omega
  · refine (Tryd.strconv_FormatInt_10 x0 hi.1 hi.2 w (pow10G hg)).mono ?_
    rintro e w' ⟨rfl, n, os, rfl⟩
    exact ⟨rfl, kept_grow _ _ _⟩

end Go.Proofs.YtakodkjcmacofaaDoor

/- Function 94 (impl.Decimal): its runs between cut points. Written by a program of this repo (gen). -/
set_option linter.unusedVariables false
set_option linter.unusedSimpArgs false
set_option maxRecDepth 100000
namespace Go.Proofs.YtakodkjcmacofaaDoor
open Go Go.Am Go.Proofs
def ext94 : Ext := [(141, S141)]
theorem call94_141 : Callable Tryd.prog 141 := ⟨Tryd.f141, Tryd.func141, by kernel_rfl, by kernel_rfl⟩
theorem ext94Ok : ExtOk Tryd.prog ext94 := ⟨⟨call94_141, con141⟩, trivial⟩
/-! Function 94. -/
noncomputable def b94 : Code := bodyOf Tryd.f94
theorem hb94 : Tryd.f94.body = some b94 := by kernel_rfl
def sig94 : List AT := [AT.v (Ty.int IntKind.i64)]
def tys94 : List Ty := [Ty.str]
def P94 (x0 : Int) : Prop := ((P141 x0 10) ∧ True)
def g94_0 (x0 : Int) : ByteArray := g141_0 x0 10
theorem p94_0 (x0 : Int) : runF tab ext94 false 5 [] 2000 [] tys94 Tryd.f94.results [] [.code b94] (entE 0 0 sig94 (x0, ())) (entL sig94 (x0, ())) = some ([Dyn.mk Ty.str (g141_0 x0 10)], [], [P141 x0 10]) := by kernel_rfl
theorem at94 (x0 : Int) (h : P94 x0) (w0 : World) (O : List Nat) (q : Nat → Value) : AtV Tryd.prog 94 (PostR [⟨Ty.str, g94_0 x0⟩] [] [] q w0 O) 5 w0 O q [] [.code b94] (entE 0 0 sig94 (x0, ())) (entL sig94 (x0, ())) := by
  unfold P94 at h
  unfold g94_0
  obtain ⟨s0, h⟩ := h
  exact AtV.fin Tryd.func94 tabOk ext94Ok mixed (p94_0 x0) ⟨s0, trivial⟩

def S94 : Am.Spec := { sig := sig94, pre := fun ⟨x0, _⟩ => P94 x0, res := fun ⟨x0, _⟩ => [⟨Ty.str, g94_0 x0⟩] }
theorem con94 : Contract Tryd.prog 94 S94 := contract_of Tryd.func94 hb94 (Nat.le_of_ble_eq_true (by kernel_rfl)) (fun ⟨x0, _⟩ h _ w0 O q => at94 x0 h w0 O q)


end Go.Proofs.YtakodkjcmacofaaDoor

/- Function 143 (strings.Repeat): its contract, off what is known of the library. -/
set_option linter.unusedVariables false
set_option linter.unusedSimpArgs false
set_option maxRecDepth 100000
namespace Go.Proofs.YtakodkjcmacofaaDoor
open Go Go.Am Go.Proofs

def sig143 : List AT := [AT.v Ty.str, AT.v (Ty.int .i64)]
def g143_0 (x0 : ByteArray) (x1 : Int) : ByteArray := ⟨(Lib.repeatL x0.data.toList x1.toNat).toArray⟩
def P143 (x0 : ByteArray) (x1 : Int) : Prop := 0 ≤ x1 ∧ (x0.size : Int) * x1 ≤ 140737488355328
def S143 : Am.Spec := { sig := sig143, pre := fun ⟨x0, x1, _⟩ => P143 x0 x1, res := fun ⟨x0, x1, _⟩ => [⟨Ty.str, g143_0 x0 x1⟩] }
theorem con143 : Contract Tryd.prog 143 S143 := contract_flat rfl fun w ⟨x0, x1, _⟩ vs bss hg hp hw ha => by
  obtain ⟨v0, s0, _, _, rfl, _, ⟨_, rfl, _⟩, v1, s1, _, _, rfl, _, ⟨_, rfl, _⟩, rfl, _⟩ := ha
  obtain ⟨h0, h1⟩ := hp
  obtain ⟨c, rfl⟩ : ∃ c : Nat, x1 = (c : Int) := Int.eq_ofNat_of_zero_le h0
  have hi : InR .i64 (c : Int) := hw.2.1
  rw [i64_iff] at hi
  have hm : x0.size * c ≤ 140737488355328 := by
    have : ((x0.size * c : Nat) : Int) = (x0.size : Int) * (c : Int) := Int.natCast_mul _ _
    omega
  refine ⟨fun d hd => ?_, ?_⟩
  · rw [List.mem_singleton.1 hd]
    refine ⟨rfl, ?_⟩
    show (ByteArray.mk (Lib.repeatL x0.data.toList c).toArray).size ≤ maxLen
    have : (ByteArray.mk (Lib.repeatL x0.data.toList c).toArray).size = c * x0.data.toList.length := by
      show (Lib.repeatL x0.data.toList c).toArray.size = _
      rw [List.size_toArray, Lib.repeatL_length]
    rw [this, Nat.mul_comm]
    have e : x0.data.toList.length = x0.size := rfl
    rw [e]
    unfold maxLen
    omega
  · refine (Tryd.strings_Repeat x0 c w (by omega) hm).mono ?_
    rintro e w' ⟨rfl, hb⟩
    exact ⟨rfl, Kept.of_below hb⟩

end Go.Proofs.YtakodkjcmacofaaDoor

/- Function 151 (impl.IsName): its runs between cut points. Written by a program of this repo (gen). -/
set_option linter.unusedVariables false
set_option linter.unusedSimpArgs false
set_option maxRecDepth 100000
namespace Go.Proofs.YtakodkjcmacofaaDoor
open Go Go.Am Go.Proofs
def ext151 : Ext := []
theorem ext151Ok : ExtOk Tryd.prog ext151 := trivial
/-! Function 151. -/
noncomputable def b151 : Code := bodyOf Tryd.f151
theorem hb151 : Tryd.f151.body = some b151 := by kernel_rfl
def sig151 : List AT := [AT.v (Ty.str)]
def tys151 : List Ty := [Ty.bool]
def E151_4 (v18 : Int) (x0 : ByteArray) : Env := [(16, PV.a (Atom.osl 0 Option.none)), (17, PV.a (Atom.val (Value.int IntKind.i64 (↑(List.length (bytesOf x0)) : Int)))), (18, PV.a (Atom.val (Value.int IntKind.i64 v18)))]
def L151_4 (v18 : Int) (x0 : ByteArray) : Heap := [Option.some (Arr.mk (Ty.int IntKind.u8) (bytesOf x0) Bool.false)]
mutual
def R151 : Nat → ByteArray → List Dyn → Prop
  | 0, _, _ => False
  | n + 1, x0, ds => (if (Decidable.decide ((↑(ByteArray.size x0) : Int) < 1)) = true then (ds = [Dyn.mk Ty.bool Bool.false]) else (if (Decidable.decide ((↑(ByteArray.size x0) : Int) > 10)) = true then (ds = [Dyn.mk Ty.bool Bool.false]) else (R151_4 n (0) (x0) ds)))
def R151_4 : Nat → Int → ByteArray → List Dyn → Prop
  | 0, _, _, _ => False
  | n + 1, v18, x0, ds => (if (Decidable.decide (v18 < (↑(List.length (bytesOf x0)) : Int))) = true then ((0 ≤ v18) ∧ (v18 < (↑(List.length (bytesOf x0)) : Int)) ∧ (if (Decidable.decide (List.getD (bytesOf x0) (Int.toNat v18) 0 ≥ 97)) = true then (if (Decidable.decide (List.getD (bytesOf x0) (Int.toNat v18) 0 ≥ 48)) = true then (if (!Decidable.decide (List.getD (bytesOf x0) (Int.toNat v18) 0 ≤ 122)) = true then (if (v18 == 0) = true then (ds = [Dyn.mk Ty.bool Bool.false]) else (if (!Decidable.decide (List.getD (bytesOf x0) (Int.toNat v18) 0 ≤ 57)) = true then (ds = [Dyn.mk Ty.bool Bool.false]) else ((InR IntKind.i64 (v18 + 1)) ∧ (R151_4 n (v18 + 1) (x0) ds)))) else ((InR IntKind.i64 (v18 + 1)) ∧ (R151_4 n (v18 + 1) (x0) ds))) else (if (!Decidable.decide (List.getD (bytesOf x0) (Int.toNat v18) 0 ≤ 122)) = true then (if (v18 == 0) = true then (ds = [Dyn.mk Ty.bool Bool.false]) else (ds = [Dyn.mk Ty.bool Bool.false])) else ((InR IntKind.i64 (v18 + 1)) ∧ (R151_4 n (v18 + 1) (x0) ds)))) else (if (Decidable.decide (List.getD (bytesOf x0) (Int.toNat v18) 0 ≥ 48)) = true then (if (v18 == 0) = true then (ds = [Dyn.mk Ty.bool Bool.false]) else (if (!Decidable.decide (List.getD (bytesOf x0) (Int.toNat v18) 0 ≤ 57)) = true then (ds = [Dyn.mk Ty.bool Bool.false]) else ((InR IntKind.i64 (v18 + 1)) ∧ (R151_4 n (v18 + 1) (x0) ds)))) else (if (v18 == 0) = true then (ds = [Dyn.mk Ty.bool Bool.false]) else (ds = [Dyn.mk Ty.bool Bool.false]))))) else (ds = [Dyn.mk Ty.bool Bool.true]))
end
theorem p151_0 (x0 : ByteArray) : runF tab ext151 false 46 [] 2000 [] tys151 Tryd.f151.results [true, true] [.code b151] (entE 0 0 sig151 (x0, ())) (entL sig151 (x0, ())) = some ([Dyn.mk Ty.bool Bool.false], [], [Decidable.decide ((↑(ByteArray.size x0) : Int) < 1) = Bool.true, Bool.true = Bool.true]) := by kernel_rfl
theorem p151_1 (x0 : ByteArray) : runF tab ext151 false 46 [] 2000 [] tys151 Tryd.f151.results [false, true] [.code b151] (entE 0 0 sig151 (x0, ())) (entL sig151 (x0, ())) = some ([Dyn.mk Ty.bool Bool.false], [], [Decidable.decide ((↑(ByteArray.size x0) : Int) < 1) = Bool.false, Decidable.decide ((↑(ByteArray.size x0) : Int) > 10) = Bool.true]) := by kernel_rfl
theorem p151_2 (x0 : ByteArray) : Am.runN tab ext151 false 46 [] 2000 [] [] [16, 17, 18] [0] [false, false] [.code b151] (entE 0 0 sig151 (x0, ())) (entL sig151 (x0, ())) = some (cutAt b151 4, E151_4 (0) (x0), L151_4 (0) (x0), [Decidable.decide ((↑(ByteArray.size x0) : Int) < 1) = Bool.false, Decidable.decide ((↑(ByteArray.size x0) : Int) > 10) = Bool.false]) := by kernel_rfl
theorem p151_3 (v18 : Int) (x0 : ByteArray) : runF tab ext151 false 46 [] 2000 [] tys151 Tryd.f151.results [true, true, true, true, true, true] (cutAt b151 4) (E151_4 v18 x0) (L151_4 v18 x0) = some ([Dyn.mk Ty.bool Bool.false], [], [Decidable.decide (v18 < (↑(List.length (bytesOf x0)) : Int)) = Bool.true, 0 ≤ v18, v18 < (↑(List.length (bytesOf x0)) : Int), Decidable.decide (List.getD (bytesOf x0) (Int.toNat v18) 0 ≥ 97) = Bool.true, Decidable.decide (List.getD (bytesOf x0) (Int.toNat v18) 0 ≥ 48) = Bool.true, (!Decidable.decide (List.getD (bytesOf x0) (Int.toNat v18) 0 ≤ 122)) = Bool.true, (v18 == 0) = Bool.true, Bool.true = Bool.true]) := by kernel_rfl
theorem p151_4 (v18 : Int) (x0 : ByteArray) : runF tab ext151 false 46 [] 2000 [] tys151 Tryd.f151.results [true, true, true, true, false, true] (cutAt b151 4) (E151_4 v18 x0) (L151_4 v18 x0) = some ([Dyn.mk Ty.bool Bool.false], [], [Decidable.decide (v18 < (↑(List.length (bytesOf x0)) : Int)) = Bool.true, 0 ≤ v18, v18 < (↑(List.length (bytesOf x0)) : Int), Decidable.decide (List.getD (bytesOf x0) (Int.toNat v18) 0 ≥ 97) = Bool.true, Decidable.decide (List.getD (bytesOf x0) (Int.toNat v18) 0 ≥ 48) = Bool.true, (!Decidable.decide (List.getD (bytesOf x0) (Int.toNat v18) 0 ≤ 122)) = Bool.true, (v18 == 0) = Bool.false, (!Decidable.decide (List.getD (bytesOf x0) (Int.toNat v18) 0 ≤ 57)) = Bool.true]) := by kernel_rfl
theorem p151_5 (v18 : Int) (x0 : ByteArray) : Am.runN tab ext151 false 46 [] 2000 [] [] [16, 17, 18] [0] [true, true, true, true, false, false] (cutAt b151 4) (E151_4 v18 x0) (L151_4 v18 x0) = some (cutAt b151 4, E151_4 (v18 + 1) (x0), L151_4 (v18 + 1) (x0), [Decidable.decide (v18 < (↑(List.length (bytesOf x0)) : Int)) = Bool.true, 0 ≤ v18, v18 < (↑(List.length (bytesOf x0)) : Int), Decidable.decide (List.getD (bytesOf x0) (Int.toNat v18) 0 ≥ 97) = Bool.true, Decidable.decide (List.getD (bytesOf x0) (Int.toNat v18) 0 ≥ 48) = Bool.true, (!Decidable.decide (List.getD (bytesOf x0) (Int.toNat v18) 0 ≤ 122)) = Bool.true, (v18 == 0) = Bool.false, (!Decidable.decide (List.getD (bytesOf x0) (Int.toNat v18) 0 ≤ 57)) = Bool.false, InR IntKind.i64 (v18 + 1)]) := by kernel_rfl
theorem p151_6 (v18 : Int) (x0 : ByteArray) : Am.runN tab ext151 false 46 [] 2000 [] [] [16, 17, 18] [0] [true, true, true, false, false] (cutAt b151 4) (E151_4 v18 x0) (L151_4 v18 x0) = some (cutAt b151 4, E151_4 (v18 + 1) (x0), L151_4 (v18 + 1) (x0), [Decidable.decide (v18 < (↑(List.length (bytesOf x0)) : Int)) = Bool.true, 0 ≤ v18, v18 < (↑(List.length (bytesOf x0)) : Int), Decidable.decide (List.getD (bytesOf x0) (Int.toNat v18) 0 ≥ 97) = Bool.true, Decidable.decide (List.getD (bytesOf x0) (Int.toNat v18) 0 ≥ 48) = Bool.true, (!Decidable.decide (List.getD (bytesOf x0) (Int.toNat v18) 0 ≤ 122)) = Bool.false, Bool.false = Bool.false, InR IntKind.i64 (v18 + 1)]) := by kernel_rfl
theorem p151_7 (v18 : Int) (x0 : ByteArray) : runF tab ext151 false 46 [] 2000 [] tys151 Tryd.f151.results [true, true, false, true, true, true] (cutAt b151 4) (E151_4 v18 x0) (L151_4 v18 x0) = some ([Dyn.mk Ty.bool Bool.false], [], [Decidable.decide (v18 < (↑(List.length (bytesOf x0)) : Int)) = Bool.true, 0 ≤ v18, v18 < (↑(List.length (bytesOf x0)) : Int), Decidable.decide (List.getD (bytesOf x0) (Int.toNat v18) 0 ≥ 97) = Bool.true, Decidable.decide (List.getD (bytesOf x0) (Int.toNat v18) 0 ≥ 48) = Bool.false, (!Decidable.decide (List.getD (bytesOf x0) (Int.toNat v18) 0 ≤ 122)) = Bool.true, (v18 == 0) = Bool.true, Bool.true = Bool.true]) := by kernel_rfl
theorem p151_8 (v18 : Int) (x0 : ByteArray) : runF tab ext151 false 46 [] 2000 [] tys151 Tryd.f151.results [true, true, false, true, false, true] (cutAt b151 4) (E151_4 v18 x0) (L151_4 v18 x0) = some ([Dyn.mk Ty.bool Bool.false], [], [Decidable.decide (v18 < (↑(List.length (bytesOf x0)) : Int)) = Bool.true, 0 ≤ v18, v18 < (↑(List.length (bytesOf x0)) : Int), Decidable.decide (List.getD (bytesOf x0) (Int.toNat v18) 0 ≥ 97) = Bool.true, Decidable.decide (List.getD (bytesOf x0) (Int.toNat v18) 0 ≥ 48) = Bool.false, (!Decidable.decide (List.getD (bytesOf x0) (Int.toNat v18) 0 ≤ 122)) = Bool.true, (v18 == 0) = Bool.false, Bool.true = Bool.true]) := by kernel_rfl
theorem p151_9 (v18 : Int) (x0 : ByteArray) : Am.runN tab ext151 false 46 [] 2000 [] [] [16, 17, 18] [0] [true, true, false, false, false] (cutAt b151 4) (E151_4 v18 x0) (L151_4 v18 x0) = some (cutAt b151 4, E151_4 (v18 + 1) (x0), L151_4 (v18 + 1) (x0), [Decidable.decide (v18 < (↑(List.length (bytesOf x0)) : Int)) = Bool.true, 0 ≤ v18, v18 < (↑(List.length (bytesOf x0)) : Int), Decidable.decide (List.getD (bytesOf x0) (Int.toNat v18) 0 ≥ 97) = Bool.true, Decidable.decide (List.getD (bytesOf x0) (Int.toNat v18) 0 ≥ 48) = Bool.false, (!Decidable.decide (List.getD (bytesOf x0) (Int.toNat v18) 0 ≤ 122)) = Bool.false, Bool.false = Bool.false, InR IntKind.i64 (v18 + 1)]) := by kernel_rfl
theorem p151_10 (v18 : Int) (x0 : ByteArray) : runF tab ext151 false 46 [] 2000 [] tys151 Tryd.f151.results [true, false, true, true, true, true] (cutAt b151 4) (E151_4 v18 x0) (L151_4 v18 x0) = some ([Dyn.mk Ty.bool Bool.false], [], [Decidable.decide (v18 < (↑(List.length (bytesOf x0)) : Int)) = Bool.true, 0 ≤ v18, v18 < (↑(List.length (bytesOf x0)) : Int), Decidable.decide (List.getD (bytesOf x0) (Int.toNat v18) 0 ≥ 97) = Bool.false, Decidable.decide (List.getD (bytesOf x0) (Int.toNat v18) 0 ≥ 48) = Bool.true, Bool.true = Bool.true, (v18 == 0) = Bool.true, Bool.true = Bool.true]) := by kernel_rfl
theorem p151_11 (v18 : Int) (x0 : ByteArray) : runF tab ext151 false 46 [] 2000 [] tys151 Tryd.f151.results [true, false, true, true, false, true] (cutAt b151 4) (E151_4 v18 x0) (L151_4 v18 x0) = some ([Dyn.mk Ty.bool Bool.false], [], [Decidable.decide (v18 < (↑(List.length (bytesOf x0)) : Int)) = Bool.true, 0 ≤ v18, v18 < (↑(List.length (bytesOf x0)) : Int), Decidable.decide (List.getD (bytesOf x0) (Int.toNat v18) 0 ≥ 97) = Bool.false, Decidable.decide (List.getD (bytesOf x0) (Int.toNat v18) 0 ≥ 48) = Bool.true, Bool.true = Bool.true, (v18 == 0) = Bool.false, (!Decidable.decide (List.getD (bytesOf x0) (Int.toNat v18) 0 ≤ 57)) = Bool.true]) := by kernel_rfl
theorem p151_12 (v18 : Int) (x0 : ByteArray) : Am.runN tab ext151 false 46 [] 2000 [] [] [16, 17, 18] [0] [true, false, true, true, false, false] (cutAt b151 4) (E151_4 v18 x0) (L151_4 v18 x0) = some (cutAt b151 4, E151_4 (v18 + 1) (x0), L151_4 (v18 + 1) (x0), [Decidable.decide (v18 < (↑(List.length (bytesOf x0)) : Int)) = Bool.true, 0 ≤ v18, v18 < (↑(List.length (bytesOf x0)) : Int), Decidable.decide (List.getD (bytesOf x0) (Int.toNat v18) 0 ≥ 97) = Bool.false, Decidable.decide (List.getD (bytesOf x0) (Int.toNat v18) 0 ≥ 48) = Bool.true, Bool.true = Bool.true, (v18 == 0) = Bool.false, (!Decidable.decide (List.getD (bytesOf x0) (Int.toNat v18) 0 ≤ 57)) = Bool.false, InR IntKind.i64 (v18 + 1)]) := by kernel_rfl
theorem p151_13 (v18 : Int) (x0 : ByteArray) : runF tab ext151 false 46 [] 2000 [] tys151 Tryd.f151.results [true, false, false, true, true, true] (cutAt b151 4) (E151_4 v18 x0) (L151_4 v18 x0) = some ([Dyn.mk Ty.bool Bool.false], [], [Decidable.decide (v18 < (↑(List.length (bytesOf x0)) : Int)) = Bool.true, 0 ≤ v18, v18 < (↑(List.length (bytesOf x0)) : Int), Decidable.decide (List.getD (bytesOf x0) (Int.toNat v18) 0 ≥ 97) = Bool.false, Decidable.decide (List.getD (bytesOf x0) (Int.toNat v18) 0 ≥ 48) = Bool.false, Bool.true = Bool.true, (v18 == 0) = Bool.true, Bool.true = Bool.true]) := by kernel_rfl
theorem p151_14 (v18 : Int) (x0 : ByteArray) : runF tab ext151 false 46 [] 2000 [] tys151 Tryd.f151.results [true, false, false, true, false, true] (cutAt b151 4) (E151_4 v18 x0) (L151_4 v18 x0) = some ([Dyn.mk Ty.bool Bool.false], [], [Decidable.decide (v18 < (↑(List.length (bytesOf x0)) : Int)) = Bool.true, 0 ≤ v18, v18 < (↑(List.length (bytesOf x0)) : Int), Decidable.decide (List.getD (bytesOf x0) (Int.toNat v18) 0 ≥ 97) = Bool.false, Decidable.decide (List.getD (bytesOf x0) (Int.toNat v18) 0 ≥ 48) = Bool.false, Bool.true = Bool.true, (v18 == 0) = Bool.false, Bool.true = Bool.true]) := by kernel_rfl
theorem p151_15 (v18 : Int) (x0 : ByteArray) : runF tab ext151 false 46 [] 2000 [] tys151 Tryd.f151.results [false] (cutAt b151 4) (E151_4 v18 x0) (L151_4 v18 x0) = some ([Dyn.mk Ty.bool Bool.true], [], [Decidable.decide (v18 < (↑(List.length (bytesOf x0)) : Int)) = Bool.false]) := by kernel_rfl
theorem snd151 : ∀ n, (∀ (x0 : ByteArray) ds, R151 n x0 ds → ∀ w0 O q, AtV Tryd.prog 151 (PostR ds [] [] q w0 O) 46 w0 O q [] [.code b151] (entE 0 0 sig151 (x0, ())) (entL sig151 (x0, ()))) ∧ (∀ (v18 : Int) (x0 : ByteArray) ds, R151_4 n v18 x0 ds → ∀ w0 O q, AtV Tryd.prog 151 (PostR ds [] [] q w0 O) 46 w0 O q [] (cutAt b151 4) (E151_4 v18 x0) (L151_4 v18 x0)) := by
  intro n
  induction n with
  | zero => exact ⟨fun _ _ h => by simp only [R151] at h, fun _ _ _ h => by simp only [R151_4] at h⟩
  | succ n ih =>
  obtain ⟨ih, ih4⟩ := ih
  refine ⟨?_, ?_⟩
  · intro x0 ds h w0 O q
    rw [R151] at h
    by_cases b0 : (Decidable.decide ((↑(ByteArray.size x0) : Int) < 1)) = true
    · rw [if_pos b0] at h
      subst h
      exact AtV.fin Tryd.func151 tabOk ext151Ok mixed (p151_0 x0) ⟨b0, rfl, trivial⟩
    · rw [if_neg b0] at h
      replace b0 := Bool.eq_false_iff.2 b0
      by_cases b1 : (Decidable.decide ((↑(ByteArray.size x0) : Int) > 10)) = true
      · rw [if_pos b1] at h
        subst h
        exact AtV.fin Tryd.func151 tabOk ext151Ok mixed (p151_1 x0) ⟨b0, b1, trivial⟩
      · rw [if_neg b1] at h
        replace b1 := Bool.eq_false_iff.2 b1
        exact AtV.runN tabOk ext151Ok mixed (p151_2 x0) ⟨b0, b1, trivial⟩ (ih4 _ _ _ h w0 O q)

  · intro v18 x0 ds h w0 O q
    rw [R151_4] at h
    by_cases b0 : (Decidable.decide (v18 < (↑(List.length (bytesOf x0)) : Int))) = true
    · rw [if_pos b0] at h
      obtain ⟨s0, s1, h⟩ := h
      by_cases b1 : (Decidable.decide (List.getD (bytesOf x0) (Int.toNat v18) 0 ≥ 97)) = true
      · rw [if_pos b1] at h
        by_cases b2 : (Decidable.decide (List.getD (bytesOf x0) (Int.toNat v18) 0 ≥ 48)) = true
        · rw [if_pos b2] at h
          by_cases b3 : (!Decidable.decide (List.getD (bytesOf x0) (Int.toNat v18) 0 ≤ 122)) = true
          · rw [if_pos b3] at h
            by_cases b4 : (v18 == 0) = true
            · rw [if_pos b4] at h
              subst h
              exact AtV.fin Tryd.func151 tabOk ext151Ok mixed (p151_3 v18 x0) ⟨b0, s0, s1, b1, b2, b3, b4, rfl, trivial⟩
            · rw [if_neg b4] at h
              replace b4 := Bool.eq_false_iff.2 b4
              by_cases b5 : (!Decidable.decide (List.getD (bytesOf x0) (Int.toNat v18) 0 ≤ 57)) = true
              · rw [if_pos b5] at h
                subst h
                exact AtV.fin Tryd.func151 tabOk ext151Ok mixed (p151_4 v18 x0) ⟨b0, s0, s1, b1, b2, b3, b4, b5, trivial⟩
              · rw [if_neg b5] at h
                replace b5 := Bool.eq_false_iff.2 b5
                obtain ⟨s2, h⟩ := h
                exact AtV.runN tabOk ext151Ok mixed (p151_5 v18 x0) ⟨b0, s0, s1, b1, b2, b3, b4, b5, s2, trivial⟩ (ih4 _ _ _ h w0 O q)
          · rw [if_neg b3] at h
            replace b3 := Bool.eq_false_iff.2 b3
            obtain ⟨s2, h⟩ := h
            exact AtV.runN tabOk ext151Ok mixed (p151_6 v18 x0) ⟨b0, s0, s1, b1, b2, b3, rfl, s2, trivial⟩ (ih4 _ _ _ h w0 O q)
        · rw [if_neg b2] at h
          replace b2 := Bool.eq_false_iff.2 b2
          by_cases b3 : (!Decidable.decide (List.getD (bytesOf x0) (Int.toNat v18) 0 ≤ 122)) = true
          · rw [if_pos b3] at h
            by_cases b4 : (v18 == 0) = true
            · rw [if_pos b4] at h
              subst h
              exact AtV.fin Tryd.func151 tabOk ext151Ok mixed (p151_7 v18 x0) ⟨b0, s0, s1, b1, b2, b3, b4, rfl, trivial⟩
            · rw [if_neg b4] at h
              replace b4 := Bool.eq_false_iff.2 b4
              subst h
              exact AtV.fin Tryd.func151 tabOk ext151Ok mixed (p151_8 v18 x0) ⟨b0, s0, s1, b1, b2, b3, b4, rfl, trivial⟩
          · rw [if_neg b3] at h
            replace b3 := Bool.eq_false_iff.2 b3
            obtain ⟨s2, h⟩ := h
            exact AtV.runN tabOk ext151Ok mixed (p151_9 v18 x0) ⟨b0, s0, s1, b1, b2, b3, rfl, s2, trivial⟩ (ih4 _ _ _ h w0 O q)
      · rw [if_neg b1] at h
        replace b1 := Bool.eq_false_iff.2 b1
        by_cases b2 : (Decidable.decide (List.getD (bytesOf x0) (Int.toNat v18) 0 ≥ 48)) = true
        · rw [if_pos b2] at h
          by_cases b3 : (v18 == 0) = true
          · rw [if_pos b3] at h
            subst h
            exact AtV.fin Tryd.func151 tabOk ext151Ok mixed (p151_10 v18 x0) ⟨b0, s0, s1, b1, b2, rfl, b3, rfl, trivial⟩
          · rw [if_neg b3] at h
            replace b3 := Bool.eq_false_iff.2 b3
            by_cases b4 : (!Decidable.decide (List.getD (bytesOf x0) (Int.toNat v18) 0 ≤ 57)) = true
            · rw [if_pos b4] at h
              subst h
              exact AtV.fin Tryd.func151 tabOk ext151Ok mixed (p151_11 v18 x0) ⟨b0, s0, s1, b1, b2, rfl, b3, b4, trivial⟩
            · rw [if_neg b4] at h
              replace b4 := Bool.eq_false_iff.2 b4
              obtain ⟨s2, h⟩ := h
              exact AtV.runN tabOk ext151Ok mixed (p151_12 v18 x0) ⟨b0, s0, s1, b1, b2, rfl, b3, b4, s2, trivial⟩ (ih4 _ _ _ h w0 O q)
        · rw [if_neg b2] at h
          replace b2 := Bool.eq_false_iff.2 b2
          by_cases b3 : (v18 == 0) = true
          · rw [if_pos b3] at h
            subst h
            exact AtV.fin Tryd.func151 tabOk ext151Ok mixed (p151_13 v18 x0) ⟨b0, s0, s1, b1, b2, rfl, b3, rfl, trivial⟩
          · rw [if_neg b3] at h
            replace b3 := Bool.eq_false_iff.2 b3
            subst h
            exact AtV.fin Tryd.func151 tabOk ext151Ok mixed (p151_14 v18 x0) ⟨b0, s0, s1, b1, b2, rfl, b3, rfl, trivial⟩
    · rw [if_neg b0] at h
      replace b0 := Bool.eq_false_iff.2 b0
      subst h
      exact AtV.fin Tryd.func151 tabOk ext151Ok mixed (p151_15 v18 x0) ⟨b0, trivial⟩



/-- A byte of a name, at its place. -/
def ok151 (i : Nat) (b : Int) : Bool := (decide (97 ≤ b) && decide (b ≤ 122)) || (!(i == 0) && (decide (48 ≤ b) && decide (b ≤ 57)))
def g151_0 (x0 : ByteArray) : Bool := decide (1 ≤ x0.size) && decide (x0.size ≤ 10) && allI ok151 0 (bytesOf x0)
def P151 (x0 : ByteArray) : Prop := True

theorem step151 (n i : Nat) (x0 : ByteArray) (hw : Wf .str x0) (hi : i < (bytesOf x0).length) (ds : List Dyn) :
    R151_4 (n + 1) (i : Int) x0 ds ↔ (if ok151 i ((bytesOf x0).getD i 0) = true then R151_4 n ((i : Int) + 1) x0 ds else ds = [⟨.bool, false⟩]) := by
  have hu := inR_up (xs := bytesOf x0) (by rw [bytesOf_length]; exact hw) hi
  rw [R151_4, if_pos (by simp; omega)]
  simp only [Int.toNat_natCast]
  have hb : (0 : Int) ≤ (i : Int) ∧ (i : Int) < ((bytesOf x0).length : Int) := by omega
  have hz : ((i : Int) == 0) = (i == 0) := by
    cases i with
    | zero => rfl
    | succ k => simp; omega
  simp only [hz, ok151, hu, true_and, hb.1, hb.2, ge_iff_le]
  by_cases h1 : (97 : Int) ≤ (bytesOf x0).getD i 0 <;> by_cases h2 : (bytesOf x0).getD i 0 ≤ 122 <;> by_cases h3 : (48 : Int) ≤ (bytesOf x0).getD i 0 <;> by_cases h4 : (bytesOf x0).getD i 0 ≤ 57 <;> rcases Bool.eq_false_or_eq_true (i == 0) with e0 | e0 <;> first | (exfalso; omega) | simp only [h1, h2, h3, h4, e0, decide_true, decide_false, Bool.not_true, Bool.not_false, Bool.true_and, Bool.false_and, Bool.and_true, Bool.and_false, Bool.true_or, Bool.or_true, Bool.or_false, Bool.false_or, if_true, if_false, Bool.false_eq_true]

theorem top151 (x0 : ByteArray) (hw : Wf .str x0) : R151 (x0.size + 1 + 1) x0 [⟨.bool, g151_0 x0⟩] := by
  have hl := bytesOf_length x0
  rw [R151]
  by_cases h0 : (x0.size : Int) < 1
  · rw [if_pos (by simpa using h0)]
    have : ¬ 1 ≤ x0.size := by omega
    simp [g151_0, this]
  · rw [if_neg (by simpa using h0)]
    by_cases h1 : (x0.size : Int) > 10
    · rw [if_pos (by simpa using h1)]
      have : ¬ x0.size ≤ 10 := by omega
      simp [g151_0, this]
    · rw [if_neg (by simpa using h1)]
      have key := loop_testI (bytesOf x0) 0 ok151 [(⟨.bool, false⟩ : Dyn)] [⟨.bool, true⟩] (fun n i ds => R151_4 n i x0 ds) (fun n => ?_) (fun n i hi hok ds hr => ?_) (fun n i hi hok => ?_)
      · rw [hl] at key
        have e : g151_0 x0 = allI ok151 0 (bytesOf x0) := by
          have a : 1 ≤ x0.size := by omega
          have b : x0.size ≤ 10 := by omega
          simp [g151_0, a, b]
        rw [e]
        cases h : allI ok151 0 (bytesOf x0) with
        | true => rw [if_pos h] at key; exact key
        | false => rw [if_neg (by rw [h]; simp)] at key; exact key
      · show R151_4 (n + 1) ((bytesOf x0).length : Int) x0 _
        rw [R151_4, if_neg (by simp)]
      · exact (step151 n i x0 hw hi ds).2 (by rw [if_pos hok]; exact hr)
      · exact (step151 n i x0 hw hi _).2 (by rw [if_neg (by rw [hok]; simp)])

def S151 : Am.Spec := { sig := sig151, pre := fun ⟨x0, _⟩ => P151 x0, res := fun ⟨x0, _⟩ => [⟨Ty.bool, g151_0 x0⟩] }
theorem con151 : Contract Tryd.prog 151 S151 := contract_of Tryd.func151 hb151 (Nat.le_of_ble_eq_true (by kernel_rfl)) (fun ⟨x0, _⟩ h hwf w0 O q =>
  (snd151 _).1 x0 _ (top151 x0 hwf.1) w0 O q)

end Go.Proofs.YtakodkjcmacofaaDoor

/- Function 163 (strings.Contains): its contract, off what is known of the library. -/
set_option linter.unusedVariables false
set_option linter.unusedSimpArgs false
set_option maxRecDepth 100000
namespace Go.Proofs.YtakodkjcmacofaaDoor
open Go Go.Am Go.Proofs

def sig163 : List AT := [AT.v Ty.str, AT.v Ty.str]
def g163_0 (x0 x1 : ByteArray) : Bool := Lib.contains x0.data.toList x1.data.toList
def P163 (x0 x1 : ByteArray) : Prop := x0.size < 4294967281
def S163 : Am.Spec := { sig := sig163, pre := fun ⟨x0, x1, _⟩ => P163 x0 x1, res := fun ⟨x0, x1, _⟩ => [⟨Ty.bool, g163_0 x0 x1⟩] }
theorem con163 : Contract Tryd.prog 163 S163 := contract_flat rfl fun w ⟨x0, x1, _⟩ vs bss hg hp hw ha => by
  obtain ⟨v0, s0, _, _, rfl, _, ⟨_, rfl, _⟩, v1, s1, _, _, rfl, _, ⟨_, rfl, _⟩, rfl, _⟩ := ha
  refine ⟨fun d hd => by rw [List.mem_singleton.1 hd]; exact ⟨rfl, trivial⟩, ?_⟩
  obtain ⟨m, hm⟩ := maxLenG hg
  refine (Tryd.strings_Contains x0 x1 m w hp hm).mono ?_
  rintro e w' ⟨rfl, rfl⟩
  exact ⟨rfl, Kept.refl _ _⟩

end Go.Proofs.YtakodkjcmacofaaDoor

/- Function 138 (impl.ValidBlock): its runs between cut points. Written by a program of this repo (gen). -/
set_option linter.unusedVariables false
set_option linter.unusedSimpArgs false
set_option maxRecDepth 100000
namespace Go.Proofs.YtakodkjcmacofaaDoor
open Go Go.Am Go.Proofs
def ext138 : Ext := [(151, S151), (163, S163)]
theorem call138_151 : Callable Tryd.prog 151 := ⟨Tryd.f151, Tryd.func151, by kernel_rfl, by kernel_rfl⟩
theorem call138_163 : Callable Tryd.prog 163 := ⟨Tryd.f163, Tryd.func163, by kernel_rfl, by kernel_rfl⟩
theorem ext138Ok : ExtOk Tryd.prog ext138 := ⟨⟨call138_151, con151⟩, ⟨call138_163, con163⟩, trivial⟩
/-! Function 138. -/
noncomputable def b138 : Code := bodyOf Tryd.f138
theorem hb138 : Tryd.f138.body = some b138 := by kernel_rfl
def sig138 : List AT := [AT.v (Ty.cons Ty.str (Ty.cons Ty.str (Ty.cons Ty.str Ty.unit)))]
def tys138 : List Ty := [Ty.bool]
def P138 (x0 : ByteArray × ByteArray × ByteArray × Unit) : Prop := (if (g151_0 (Prod.fst x0)) = true then (if (g151_0 (Prod.fst (Prod.snd x0))) = true then (if (Decidable.decide ((↑(ByteArray.size (Prod.fst (Prod.snd (Prod.snd x0)))) : Int) ≤ 400)) = true then ((P163 (Prod.fst (Prod.snd (Prod.snd x0))) (ByteArray.mk #[10])) ∧ True) else True) else True) else True)
def g138_0 (x0 : ByteArray × ByteArray × ByteArray × Unit) : Bool := (if (g151_0 (Prod.fst x0)) = true then (if (g151_0 (Prod.fst (Prod.snd x0))) = true then (if (Decidable.decide ((↑(ByteArray.size (Prod.fst (Prod.snd (Prod.snd x0)))) : Int) ≤ 400)) = true then !g163_0 (Prod.fst (Prod.snd (Prod.snd x0))) (ByteArray.mk #[10]) else Bool.false) else Bool.false) else Bool.false)
theorem p138_0 (x0 : ByteArray × ByteArray × ByteArray × Unit) : runF tab ext138 false 23 [] 2000 [] tys138 Tryd.f138.results [true, true, true] [.code b138] (entE 0 0 sig138 (x0, ())) (entL sig138 (x0, ())) = some ([Dyn.mk Ty.bool !g163_0 (Prod.fst (Prod.snd (Prod.snd x0))) (ByteArray.mk #[10])], [], [True, g151_0 (Prod.fst x0) = Bool.true, True, g151_0 (Prod.fst (Prod.snd x0)) = Bool.true, Decidable.decide ((↑(ByteArray.size (Prod.fst (Prod.snd (Prod.snd x0)))) : Int) ≤ 400) = Bool.true, P163 (Prod.fst (Prod.snd (Prod.snd x0))) (ByteArray.mk #[10])]) := by kernel_rfl
theorem p138_1 (x0 : ByteArray × ByteArray × ByteArray × Unit) : runF tab ext138 false 23 [] 2000 [] tys138 Tryd.f138.results [true, true, false] [.code b138] (entE 0 0 sig138 (x0, ())) (entL sig138 (x0, ())) = some ([Dyn.mk Ty.bool Bool.false], [], [True, g151_0 (Prod.fst x0) = Bool.true, True, g151_0 (Prod.fst (Prod.snd x0)) = Bool.true, Decidable.decide ((↑(ByteArray.size (Prod.fst (Prod.snd (Prod.snd x0)))) : Int) ≤ 400) = Bool.false]) := by kernel_rfl
theorem p138_2 (x0 : ByteArray × ByteArray × ByteArray × Unit) : runF tab ext138 false 23 [] 2000 [] tys138 Tryd.f138.results [true, false, false] [.code b138] (entE 0 0 sig138 (x0, ())) (entL sig138 (x0, ())) = some ([Dyn.mk Ty.bool Bool.false], [], [True, g151_0 (Prod.fst x0) = Bool.true, True, g151_0 (Prod.fst (Prod.snd x0)) = Bool.false, Bool.false = Bool.false]) := by kernel_rfl
theorem p138_3 (x0 : ByteArray × ByteArray × ByteArray × Unit) : runF tab ext138 false 23 [] 2000 [] tys138 Tryd.f138.results [false, false, false] [.code b138] (entE 0 0 sig138 (x0, ())) (entL sig138 (x0, ())) = some ([Dyn.mk Ty.bool Bool.false], [], [True, g151_0 (Prod.fst x0) = Bool.false, Bool.false = Bool.false, Bool.false = Bool.false]) := by kernel_rfl
theorem at138 (x0 : ByteArray × ByteArray × ByteArray × Unit) (h : P138 x0) (w0 : World) (O : List Nat) (q : Nat → Value) : AtV Tryd.prog 138 (PostR [⟨Ty.bool, g138_0 x0⟩] [] [] q w0 O) 23 w0 O q [] [.code b138] (entE 0 0 sig138 (x0, ())) (entL sig138 (x0, ())) := by
  unfold P138 at h
  unfold g138_0
  by_cases b0 : (g151_0 (Prod.fst x0)) = true
  · try simp only [if_pos b0] at h ⊢
    by_cases b1 : (g151_0 (Prod.fst (Prod.snd x0))) = true
    · try simp only [if_pos b1] at h ⊢
      by_cases b2 : (Decidable.decide ((↑(ByteArray.size (Prod.fst (Prod.snd (Prod.snd x0)))) : Int) ≤ 400)) = true
      · try simp only [if_pos b2] at h ⊢
        obtain ⟨s0, h⟩ := h
        exact AtV.fin Tryd.func138 tabOk ext138Ok mixed (p138_0 x0) ⟨trivial, b0, trivial, b1, b2, s0, trivial⟩
      · try simp only [if_neg b2] at h ⊢
        replace b2 := Bool.eq_false_iff.2 b2
        exact AtV.fin Tryd.func138 tabOk ext138Ok mixed (p138_1 x0) ⟨trivial, b0, trivial, b1, b2, trivial⟩
    · try simp only [if_neg b1] at h ⊢
      replace b1 := Bool.eq_false_iff.2 b1
      exact AtV.fin Tryd.func138 tabOk ext138Ok mixed (p138_2 x0) ⟨trivial, b0, trivial, b1, rfl, trivial⟩
  · try simp only [if_neg b0] at h ⊢
    replace b0 := Bool.eq_false_iff.2 b0
    exact AtV.fin Tryd.func138 tabOk ext138Ok mixed (p138_3 x0) ⟨trivial, b0, rfl, rfl, trivial⟩

def S138 : Am.Spec := { sig := sig138, pre := fun ⟨x0, _⟩ => P138 x0, res := fun ⟨x0, _⟩ => [⟨Ty.bool, g138_0 x0⟩] }
theorem con138 : Contract Tryd.prog 138 S138 := contract_of Tryd.func138 hb138 (Nat.le_of_ble_eq_true (by kernel_rfl)) (fun ⟨x0, _⟩ h _ w0 O q => at138 x0 h w0 O q)


theorem pre138 (x : ByteArray × ByteArray × ByteArray × Unit) : P138 x := by
  unfold P138
  split
  · split
    · split
      · rename_i h
        simp only [decide_eq_true_eq] at h
        refine ⟨?_, trivial⟩
        show x.2.2.1.size < 4294967281
        omega
      · trivial
    · trivial
  · trivial

end Go.Proofs.YtakodkjcmacofaaDoor

/- Function 96 (impl.lineOfBlock): its runs between cut points. Written by a program of this repo (gen). -/
set_option linter.unusedVariables false
set_option linter.unusedSimpArgs false
set_option maxRecDepth 100000
namespace Go.Proofs.YtakodkjcmacofaaDoor
open Go Go.Am Go.Proofs
def ext96 : Ext := [(142, S142), (94, S94), (143, S143)]
theorem call96_142 : Callable Tryd.prog 142 := ⟨Tryd.f142, Tryd.func142, by kernel_rfl, by kernel_rfl⟩
theorem call96_94 : Callable Tryd.prog 94 := ⟨Tryd.f94, Tryd.func94, by kernel_rfl, by kernel_rfl⟩
theorem call96_143 : Callable Tryd.prog 143 := ⟨Tryd.f143, Tryd.func143, by kernel_rfl, by kernel_rfl⟩
theorem ext96Ok : ExtOk Tryd.prog ext96 := ⟨⟨call96_142, con142⟩, ⟨call96_94, con94⟩, ⟨call96_143, con143⟩, trivial⟩
/-! Function 96. -/
noncomputable def b96 : Code := bodyOf Tryd.f96
theorem hb96 : Tryd.f96.body = some b96 := by kernel_rfl
def sig96 : List AT := [AT.v (Ty.cons Ty.str (Ty.cons Ty.str (Ty.cons Ty.str Ty.unit)))]
def tys96 : List Ty := [Ty.str]
def P96 (x0 : ByteArray × ByteArray × ByteArray × Unit) : Prop := ((ByteArray.size (Prod.fst x0) + 1 ≤ 9223372036854775807) ∧ ((ByteArray.size (Prod.fst x0 ++ ByteArray.mk #[32]) + ByteArray.size (Prod.fst (Prod.snd x0)) ≤ 9223372036854775807) ∧ ((ByteArray.size (Prod.fst x0 ++ ByteArray.mk #[32] ++ Prod.fst (Prod.snd x0)) + 1 ≤ 9223372036854775807) ∧ ((ByteArray.size (Prod.fst x0 ++ ByteArray.mk #[32] ++ Prod.fst (Prod.snd x0) ++ ByteArray.mk #[32]) + ByteArray.size (Prod.fst (Prod.snd (Prod.snd x0))) ≤ 9223372036854775807) ∧ ((P94 (g142_0 (Prod.fst x0 ++ ByteArray.mk #[32] ++ Prod.fst (Prod.snd x0) ++ ByteArray.mk #[32] ++ Prod.fst (Prod.snd (Prod.snd x0))) 65535)) ∧ ((InR IntKind.i64 (5 - (↑(ByteArray.size (g94_0 (g142_0 (Prod.fst x0 ++ ByteArray.mk #[32] ++ Prod.fst (Prod.snd x0) ++ ByteArray.mk #[32] ++ Prod.fst (Prod.snd (Prod.snd x0))) 65535))) : Int))) ∧ ((P143 (ByteArray.mk #[48]) (5 - (↑(ByteArray.size (g94_0 (g142_0 (Prod.fst x0 ++ ByteArray.mk #[32] ++ Prod.fst (Prod.snd x0) ++ ByteArray.mk #[32] ++ Prod.fst (Prod.snd (Prod.snd x0))) 65535))) : Int))) ∧ ((ByteArray.size (g143_0 (ByteArray.mk #[48]) (5 - (↑(ByteArray.size (g94_0 (g142_0 (Prod.fst x0 ++ ByteArray.mk #[32] ++ Prod.fst (Prod.snd x0) ++ ByteArray.mk #[32] ++ Prod.fst (Prod.snd (Prod.snd x0))) 65535))) : Int))) + ByteArray.size (g94_0 (g142_0 (Prod.fst x0 ++ ByteArray.mk #[32] ++ Prod.fst (Prod.snd x0) ++ ByteArray.mk #[32] ++ Prod.fst (Prod.snd (Prod.snd x0))) 65535)) ≤ 9223372036854775807) ∧ ((ByteArray.size (g143_0 (ByteArray.mk #[48]) (5 - (↑(ByteArray.size (g94_0 (g142_0 (Prod.fst x0 ++ ByteArray.mk #[32] ++ Prod.fst (Prod.snd x0) ++ ByteArray.mk #[32] ++ Prod.fst (Prod.snd (Prod.snd x0))) 65535))) : Int)) ++ g94_0 (g142_0 (Prod.fst x0 ++ ByteArray.mk #[32] ++ Prod.fst (Prod.snd x0) ++ ByteArray.mk #[32] ++ Prod.fst (Prod.snd (Prod.snd x0))) 65535)) + 1 ≤ 9223372036854775807) ∧ ((ByteArray.size (g143_0 (ByteArray.mk #[48]) (5 - (↑(ByteArray.size (g94_0 (g142_0 (Prod.fst x0 ++ ByteArray.mk #[32] ++ Prod.fst (Prod.snd x0) ++ ByteArray.mk #[32] ++ Prod.fst (Prod.snd (Prod.snd x0))) 65535))) : Int)) ++ g94_0 (g142_0 (Prod.fst x0 ++ ByteArray.mk #[32] ++ Prod.fst (Prod.snd x0) ++ ByteArray.mk #[32] ++ Prod.fst (Prod.snd (Prod.snd x0))) 65535) ++ ByteArray.mk #[32]) + ByteArray.size (Prod.fst x0 ++ ByteArray.mk #[32] ++ Prod.fst (Prod.snd x0) ++ ByteArray.mk #[32] ++ Prod.fst (Prod.snd (Prod.snd x0))) ≤ 9223372036854775807) ∧ True))))))))))
def g96_0 (x0 : ByteArray × ByteArray × ByteArray × Unit) : ByteArray := g143_0 (ByteArray.mk #[48]) (5 - (↑(ByteArray.size (g94_0 (g142_0 (Prod.fst x0 ++ ByteArray.mk #[32] ++ Prod.fst (Prod.snd x0) ++ ByteArray.mk #[32] ++ Prod.fst (Prod.snd (Prod.snd x0))) 65535))) : Int)) ++ g94_0 (g142_0 (Prod.fst x0 ++ ByteArray.mk #[32] ++ Prod.fst (Prod.snd x0) ++ ByteArray.mk #[32] ++ Prod.fst (Prod.snd (Prod.snd x0))) 65535) ++ ByteArray.mk #[32] ++ (Prod.fst x0 ++ ByteArray.mk #[32] ++ Prod.fst (Prod.snd x0) ++ ByteArray.mk #[32] ++ Prod.fst (Prod.snd (Prod.snd x0)))
theorem p96_0 (x0 : ByteArray × ByteArray × ByteArray × Unit) : runF tab ext96 false 27 [] 2000 [] tys96 Tryd.f96.results [] [.code b96] (entE 0 0 sig96 (x0, ())) (entL sig96 (x0, ())) = some ([Dyn.mk Ty.str (g143_0 (ByteArray.mk #[48]) (5 - (↑(ByteArray.size (g94_0 (g142_0 (Prod.fst x0 ++ ByteArray.mk #[32] ++ Prod.fst (Prod.snd x0) ++ ByteArray.mk #[32] ++ Prod.fst (Prod.snd (Prod.snd x0))) 65535))) : Int)) ++ g94_0 (g142_0 (Prod.fst x0 ++ ByteArray.mk #[32] ++ Prod.fst (Prod.snd x0) ++ ByteArray.mk #[32] ++ Prod.fst (Prod.snd (Prod.snd x0))) 65535) ++ ByteArray.mk #[32] ++ (Prod.fst x0 ++ ByteArray.mk #[32] ++ Prod.fst (Prod.snd x0) ++ ByteArray.mk #[32] ++ Prod.fst (Prod.snd (Prod.snd x0))))], [], [ByteArray.size (Prod.fst x0) + 1 ≤ 9223372036854775807, ByteArray.size (Prod.fst x0 ++ ByteArray.mk #[32]) + ByteArray.size (Prod.fst (Prod.snd x0)) ≤ 9223372036854775807, ByteArray.size (Prod.fst x0 ++ ByteArray.mk #[32] ++ Prod.fst (Prod.snd x0)) + 1 ≤ 9223372036854775807, ByteArray.size (Prod.fst x0 ++ ByteArray.mk #[32] ++ Prod.fst (Prod.snd x0) ++ ByteArray.mk #[32]) + ByteArray.size (Prod.fst (Prod.snd (Prod.snd x0))) ≤ 9223372036854775807, True, P94 (g142_0 (Prod.fst x0 ++ ByteArray.mk #[32] ++ Prod.fst (Prod.snd x0) ++ ByteArray.mk #[32] ++ Prod.fst (Prod.snd (Prod.snd x0))) 65535), InR IntKind.i64 (5 - (↑(ByteArray.size (g94_0 (g142_0 (Prod.fst x0 ++ ByteArray.mk #[32] ++ Prod.fst (Prod.snd x0) ++ ByteArray.mk #[32] ++ Prod.fst (Prod.snd (Prod.snd x0))) 65535))) : Int)), P143 (ByteArray.mk #[48]) (5 - (↑(ByteArray.size (g94_0 (g142_0 (Prod.fst x0 ++ ByteArray.mk #[32] ++ Prod.fst (Prod.snd x0) ++ ByteArray.mk #[32] ++ Prod.fst (Prod.snd (Prod.snd x0))) 65535))) : Int)), ByteArray.size (g143_0 (ByteArray.mk #[48]) (5 - (↑(ByteArray.size (g94_0 (g142_0 (Prod.fst x0 ++ ByteArray.mk #[32] ++ Prod.fst (Prod.snd x0) ++ ByteArray.mk #[32] ++ Prod.fst (Prod.snd (Prod.snd x0))) 65535))) : Int))) + ByteArray.size (g94_0 (g142_0 (Prod.fst x0 ++ ByteArray.mk #[32] ++ Prod.fst (Prod.snd x0) ++ ByteArray.mk #[32] ++ Prod.fst (Prod.snd (Prod.snd x0))) 65535)) ≤ 9223372036854775807, ByteArray.size (g143_0 (ByteArray.mk #[48]) (5 - (↑(ByteArray.size (g94_0 (g142_0 (Prod.fst x0 ++ ByteArray.mk #[32] ++ Prod.fst (Prod.snd x0) ++ ByteArray.mk #[32] ++ Prod.fst (Prod.snd (Prod.snd x0))) 65535))) : Int)) ++ g94_0 (g142_0 (Prod.fst x0 ++ ByteArray.mk #[32] ++ Prod.fst (Prod.snd x0) ++ ByteArray.mk #[32] ++ Prod.fst (Prod.snd (Prod.snd x0))) 65535)) + 1 ≤ 9223372036854775807, ByteArray.size (g143_0 (ByteArray.mk #[48]) (5 - (↑(ByteArray.size (g94_0 (g142_0 (Prod.fst x0 ++ ByteArray.mk #[32] ++ Prod.fst (Prod.snd x0) ++ ByteArray.mk #[32] ++ Prod.fst (Prod.snd (Prod.snd x0))) 65535))) : Int)) ++ g94_0 (g142_0 (Prod.fst x0 ++ ByteArray.mk #[32] ++ Prod.fst (Prod.snd x0) ++ ByteArray.mk #[32] ++ Prod.fst (Prod.snd (Prod.snd x0))) 65535) ++ ByteArray.mk #[32]) + ByteArray.size (Prod.fst x0 ++ ByteArray.mk #[32] ++ Prod.fst (Prod.snd x0) ++ ByteArray.mk #[32] ++ Prod.fst (Prod.snd (Prod.snd x0))) ≤ 9223372036854775807]) := by kernel_rfl
theorem at96 (x0 : ByteArray × ByteArray × ByteArray × Unit) (h : P96 x0) (w0 : World) (O : List Nat) (q : Nat → Value) : AtV Tryd.prog 96 (PostR [⟨Ty.str, g96_0 x0⟩] [] [] q w0 O) 27 w0 O q [] [.code b96] (entE 0 0 sig96 (x0, ())) (entL sig96 (x0, ())) := by
  unfold P96 at h
  unfold g96_0
  obtain ⟨s0, h⟩ := h
  obtain ⟨s1, h⟩ := h
  obtain ⟨s2, h⟩ := h
  obtain ⟨s3, h⟩ := h
  obtain ⟨s4, h⟩ := h
  obtain ⟨s5, h⟩ := h
  obtain ⟨s6, h⟩ := h
  obtain ⟨s7, h⟩ := h
  obtain ⟨s8, h⟩ := h
  obtain ⟨s9, h⟩ := h
  exact AtV.fin Tryd.func96 tabOk ext96Ok mixed (p96_0 x0) ⟨s0, s1, s2, s3, trivial, s4, s5, s6, s7, s8, s9, trivial⟩

def S96 : Am.Spec := { sig := sig96, pre := fun ⟨x0, _⟩ => P96 x0, res := fun ⟨x0, _⟩ => [⟨Ty.str, g96_0 x0⟩] }
theorem con96 : Contract Tryd.prog 96 S96 := contract_of Tryd.func96 hb96 (Nat.le_of_ble_eq_true (by kernel_rfl)) (fun ⟨x0, _⟩ h _ w0 O q => at96 x0 h w0 O q)


end Go.Proofs.YtakodkjcmacofaaDoor

/- Function 121 (impl.blockOfLine): its runs between cut points. Written by a program of this repo (gen). -/
set_option linter.unusedVariables false
set_option linter.unusedSimpArgs false
set_option maxRecDepth 100000
namespace Go.Proofs.YtakodkjcmacofaaDoor
open Go Go.Am Go.Proofs
def ext121 : Ext := [(64, S64), (142, S142), (94, S94), (143, S143), (138, S138), (96, S96)]
theorem call121_64 : Callable Tryd.prog 64 := ⟨Tryd.f64, Tryd.func64, by kernel_rfl, by kernel_rfl⟩
theorem call121_142 : Callable Tryd.prog 142 := ⟨Tryd.f142, Tryd.func142, by kernel_rfl, by kernel_rfl⟩
theorem call121_94 : Callable Tryd.prog 94 := ⟨Tryd.f94, Tryd.func94, by kernel_rfl, by kernel_rfl⟩
theorem call121_143 : Callable Tryd.prog 143 := ⟨Tryd.f143, Tryd.func143, by kernel_rfl, by kernel_rfl⟩
theorem call121_138 : Callable Tryd.prog 138 := ⟨Tryd.f138, Tryd.func138, by kernel_rfl, by kernel_rfl⟩
theorem call121_96 : Callable Tryd.prog 96 := ⟨Tryd.f96, Tryd.func96, by kernel_rfl, by kernel_rfl⟩
theorem ext121Ok : ExtOk Tryd.prog ext121 := ⟨⟨call121_64, con64⟩, ⟨call121_142, con142⟩, ⟨call121_94, con94⟩, ⟨call121_143, con143⟩, ⟨call121_138, con138⟩, ⟨call121_96, con96⟩, trivial⟩
/-! Function 121. -/
noncomputable def b121 : Code := bodyOf Tryd.f121
theorem hb121 : Tryd.f121.body = some b121 := by kernel_rfl
def sig121 : List AT := [AT.v (Ty.str)]
def tys121 : List Ty := [Ty.cons Ty.str (Ty.cons Ty.str (Ty.cons Ty.str Ty.unit)), Ty.int IntKind.i64]
def P121 (x0 : ByteArray) : Prop := (if (Decidable.decide ((↑(ByteArray.size x0) : Int) < 6)) = true then True else ((5 < (↑(ByteArray.size x0) : Int)) ∧ (if ((↑(UInt8.toNat (List.getD (Array.toList (ByteArray.data x0)) 5 0)) : Int) != 32) = true then True else ((6 ≤ (↑(ByteArray.size x0) : Int)) ∧ ((P64 (ByteArray.extract x0 6 (Int.toNat (↑(ByteArray.size x0) : Int))) (ByteArray.mk #[32])) ∧ ((P64 (g64_1 (ByteArray.extract x0 6 (Int.toNat (↑(ByteArray.size x0) : Int))) (ByteArray.mk #[32])) (ByteArray.mk #[32])) ∧ ((6 ≤ (↑(ByteArray.size x0) : Int)) ∧ ((P94 (g142_0 (ByteArray.extract x0 6 (Int.toNat (↑(ByteArray.size x0) : Int))) 65535)) ∧ ((5 ≤ (↑(ByteArray.size x0) : Int)) ∧ ((InR IntKind.i64 (5 - (↑(ByteArray.size (g94_0 (g142_0 (ByteArray.extract x0 6 (Int.toNat (↑(ByteArray.size x0) : Int))) 65535))) : Int))) ∧ ((P143 (ByteArray.mk #[48]) (5 - (↑(ByteArray.size (g94_0 (g142_0 (ByteArray.extract x0 6 (Int.toNat (↑(ByteArray.size x0) : Int))) 65535))) : Int))) ∧ ((ByteArray.size (g143_0 (ByteArray.mk #[48]) (5 - (↑(ByteArray.size (g94_0 (g142_0 (ByteArray.extract x0 6 (Int.toNat (↑(ByteArray.size x0) : Int))) 65535))) : Int))) + ByteArray.size (g94_0 (g142_0 (ByteArray.extract x0 6 (Int.toNat (↑(ByteArray.size x0) : Int))) 65535)) ≤ 9223372036854775807) ∧ (if (!ByteArray.toList (ByteArray.extract x0 0 5) == ByteArray.toList (g143_0 (ByteArray.mk #[48]) (5 - (↑(ByteArray.size (g94_0 (g142_0 (ByteArray.extract x0 6 (Int.toNat (↑(ByteArray.size x0) : Int))) 65535))) : Int)) ++ g94_0 (g142_0 (ByteArray.extract x0 6 (Int.toNat (↑(ByteArray.size x0) : Int))) 65535))) = true then True else ((P138 (g64_0 (ByteArray.extract x0 6 (Int.toNat (↑(ByteArray.size x0) : Int))) (ByteArray.mk #[32]), g64_0 (g64_1 (ByteArray.extract x0 6 (Int.toNat (↑(ByteArray.size x0) : Int))) (ByteArray.mk #[32])) (ByteArray.mk #[32]), g64_1 (g64_1 (ByteArray.extract x0 6 (Int.toNat (↑(ByteArray.size x0) : Int))) (ByteArray.mk #[32])) (ByteArray.mk #[32]), ())) ∧ (if (!g138_0 (g64_0 (ByteArray.extract x0 6 (Int.toNat (↑(ByteArray.size x0) : Int))) (ByteArray.mk #[32]), g64_0 (g64_1 (ByteArray.extract x0 6 (Int.toNat (↑(ByteArray.size x0) : Int))) (ByteArray.mk #[32])) (ByteArray.mk #[32]), g64_1 (g64_1 (ByteArray.extract x0 6 (Int.toNat (↑(ByteArray.size x0) : Int))) (ByteArray.mk #[32])) (ByteArray.mk #[32]), ())) = true then True else ((P96 (g64_0 (ByteArray.extract x0 6 (Int.toNat (↑(ByteArray.size x0) : Int))) (ByteArray.mk #[32]), g64_0 (g64_1 (ByteArray.extract x0 6 (Int.toNat (↑(ByteArray.size x0) : Int))) (ByteArray.mk #[32])) (ByteArray.mk #[32]), g64_1 (g64_1 (ByteArray.extract x0 6 (Int.toNat (↑(ByteArray.size x0) : Int))) (ByteArray.mk #[32])) (ByteArray.mk #[32]), ())) ∧ True))))))))))))))))
def g121_0 (x0 : ByteArray) : ByteArray × ByteArray × ByteArray × Unit := (if (Decidable.decide ((↑(ByteArray.size x0) : Int) < 6)) = true then (ByteArray.empty, ByteArray.empty, ByteArray.empty, ()) else (if ((↑(UInt8.toNat (List.getD (Array.toList (ByteArray.data x0)) 5 0)) : Int) != 32) = true then (ByteArray.empty, ByteArray.empty, ByteArray.empty, ()) else (if (!ByteArray.toList (ByteArray.extract x0 0 5) == ByteArray.toList (g143_0 (ByteArray.mk #[48]) (5 - (↑(ByteArray.size (g94_0 (g142_0 (ByteArray.extract x0 6 (Int.toNat (↑(ByteArray.size x0) : Int))) 65535))) : Int)) ++ g94_0 (g142_0 (ByteArray.extract x0 6 (Int.toNat (↑(ByteArray.size x0) : Int))) 65535))) = true then (ByteArray.empty, ByteArray.empty, ByteArray.empty, ()) else (if (!g138_0 (g64_0 (ByteArray.extract x0 6 (Int.toNat (↑(ByteArray.size x0) : Int))) (ByteArray.mk #[32]), g64_0 (g64_1 (ByteArray.extract x0 6 (Int.toNat (↑(ByteArray.size x0) : Int))) (ByteArray.mk #[32])) (ByteArray.mk #[32]), g64_1 (g64_1 (ByteArray.extract x0 6 (Int.toNat (↑(ByteArray.size x0) : Int))) (ByteArray.mk #[32])) (ByteArray.mk #[32]), ())) = true then (ByteArray.empty, ByteArray.empty, ByteArray.empty, ()) else (if (!ByteArray.toList (g96_0 (g64_0 (ByteArray.extract x0 6 (Int.toNat (↑(ByteArray.size x0) : Int))) (ByteArray.mk #[32]), g64_0 (g64_1 (ByteArray.extract x0 6 (Int.toNat (↑(ByteArray.size x0) : Int))) (ByteArray.mk #[32])) (ByteArray.mk #[32]), g64_1 (g64_1 (ByteArray.extract x0 6 (Int.toNat (↑(ByteArray.size x0) : Int))) (ByteArray.mk #[32])) (ByteArray.mk #[32]), ())) == ByteArray.toList x0) = true then (ByteArray.empty, ByteArray.empty, ByteArray.empty, ()) else (g64_0 (ByteArray.extract x0 6 (Int.toNat (↑(ByteArray.size x0) : Int))) (ByteArray.mk #[32]), g64_0 (g64_1 (ByteArray.extract x0 6 (Int.toNat (↑(ByteArray.size x0) : Int))) (ByteArray.mk #[32])) (ByteArray.mk #[32]), g64_1 (g64_1 (ByteArray.extract x0 6 (Int.toNat (↑(ByteArray.size x0) : Int))) (ByteArray.mk #[32])) (ByteArray.mk #[32]), ()))))))
def g121_1 (x0 : ByteArray) : Int := (if (Decidable.decide ((↑(ByteArray.size x0) : Int) < 6)) = true then 9 else (if ((↑(UInt8.toNat (List.getD (Array.toList (ByteArray.data x0)) 5 0)) : Int) != 32) = true then 9 else (if (!ByteArray.toList (ByteArray.extract x0 0 5) == ByteArray.toList (g143_0 (ByteArray.mk #[48]) (5 - (↑(ByteArray.size (g94_0 (g142_0 (ByteArray.extract x0 6 (Int.toNat (↑(ByteArray.size x0) : Int))) 65535))) : Int)) ++ g94_0 (g142_0 (ByteArray.extract x0 6 (Int.toNat (↑(ByteArray.size x0) : Int))) 65535))) = true then 10 else (if (!g138_0 (g64_0 (ByteArray.extract x0 6 (Int.toNat (↑(ByteArray.size x0) : Int))) (ByteArray.mk #[32]), g64_0 (g64_1 (ByteArray.extract x0 6 (Int.toNat (↑(ByteArray.size x0) : Int))) (ByteArray.mk #[32])) (ByteArray.mk #[32]), g64_1 (g64_1 (ByteArray.extract x0 6 (Int.toNat (↑(ByteArray.size x0) : Int))) (ByteArray.mk #[32])) (ByteArray.mk #[32]), ())) = true then 9 else (if (!ByteArray.toList (g96_0 (g64_0 (ByteArray.extract x0 6 (Int.toNat (↑(ByteArray.size x0) : Int))) (ByteArray.mk #[32]), g64_0 (g64_1 (ByteArray.extract x0 6 (Int.toNat (↑(ByteArray.size x0) : Int))) (ByteArray.mk #[32])) (ByteArray.mk #[32]), g64_1 (g64_1 (ByteArray.extract x0 6 (Int.toNat (↑(ByteArray.size x0) : Int))) (ByteArray.mk #[32])) (ByteArray.mk #[32]), ())) == ByteArray.toList x0) = true then 9 else 0)))))
theorem p121_0 (x0 : ByteArray) : runF tab ext121 false 63 [] 2000 [] tys121 Tryd.f121.results [true, true] [.code b121] (entE 0 0 sig121 (x0, ())) (entL sig121 (x0, ())) = some ([Dyn.mk (Ty.cons Ty.str (Ty.cons Ty.str (Ty.cons Ty.str Ty.unit))) (ByteArray.empty, ByteArray.empty, ByteArray.empty, ()), Dyn.mk (Ty.int IntKind.i64) 9], [], [Decidable.decide ((↑(ByteArray.size x0) : Int) < 6) = Bool.true, Bool.true = Bool.true]) := by kernel_rfl
theorem p121_1 (x0 : ByteArray) : runF tab ext121 false 63 [] 2000 [] tys121 Tryd.f121.results [false, true] [.code b121] (entE 0 0 sig121 (x0, ())) (entL sig121 (x0, ())) = some ([Dyn.mk (Ty.cons Ty.str (Ty.cons Ty.str (Ty.cons Ty.str Ty.unit))) (ByteArray.empty, ByteArray.empty, ByteArray.empty, ()), Dyn.mk (Ty.int IntKind.i64) 9], [], [Decidable.decide ((↑(ByteArray.size x0) : Int) < 6) = Bool.false, (0 : Int) ≤ (5 : Int), 5 < (↑(ByteArray.size x0) : Int), ((↑(UInt8.toNat (List.getD (Array.toList (ByteArray.data x0)) 5 0)) : Int) != 32) = Bool.true]) := by kernel_rfl
theorem p121_2 (x0 : ByteArray) : runF tab ext121 false 63 [] 2000 [] tys121 Tryd.f121.results [false, false, true] [.code b121] (entE 0 0 sig121 (x0, ())) (entL sig121 (x0, ())) = some ([Dyn.mk (Ty.cons Ty.str (Ty.cons Ty.str (Ty.cons Ty.str Ty.unit))) (ByteArray.empty, ByteArray.empty, ByteArray.empty, ()), Dyn.mk (Ty.int IntKind.i64) 10], [], [Decidable.decide ((↑(ByteArray.size x0) : Int) < 6) = Bool.false, (0 : Int) ≤ (5 : Int), 5 < (↑(ByteArray.size x0) : Int), ((↑(UInt8.toNat (List.getD (Array.toList (ByteArray.data x0)) 5 0)) : Int) != 32) = Bool.false, (0 : Int) ≤ (6 : Int), 6 ≤ (↑(ByteArray.size x0) : Int), P64 (ByteArray.extract x0 6 (Int.toNat (↑(ByteArray.size x0) : Int))) (ByteArray.mk #[32]), P64 (g64_1 (ByteArray.extract x0 6 (Int.toNat (↑(ByteArray.size x0) : Int))) (ByteArray.mk #[32])) (ByteArray.mk #[32]), (0 : Int) ≤ (6 : Int), 6 ≤ (↑(ByteArray.size x0) : Int), True, P94 (g142_0 (ByteArray.extract x0 6 (Int.toNat (↑(ByteArray.size x0) : Int))) 65535), (0 : Int) ≤ (5 : Int), 5 ≤ (↑(ByteArray.size x0) : Int), InR IntKind.i64 (5 - (↑(ByteArray.size (g94_0 (g142_0 (ByteArray.extract x0 6 (Int.toNat (↑(ByteArray.size x0) : Int))) 65535))) : Int)), P143 (ByteArray.mk #[48]) (5 - (↑(ByteArray.size (g94_0 (g142_0 (ByteArray.extract x0 6 (Int.toNat (↑(ByteArray.size x0) : Int))) 65535))) : Int)), ByteArray.size (g143_0 (ByteArray.mk #[48]) (5 - (↑(ByteArray.size (g94_0 (g142_0 (ByteArray.extract x0 6 (Int.toNat (↑(ByteArray.size x0) : Int))) 65535))) : Int))) + ByteArray.size (g94_0 (g142_0 (ByteArray.extract x0 6 (Int.toNat (↑(ByteArray.size x0) : Int))) 65535)) ≤ 9223372036854775807, (!ByteArray.toList (ByteArray.extract x0 0 5) == ByteArray.toList (g143_0 (ByteArray.mk #[48]) (5 - (↑(ByteArray.size (g94_0 (g142_0 (ByteArray.extract x0 6 (Int.toNat (↑(ByteArray.size x0) : Int))) 65535))) : Int)) ++ g94_0 (g142_0 (ByteArray.extract x0 6 (Int.toNat (↑(ByteArray.size x0) : Int))) 65535))) = Bool.true]) := by kernel_rfl
theorem p121_3 (x0 : ByteArray) : runF tab ext121 false 63 [] 2000 [] tys121 Tryd.f121.results [false, false, false, true, true] [.code b121] (entE 0 0 sig121 (x0, ())) (entL sig121 (x0, ())) = some ([Dyn.mk (Ty.cons Ty.str (Ty.cons Ty.str (Ty.cons Ty.str Ty.unit))) (ByteArray.empty, ByteArray.empty, ByteArray.empty, ()), Dyn.mk (Ty.int IntKind.i64) 9], [], [Decidable.decide ((↑(ByteArray.size x0) : Int) < 6) = Bool.false, (0 : Int) ≤ (5 : Int), 5 < (↑(ByteArray.size x0) : Int), ((↑(UInt8.toNat (List.getD (Array.toList (ByteArray.data x0)) 5 0)) : Int) != 32) = Bool.false, (0 : Int) ≤ (6 : Int), 6 ≤ (↑(ByteArray.size x0) : Int), P64 (ByteArray.extract x0 6 (Int.toNat (↑(ByteArray.size x0) : Int))) (ByteArray.mk #[32]), P64 (g64_1 (ByteArray.extract x0 6 (Int.toNat (↑(ByteArray.size x0) : Int))) (ByteArray.mk #[32])) (ByteArray.mk #[32]), (0 : Int) ≤ (6 : Int), 6 ≤ (↑(ByteArray.size x0) : Int), True, P94 (g142_0 (ByteArray.extract x0 6 (Int.toNat (↑(ByteArray.size x0) : Int))) 65535), (0 : Int) ≤ (5 : Int), 5 ≤ (↑(ByteArray.size x0) : Int), InR IntKind.i64 (5 - (↑(ByteArray.size (g94_0 (g142_0 (ByteArray.extract x0 6 (Int.toNat (↑(ByteArray.size x0) : Int))) 65535))) : Int)), P143 (ByteArray.mk #[48]) (5 - (↑(ByteArray.size (g94_0 (g142_0 (ByteArray.extract x0 6 (Int.toNat (↑(ByteArray.size x0) : Int))) 65535))) : Int)), ByteArray.size (g143_0 (ByteArray.mk #[48]) (5 - (↑(ByteArray.size (g94_0 (g142_0 (ByteArray.extract x0 6 (Int.toNat (↑(ByteArray.size x0) : Int))) 65535))) : Int))) + ByteArray.size (g94_0 (g142_0 (ByteArray.extract x0 6 (Int.toNat (↑(ByteArray.size x0) : Int))) 65535)) ≤ 9223372036854775807, (!ByteArray.toList (ByteArray.extract x0 0 5) == ByteArray.toList (g143_0 (ByteArray.mk #[48]) (5 - (↑(ByteArray.size (g94_0 (g142_0 (ByteArray.extract x0 6 (Int.toNat (↑(ByteArray.size x0) : Int))) 65535))) : Int)) ++ g94_0 (g142_0 (ByteArray.extract x0 6 (Int.toNat (↑(ByteArray.size x0) : Int))) 65535))) = Bool.false, P138 (g64_0 (ByteArray.extract x0 6 (Int.toNat (↑(ByteArray.size x0) : Int))) (ByteArray.mk #[32]), g64_0 (g64_1 (ByteArray.extract x0 6 (Int.toNat (↑(ByteArray.size x0) : Int))) (ByteArray.mk #[32])) (ByteArray.mk #[32]), g64_1 (g64_1 (ByteArray.extract x0 6 (Int.toNat (↑(ByteArray.size x0) : Int))) (ByteArray.mk #[32])) (ByteArray.mk #[32]), ()), (!g138_0 (g64_0 (ByteArray.extract x0 6 (Int.toNat (↑(ByteArray.size x0) : Int))) (ByteArray.mk #[32]), g64_0 (g64_1 (ByteArray.extract x0 6 (Int.toNat (↑(ByteArray.size x0) : Int))) (ByteArray.mk #[32])) (ByteArray.mk #[32]), g64_1 (g64_1 (ByteArray.extract x0 6 (Int.toNat (↑(ByteArray.size x0) : Int))) (ByteArray.mk #[32])) (ByteArray.mk #[32]), ())) = Bool.true, Bool.true = Bool.true]) := by kernel_rfl
theorem p121_4 (x0 : ByteArray) : runF tab ext121 false 63 [] 2000 [] tys121 Tryd.f121.results [false, false, false, false, true] [.code b121] (entE 0 0 sig121 (x0, ())) (entL sig121 (x0, ())) = some ([Dyn.mk (Ty.cons Ty.str (Ty.cons Ty.str (Ty.cons Ty.str Ty.unit))) (ByteArray.empty, ByteArray.empty, ByteArray.empty, ()), Dyn.mk (Ty.int IntKind.i64) 9], [], [Decidable.decide ((↑(ByteArray.size x0) : Int) < 6) = Bool.false, (0 : Int) ≤ (5 : Int), 5 < (↑(ByteArray.size x0) : Int), ((↑(UInt8.toNat (List.getD (Array.toList (ByteArray.data x0)) 5 0)) : Int) != 32) = Bool.false, (0 : Int) ≤ (6 : Int), 6 ≤ (↑(ByteArray.size x0) : Int), P64 (ByteArray.extract x0 6 (Int.toNat (↑(ByteArray.size x0) : Int))) (ByteArray.mk #[32]), P64 (g64_1 (ByteArray.extract x0 6 (Int.toNat (↑(ByteArray.size x0) : Int))) (ByteArray.mk #[32])) (ByteArray.mk #[32]), (0 : Int) ≤ (6 : Int), 6 ≤ (↑(ByteArray.size x0) : Int), True, P94 (g142_0 (ByteArray.extract x0 6 (Int.toNat (↑(ByteArray.size x0) : Int))) 65535), (0 : Int) ≤ (5 : Int), 5 ≤ (↑(ByteArray.size x0) : Int), InR IntKind.i64 (5 - (↑(ByteArray.size (g94_0 (g142_0 (ByteArray.extract x0 6 (Int.toNat (↑(ByteArray.size x0) : Int))) 65535))) : Int)), P143 (ByteArray.mk #[48]) (5 - (↑(ByteArray.size (g94_0 (g142_0 (ByteArray.extract x0 6 (Int.toNat (↑(ByteArray.size x0) : Int))) 65535))) : Int)), ByteArray.size (g143_0 (ByteArray.mk #[48]) (5 - (↑(ByteArray.size (g94_0 (g142_0 (ByteArray.extract x0 6 (Int.toNat (↑(ByteArray.size x0) : Int))) 65535))) : Int))) + ByteArray.size (g94_0 (g142_0 (ByteArray.extract x0 6 (Int.toNat (↑(ByteArray.size x0) : Int))) 65535)) ≤ 9223372036854775807, (!ByteArray.toList (ByteArray.extract x0 0 5) == ByteArray.toList (g143_0 (ByteArray.mk #[48]) (5 - (↑(ByteArray.size (g94_0 (g142_0 (ByteArray.extract x0 6 (Int.toNat (↑(ByteArray.size x0) : Int))) 65535))) : Int)) ++ g94_0 (g142_0 (ByteArray.extract x0 6 (Int.toNat (↑(ByteArray.size x0) : Int))) 65535))) = Bool.false, P138 (g64_0 (ByteArray.extract x0 6 (Int.toNat (↑(ByteArray.size x0) : Int))) (ByteArray.mk #[32]), g64_0 (g64_1 (ByteArray.extract x0 6 (Int.toNat (↑(ByteArray.size x0) : Int))) (ByteArray.mk #[32])) (ByteArray.mk #[32]), g64_1 (g64_1 (ByteArray.extract x0 6 (Int.toNat (↑(ByteArray.size x0) : Int))) (ByteArray.mk #[32])) (ByteArray.mk #[32]), ()), (!g138_0 (g64_0 (ByteArray.extract x0 6 (Int.toNat (↑(ByteArray.size x0) : Int))) (ByteArray.mk #[32]), g64_0 (g64_1 (ByteArray.extract x0 6 (Int.toNat (↑(ByteArray.size x0) : Int))) (ByteArray.mk #[32])) (ByteArray.mk #[32]), g64_1 (g64_1 (ByteArray.extract x0 6 (Int.toNat (↑(ByteArray.size x0) : Int))) (ByteArray.mk #[32])) (ByteArray.mk #[32]), ())) = Bool.false, P96 (g64_0 (ByteArray.extract x0 6 (Int.toNat (↑(ByteArray.size x0) : Int))) (ByteArray.mk #[32]), g64_0 (g64_1 (ByteArray.extract x0 6 (Int.toNat (↑(ByteArray.size x0) : Int))) (ByteArray.mk #[32])) (ByteArray.mk #[32]), g64_1 (g64_1 (ByteArray.extract x0 6 (Int.toNat (↑(ByteArray.size x0) : Int))) (ByteArray.mk #[32])) (ByteArray.mk #[32]), ()), (!ByteArray.toList (g96_0 (g64_0 (ByteArray.extract x0 6 (Int.toNat (↑(ByteArray.size x0) : Int))) (ByteArray.mk #[32]), g64_0 (g64_1 (ByteArray.extract x0 6 (Int.toNat (↑(ByteArray.size x0) : Int))) (ByteArray.mk #[32])) (ByteArray.mk #[32]), g64_1 (g64_1 (ByteArray.extract x0 6 (Int.toNat (↑(ByteArray.size x0) : Int))) (ByteArray.mk #[32])) (ByteArray.mk #[32]), ())) == ByteArray.toList x0) = Bool.true]) := by kernel_rfl
theorem p121_5 (x0 : ByteArray) : runF tab ext121 false 63 [] 2000 [] tys121 Tryd.f121.results [false, false, false, false, false] [.code b121] (entE 0 0 sig121 (x0, ())) (entL sig121 (x0, ())) = some ([Dyn.mk (Ty.cons Ty.str (Ty.cons Ty.str (Ty.cons Ty.str Ty.unit))) (g64_0 (ByteArray.extract x0 6 (Int.toNat (↑(ByteArray.size x0) : Int))) (ByteArray.mk #[32]), g64_0 (g64_1 (ByteArray.extract x0 6 (Int.toNat (↑(ByteArray.size x0) : Int))) (ByteArray.mk #[32])) (ByteArray.mk #[32]), g64_1 (g64_1 (ByteArray.extract x0 6 (Int.toNat (↑(ByteArray.size x0) : Int))) (ByteArray.mk #[32])) (ByteArray.mk #[32]), ()), Dyn.mk (Ty.int IntKind.i64) 0], [], [Decidable.decide ((↑(ByteArray.size x0) : Int) < 6) = Bool.false, (0 : Int) ≤ (5 : Int), 5 < (↑(ByteArray.size x0) : Int), ((↑(UInt8.toNat (List.getD (Array.toList (ByteArray.data x0)) 5 0)) : Int) != 32) = Bool.false, (0 : Int) ≤ (6 : Int), 6 ≤ (↑(ByteArray.size x0) : Int), P64 (ByteArray.extract x0 6 (Int.toNat (↑(ByteArray.size x0) : Int))) (ByteArray.mk #[32]), P64 (g64_1 (ByteArray.extract x0 6 (Int.toNat (↑(ByteArray.size x0) : Int))) (ByteArray.mk #[32])) (ByteArray.mk #[32]), (0 : Int) ≤ (6 : Int), 6 ≤ (↑(ByteArray.size x0) : Int), True, P94 (g142_0 (ByteArray.extract x0 6 (Int.toNat (↑(ByteArray.size x0) : Int))) 65535), (0 : Int) ≤ (5 : Int), 5 ≤ (↑(ByteArray.size x0) : Int), InR IntKind.i64 (5 - (↑(ByteArray.size (g94_0 (g142_0 (ByteArray.extract x0 6 (Int.toNat (↑(ByteArray.size x0) : Int))) 65535))) : Int)), P143 (ByteArray.mk #[48]) (5 - (↑(ByteArray.size (g94_0 (g142_0 (ByteArray.extract x0 6 (Int.toNat (↑(ByteArray.size x0) : Int))) 65535))) : Int)), ByteArray.size (g143_0 (ByteArray.mk #[48]) (5 - (↑(ByteArray.size (g94_0 (g142_0 (ByteArray.extract x0 6 (Int.toNat (↑(ByteArray.size x0) : Int))) 65535))) : Int))) + ByteArray.size (g94_0 (g142_0 (ByteArray.extract x0 6 (Int.toNat (↑(ByteArray.size x0) : Int))) 65535)) ≤ 9223372036854775807, (!ByteArray.toList (ByteArray.extract x0 0 5) == ByteArray.toList (g143_0 (ByteArray.mk #[48]) (5 - (↑(ByteArray.size (g94_0 (g142_0 (ByteArray.extract x0 6 (Int.toNat (↑(ByteArray.size x0) : Int))) 65535))) : Int)) ++ g94_0 (g142_0 (ByteArray.extract x0 6 (Int.toNat (↑(ByteArray.size x0) : Int))) 65535))) = Bool.false, P138 (g64_0 (ByteArray.extract x0 6 (Int.toNat (↑(ByteArray.size x0) : Int))) (ByteArray.mk #[32]), g64_0 (g64_1 (ByteArray.extract x0 6 (Int.toNat (↑(ByteArray.size x0) : Int))) (ByteArray.mk #[32])) (ByteArray.mk #[32]), g64_1 (g64_1 (ByteArray.extract x0 6 (Int.toNat (↑(ByteArray.size x0) : Int))) (ByteArray.mk #[32])) (ByteArray.mk #[32]), ()), (!g138_0 (g64_0 (ByteArray.extract x0 6 (Int.toNat (↑(ByteArray.size x0) : Int))) (ByteArray.mk #[32]), g64_0 (g64_1 (ByteArray.extract x0 6 (Int.toNat (↑(ByteArray.size x0) : Int))) (ByteArray.mk #[32])) (ByteArray.mk #[32]), g64_1 (g64_1 (ByteArray.extract x0 6 (Int.toNat (↑(ByteArray.size x0) : Int))) (ByteArray.mk #[32])) (ByteArray.mk #[32]), ())) = Bool.false, P96 (g64_0 (ByteArray.extract x0 6 (Int.toNat (↑(ByteArray.size x0) : Int))) (ByteArray.mk #[32]), g64_0 (g64_1 (ByteArray.extract x0 6 (Int.toNat (↑(ByteArray.size x0) : Int))) (ByteArray.mk #[32])) (ByteArray.mk #[32]), g64_1 (g64_1 (ByteArray.extract x0 6 (Int.toNat (↑(ByteArray.size x0) : Int))) (ByteArray.mk #[32])) (ByteArray.mk #[32]), ()), (!ByteArray.toList (g96_0 (g64_0 (ByteArray.extract x0 6 (Int.toNat (↑(ByteArray.size x0) : Int))) (ByteArray.mk #[32]), g64_0 (g64_1 (ByteArray.extract x0 6 (Int.toNat (↑(ByteArray.size x0) : Int))) (ByteArray.mk #[32])) (ByteArray.mk #[32]), g64_1 (g64_1 (ByteArray.extract x0 6 (Int.toNat (↑(ByteArray.size x0) : Int))) (ByteArray.mk #[32])) (ByteArray.mk #[32]), ())) == ByteArray.toList x0) = Bool.false]) := by kernel_rfl
theorem at121 (x0 : ByteArray) (h : P121 x0) (w0 : World) (O : List Nat) (q : Nat → Value) : AtV Tryd.prog 121 (PostR [⟨Ty.cons Ty.str (Ty.cons Ty.str (Ty.cons Ty.str Ty.unit)), g121_0 x0⟩, ⟨Ty.int IntKind.i64, g121_1 x0⟩] [] [] q w0 O) 63 w0 O q [] [.code b121] (entE 0 0 sig121 (x0, ())) (entL sig121 (x0, ())) := by
  unfold P121 at h
  unfold g121_0 g121_1
  by_cases b0 : (Decidable.decide ((↑(ByteArray.size x0) : Int) < 6)) = true
  · try simp only [if_pos b0] at h ⊢
    exact AtV.fin Tryd.func121 tabOk ext121Ok mixed (p121_0 x0) ⟨b0, rfl, trivial⟩
  · try simp only [if_neg b0] at h ⊢
    replace b0 := Bool.eq_false_iff.2 b0
    obtain ⟨s0, h⟩ := h
    by_cases b1 : ((↑(UInt8.toNat (List.getD (Array.toList (ByteArray.data x0)) 5 0)) : Int) != 32) = true
    · try simp only [if_pos b1] at h ⊢
      exact AtV.fin Tryd.func121 tabOk ext121Ok mixed (p121_1 x0) ⟨b0, (by decide), s0, b1, trivial⟩
    · try simp only [if_neg b1] at h ⊢
      replace b1 := Bool.eq_false_iff.2 b1
      obtain ⟨s1, h⟩ := h
      obtain ⟨s2, h⟩ := h
      obtain ⟨s3, h⟩ := h
      obtain ⟨s4, h⟩ := h
      obtain ⟨s5, h⟩ := h
      obtain ⟨s6, h⟩ := h
      obtain ⟨s7, h⟩ := h
      obtain ⟨s8, h⟩ := h
      obtain ⟨s9, h⟩ := h
      by_cases b2 : (!ByteArray.toList (ByteArray.extract x0 0 5) == ByteArray.toList (g143_0 (ByteArray.mk #[48]) (5 - (↑(ByteArray.size (g94_0 (g142_0 (ByteArray.extract x0 6 (Int.toNat (↑(ByteArray.size x0) : Int))) 65535))) : Int)) ++ g94_0 (g142_0 (ByteArray.extract x0 6 (Int.toNat (↑(ByteArray.size x0) : Int))) 65535))) = true
      · try simp only [if_pos b2] at h ⊢
        exact AtV.fin Tryd.func121 tabOk ext121Ok mixed (p121_2 x0) ⟨b0, (by decide), s0, b1, (by decide), s1, s2, s3, (by decide), s4, trivial, s5, (by decide), s6, s7, s8, s9, b2, trivial⟩
      · try simp only [if_neg b2] at h ⊢
        replace b2 := Bool.eq_false_iff.2 b2
        obtain ⟨s10, h⟩ := h
        by_cases b3 : (!g138_0 (g64_0 (ByteArray.extract x0 6 (Int.toNat (↑(ByteArray.size x0) : Int))) (ByteArray.mk #[32]), g64_0 (g64_1 (ByteArray.extract x0 6 (Int.toNat (↑(ByteArray.size x0) : Int))) (ByteArray.mk #[32])) (ByteArray.mk #[32]), g64_1 (g64_1 (ByteArray.extract x0 6 (Int.toNat (↑(ByteArray.size x0) : Int))) (ByteArray.mk #[32])) (ByteArray.mk #[32]), ())) = true
        · try simp only [if_pos b3] at h ⊢
          exact AtV.fin Tryd.func121 tabOk ext121Ok mixed (p121_3 x0) ⟨b0, (by decide), s0, b1, (by decide), s1, s2, s3, (by decide), s4, trivial, s5, (by decide), s6, s7, s8, s9, b2, s10, b3, rfl, trivial⟩
        · try simp only [if_neg b3] at h ⊢
          replace b3 := Bool.eq_false_iff.2 b3
          obtain ⟨s11, h⟩ := h
          by_cases b4 : (!ByteArray.toList (g96_0 (g64_0 (ByteArray.extract x0 6 (Int.toNat (↑(ByteArray.size x0) : Int))) (ByteArray.mk #[32]), g64_0 (g64_1 (ByteArray.extract x0 6 (Int.toNat (↑(ByteArray.size x0) : Int))) (ByteArray.mk #[32])) (ByteArray.mk #[32]), g64_1 (g64_1 (ByteArray.extract x0 6 (Int.toNat (↑(ByteArray.size x0) : Int))) (ByteArray.mk #[32])) (ByteArray.mk #[32]), ())) == ByteArray.toList x0) = true
          · try simp only [if_pos b4] at h ⊢
            exact AtV.fin Tryd.func121 tabOk ext121Ok mixed (p121_4 x0) ⟨b0, (by decide), s0, b1, (by decide), s1, s2, s3, (by decide), s4, trivial, s5, (by decide), s6, s7, s8, s9, b2, s10, b3, s11, b4, trivial⟩
          · try simp only [if_neg b4] at h ⊢
            replace b4 := Bool.eq_false_iff.2 b4
            exact AtV.fin Tryd.func121 tabOk ext121Ok mixed (p121_5 x0) ⟨b0, (by decide), s0, b1, (by decide), s1, s2, s3, (by decide), s4, trivial, s5, (by decide), s6, s7, s8, s9, b2, s10, b3, s11, b4, trivial⟩

def S121 : Am.Spec := { sig := sig121, pre := fun ⟨x0, _⟩ => P121 x0, res := fun ⟨x0, _⟩ => [⟨Ty.cons Ty.str (Ty.cons Ty.str (Ty.cons Ty.str Ty.unit)), g121_0 x0⟩, ⟨Ty.int IntKind.i64, g121_1 x0⟩] }
theorem con121 : Contract Tryd.prog 121 S121 := contract_of Tryd.func121 hb121 (Nat.le_of_ble_eq_true (by kernel_rfl)) (fun ⟨x0, _⟩ h _ w0 O q => at121 x0 h w0 O q)


end Go.Proofs.YtakodkjcmacofaaDoor

/- Function 122 (impl.size[string]): its runs between cut points. Written by a program of this repo (gen). -/
set_option linter.unusedVariables false
set_option linter.unusedSimpArgs false
set_option maxRecDepth 100000
namespace Go.Proofs.YtakodkjcmacofaaDoor
open Go Go.Am Go.Proofs
def ext122 : Ext := []
theorem ext122Ok : ExtOk Tryd.prog ext122 := trivial
/-! Function 122. -/
noncomputable def b122 : Code := bodyOf Tryd.f122
theorem hb122 : Tryd.f122.body = some b122 := by kernel_rfl
def sig122 : List AT := [AT.v (Ty.sl Ty.str)]
def tys122 : List Ty := [Ty.int IntKind.i64]
def P122 (x0 : List ByteArray) : Prop := True
def g122_0 (x0 : List ByteArray) : Int := (↑(List.length x0) : Int)
theorem p122_0 (x0 : List ByteArray) : runF tab ext122 false 5 [] 2000 [] tys122 Tryd.f122.results [] [.code b122] (entE 0 0 sig122 (x0, ())) (entL sig122 (x0, ())) = some ([Dyn.mk (Ty.int IntKind.i64) (↑(List.length x0) : Int)], [], []) := by kernel_rfl
theorem at122 (x0 : List ByteArray) (h : P122 x0) (w0 : World) (O : List Nat) (q : Nat → Value) : AtV Tryd.prog 122 (PostR [⟨Ty.int IntKind.i64, g122_0 x0⟩] [] [] q w0 O) 5 w0 O q [] [.code b122] (entE 0 0 sig122 (x0, ())) (entL sig122 (x0, ())) := by
  unfold P122 at h
  unfold g122_0
  exact AtV.fin Tryd.func122 tabOk ext122Ok mixed (p122_0 x0) trivial

def S122 : Am.Spec := { sig := sig122, pre := fun ⟨x0, _⟩ => P122 x0, res := fun ⟨x0, _⟩ => [⟨Ty.int IntKind.i64, g122_0 x0⟩] }
theorem con122 : Contract Tryd.prog 122 S122 := contract_of Tryd.func122 hb122 (Nat.le_of_ble_eq_true (by kernel_rfl)) (fun ⟨x0, _⟩ h _ w0 O q => at122 x0 h w0 O q)


end Go.Proofs.YtakodkjcmacofaaDoor

/- Function 59 (impl.DamagedLines): its runs between cut points. Written by a program of this repo (gen). -/
set_option linter.unusedVariables false
set_option linter.unusedSimpArgs false
set_option maxRecDepth 100000
namespace Go.Proofs.YtakodkjcmacofaaDoor
open Go Go.Am Go.Proofs
def ext59 : Ext := [(120, S120), (121, S121), (122, S122)]
theorem call59_120 : Callable Tryd.prog 120 := ⟨Tryd.f120, Tryd.func120, by kernel_rfl, by kernel_rfl⟩
theorem call59_121 : Callable Tryd.prog 121 := ⟨Tryd.f121, Tryd.func121, by kernel_rfl, by kernel_rfl⟩
theorem call59_122 : Callable Tryd.prog 122 := ⟨Tryd.f122, Tryd.func122, by kernel_rfl, by kernel_rfl⟩
theorem ext59Ok : ExtOk Tryd.prog ext59 := ⟨⟨call59_120, con120⟩, ⟨call59_121, con121⟩, ⟨call59_122, con122⟩, trivial⟩
/-! Function 59. -/
noncomputable def b59 : Code := bodyOf Tryd.f59
theorem hb59 : Tryd.f59.body = some b59 := by kernel_rfl
def sig59 : List AT := [AT.v (Ty.str)]
def tys59 : List Ty := [Ty.sl (Ty.int IntKind.i64)]
def E59_4 (v17 : Int) (h1 : List Int) (x0 : ByteArray) : Env := [(3, PV.a (Atom.osl 0 Option.none)), (4, PV.a (Atom.val (Value.string (g120_1 x0)))), (5, PV.a (Atom.osl 1 Option.none)), (15, PV.a (Atom.osl 0 Option.none)), (16, PV.a (Atom.val (Value.int IntKind.i64 (↑(List.length (g120_0 x0)) : Int)))), (17, PV.a (Atom.val (Value.int IntKind.i64 v17)))]
def L59_4 (v17 : Int) (h1 : List Int) (x0 : ByteArray) : Heap := [Option.some (Arr.mk Ty.str (g120_0 x0) Bool.false), Option.some (Arr.mk (Ty.int IntKind.i64) h1 Bool.false)]
mutual
def R59 : Nat → ByteArray → List Dyn → Prop
  | 0, _, _ => False
  | n + 1, x0, ds => ((P120 x0) ∧ (R59_4 n (0) ([]) (x0) ds))
def R59_4 : Nat → Int → List Int → ByteArray → List Dyn → Prop
  | 0, _, _, _, _ => False
  | n + 1, v17, h1, x0, ds => (if (Decidable.decide (v17 < (↑(List.length (g120_0 x0)) : Int))) = true then ((0 ≤ v17) ∧ (v17 < (↑(List.length (g120_0 x0)) : Int)) ∧ ((P121 (List.getD (g120_0 x0) (Int.toNat v17) ByteArray.empty)) ∧ (if (Decidable.decide (v17 > 0)) = true then (if (g121_1 (List.getD (g120_0 x0) (Int.toNat v17) ByteArray.empty) != 0) = true then ((InR IntKind.i64 (v17 + 1)) ∧ (((List.length h1 + 1) * 8 ≤ 140737488355328) ∧ ((InR IntKind.i64 (v17 + 1)) ∧ (R59_4 n (v17 + 1) (h1 ++ [v17 + 1]) (x0) ds)))) else ((InR IntKind.i64 (v17 + 1)) ∧ (R59_4 n (v17 + 1) (h1) (x0) ds))) else ((InR IntKind.i64 (v17 + 1)) ∧ (R59_4 n (v17 + 1) (h1) (x0) ds))))) else (if (!ByteArray.toList (g120_1 x0) == ByteArray.toList (ByteArray.mk #[])) = true then ((InR IntKind.i64 (g122_0 (g120_0 x0) + 1)) ∧ (((List.length h1 + 1) * 8 ≤ 140737488355328) ∧ (ds = [Dyn.mk (Ty.sl (Ty.int IntKind.i64)) (h1 ++ [g122_0 (g120_0 x0) + 1])]))) else (ds = [Dyn.mk (Ty.sl (Ty.int IntKind.i64)) h1])))
end
theorem p59_0 (x0 : ByteArray) : Am.runN tab ext59 false 48 [] 2000 [] [(5, Ty.int IntKind.i64)] [3, 4, 5, 15, 16, 17] [0, 1] [] [.code b59] (entE 0 0 sig59 (x0, ())) (entL sig59 (x0, ())) = some (cutAt b59 4, E59_4 (0) ([]) (x0), L59_4 (0) ([]) (x0), [P120 x0]) := by kernel_rfl
theorem p59_1 (v17 : Int) (h1 : List Int) (x0 : ByteArray) : Am.runN tab ext59 false 48 [] 2000 [] [(5, Ty.int IntKind.i64)] [3, 4, 5, 15, 16, 17] [0, 1] [true, true, true] (cutAt b59 4) (E59_4 v17 h1 x0) (L59_4 v17 h1 x0) = some (cutAt b59 4, E59_4 (v17 + 1) (h1 ++ [v17 + 1]) (x0), L59_4 (v17 + 1) (h1 ++ [v17 + 1]) (x0), [Decidable.decide (v17 < (↑(List.length (g120_0 x0)) : Int)) = Bool.true, 0 ≤ v17, v17 < (↑(List.length (g120_0 x0)) : Int), P121 (List.getD (g120_0 x0) (Int.toNat v17) ByteArray.empty), Decidable.decide (v17 > 0) = Bool.true, (g121_1 (List.getD (g120_0 x0) (Int.toNat v17) ByteArray.empty) != 0) = Bool.true, InR IntKind.i64 (v17 + 1), (List.length h1 + 1) * 8 ≤ 140737488355328, InR IntKind.i64 (v17 + 1)]) := by kernel_rfl
theorem p59_2 (v17 : Int) (h1 : List Int) (x0 : ByteArray) : Am.runN tab ext59 false 48 [] 2000 [] [(5, Ty.int IntKind.i64)] [3, 4, 5, 15, 16, 17] [0, 1] [true, true, false] (cutAt b59 4) (E59_4 v17 h1 x0) (L59_4 v17 h1 x0) = some (cutAt b59 4, E59_4 (v17 + 1) (h1) (x0), L59_4 (v17 + 1) (h1) (x0), [Decidable.decide (v17 < (↑(List.length (g120_0 x0)) : Int)) = Bool.true, 0 ≤ v17, v17 < (↑(List.length (g120_0 x0)) : Int), P121 (List.getD (g120_0 x0) (Int.toNat v17) ByteArray.empty), Decidable.decide (v17 > 0) = Bool.true, (g121_1 (List.getD (g120_0 x0) (Int.toNat v17) ByteArray.empty) != 0) = Bool.false, InR IntKind.i64 (v17 + 1)]) := by kernel_rfl
theorem p59_3 (v17 : Int) (h1 : List Int) (x0 : ByteArray) : Am.runN tab ext59 false 48 [] 2000 [] [(5, Ty.int IntKind.i64)] [3, 4, 5, 15, 16, 17] [0, 1] [true, false, false] (cutAt b59 4) (E59_4 v17 h1 x0) (L59_4 v17 h1 x0) = some (cutAt b59 4, E59_4 (v17 + 1) (h1) (x0), L59_4 (v17 + 1) (h1) (x0), [Decidable.decide (v17 < (↑(List.length (g120_0 x0)) : Int)) = Bool.true, 0 ≤ v17, v17 < (↑(List.length (g120_0 x0)) : Int), P121 (List.getD (g120_0 x0) (Int.toNat v17) ByteArray.empty), Decidable.decide (v17 > 0) = Bool.false, Bool.false = Bool.false, InR IntKind.i64 (v17 + 1)]) := by kernel_rfl
theorem p59_4 (v17 : Int) (h1 : List Int) (x0 : ByteArray) : runF tab ext59 false 48 [] 2000 [] tys59 Tryd.f59.results [false, true] (cutAt b59 4) (E59_4 v17 h1 x0) (L59_4 v17 h1 x0) = some ([Dyn.mk (Ty.sl (Ty.int IntKind.i64)) (h1 ++ [g122_0 (g120_0 x0) + 1])], [], [Decidable.decide (v17 < (↑(List.length (g120_0 x0)) : Int)) = Bool.false, (!ByteArray.toList (g120_1 x0) == ByteArray.toList (ByteArray.mk #[])) = Bool.true, True, InR IntKind.i64 (g122_0 (g120_0 x0) + 1), (List.length h1 + 1) * 8 ≤ 140737488355328]) := by kernel_rfl
theorem p59_5 (v17 : Int) (h1 : List Int) (x0 : ByteArray) : runF tab ext59 false 48 [] 2000 [] tys59 Tryd.f59.results [false, false] (cutAt b59 4) (E59_4 v17 h1 x0) (L59_4 v17 h1 x0) = some ([Dyn.mk (Ty.sl (Ty.int IntKind.i64)) h1], [], [Decidable.decide (v17 < (↑(List.length (g120_0 x0)) : Int)) = Bool.false, (!ByteArray.toList (g120_1 x0) == ByteArray.toList (ByteArray.mk #[])) = Bool.false]) := by kernel_rfl
theorem snd59 : ∀ n, (∀ (x0 : ByteArray) ds, R59 n x0 ds → ∀ w0 O q, AtV Tryd.prog 59 (PostR ds [] [] q w0 O) 48 w0 O q [] [.code b59] (entE 0 0 sig59 (x0, ())) (entL sig59 (x0, ()))) ∧ (∀ (v17 : Int) (h1 : List Int) (x0 : ByteArray) ds, R59_4 n v17 h1 x0 ds → ∀ w0 O q, AtV Tryd.prog 59 (PostR ds [] [] q w0 O) 48 w0 O q [] (cutAt b59 4) (E59_4 v17 h1 x0) (L59_4 v17 h1 x0)) := by
  intro n
  induction n with
  | zero => exact ⟨fun _ _ h => by simp only [R59] at h, fun _ _ _ _ h => by simp only [R59_4] at h⟩
  | succ n ih =>
  obtain ⟨ih, ih4⟩ := ih
  refine ⟨?_, ?_⟩
  · intro x0 ds h w0 O q
    rw [R59] at h
    obtain ⟨s0, h⟩ := h
    exact AtV.runN tabOk ext59Ok mixed (p59_0 x0) ⟨s0, trivial⟩ (ih4 _ _ _ _ h w0 O q)

  · intro v17 h1 x0 ds h w0 O q
    rw [R59_4] at h
    by_cases b0 : (Decidable.decide (v17 < (↑(List.length (g120_0 x0)) : Int))) = true
    · rw [if_pos b0] at h
      obtain ⟨s0, s1, h⟩ := h
      obtain ⟨s2, h⟩ := h
      by_cases b1 : (Decidable.decide (v17 > 0)) = true
      · rw [if_pos b1] at h
        by_cases b2 : (g121_1 (List.getD (g120_0 x0) (Int.toNat v17) ByteArray.empty) != 0) = true
        · rw [if_pos b2] at h
          obtain ⟨s3, h⟩ := h
          obtain ⟨s4, h⟩ := h
          obtain ⟨s5, h⟩ := h
          exact AtV.runN tabOk ext59Ok mixed (p59_1 v17 h1 x0) ⟨b0, s0, s1, s2, b1, b2, s3, s4, s5, trivial⟩ (ih4 _ _ _ _ h w0 O q)
        · rw [if_neg b2] at h
          replace b2 := Bool.eq_false_iff.2 b2
          obtain ⟨s3, h⟩ := h
          exact AtV.runN tabOk ext59Ok mixed (p59_2 v17 h1 x0) ⟨b0, s0, s1, s2, b1, b2, s3, trivial⟩ (ih4 _ _ _ _ h w0 O q)
      · rw [if_neg b1] at h
        replace b1 := Bool.eq_false_iff.2 b1
        obtain ⟨s3, h⟩ := h
        exact AtV.runN tabOk ext59Ok mixed (p59_3 v17 h1 x0) ⟨b0, s0, s1, s2, b1, rfl, s3, trivial⟩ (ih4 _ _ _ _ h w0 O q)
    · rw [if_neg b0] at h
      replace b0 := Bool.eq_false_iff.2 b0
      by_cases b1 : (!ByteArray.toList (g120_1 x0) == ByteArray.toList (ByteArray.mk #[])) = true
      · rw [if_pos b1] at h
        obtain ⟨s0, h⟩ := h
        obtain ⟨s1, h⟩ := h
        subst h
        exact AtV.fin Tryd.func59 tabOk ext59Ok mixed (p59_4 v17 h1 x0) ⟨b0, b1, trivial, s0, s1, trivial⟩
      · rw [if_neg b1] at h
        replace b1 := Bool.eq_false_iff.2 b1
        subst h
        exact AtV.fin Tryd.func59 tabOk ext59Ok mixed (p59_5 v17 h1 x0) ⟨b0, b1, trivial⟩



def dm59 : Nat → List ByteArray → List Int
  | _, [] => []
  | i, x :: r => (if (decide ((i : Int) > 0)) = true then (if (g121_1 x != 0) = true then [(i : Int) + 1] else []) else []) ++ dm59 (i + 1) r
def tl59 (x0 : ByteArray) : List Int := if (!ByteArray.toList (g120_1 x0) == ByteArray.toList (ByteArray.mk #[])) = true then [((g120_0 x0).length : Int) + 1] else []
def g59_0 (x0 : ByteArray) : List Int := dm59 0 (g120_0 x0) ++ tl59 x0
def P59 (x0 : ByteArray) : Prop := P120 x0 ∧ (g120_0 x0).length ≤ 1048577 ∧ ∀ x ∈ g120_0 x0, P121 x

theorem run59 (x0 : ByteArray) (hl : (g120_0 x0).length ≤ 1048577) (hp : ∀ x ∈ g120_0 x0, P121 x) : ∀ (k i : Nat) (h : List Int), (g120_0 x0).length ≤ i + k → h.length ≤ i → i ≤ 1048578 →
    R59_4 (k + 1) (i : Int) h x0 [⟨.sl (.int .i64), h ++ (dm59 i ((g120_0 x0).drop i) ++ tl59 x0)⟩] := by
  have fin : ∀ (n i : Nat) (h : List Int), ¬ i < (g120_0 x0).length → h.length ≤ i → i ≤ 1048578 → R59_4 (n + 1) (i : Int) h x0 [⟨.sl (.int .i64), h ++ (dm59 i ((g120_0 x0).drop i) ++ tl59 x0)⟩] := by
    intro n i h hi hh h8
    rw [R59_4, if_neg (by simp; omega), List.drop_of_length_le (by omega)]
    unfold dm59 tl59
    by_cases hc : (!ByteArray.toList (g120_1 x0) == ByteArray.toList (ByteArray.mk #[])) = true
    · rw [if_pos hc, if_pos hc]
      exact ⟨by show InR .i64 (((g120_0 x0).length : Int) + 1); rw [i64_iff]; omega, by omega, rfl⟩
    · rw [if_neg hc, if_neg hc]
      simp
  intro k
  induction k with
  | zero =>
    intro i h hi hh h8
    exact fin 0 i h (by omega) hh h8
  | succ k ih =>
    intro i h hi hh h8
    by_cases hlt : i < (g120_0 x0).length
    · rw [R59_4, if_pos (by simp; omega), drop_get _ i ByteArray.empty hlt]
      simp only [Int.toNat_natCast]
      refine ⟨by omega, by omega, hp _ (mem_getD _ i _ hlt), ?_⟩
      have e1 : (i : Int) + 1 = ((i + 1 : Nat) : Int) := by omega
      unfold dm59
      have hz := ih (i + 1) h (by omega) (by omega) (by omega)
      rw [← e1] at hz
      by_cases h0 : (decide ((i : Int) > 0)) = true
      · rw [if_pos h0, if_pos h0]
        by_cases hc : (g121_1 (List.getD (g120_0 x0) i ByteArray.empty) != 0) = true
        · rw [if_pos hc, if_pos hc]
          refine ⟨by rw [i64_iff]; omega, by omega, by rw [i64_iff]; omega, ?_⟩
          have := ih (i + 1) (h ++ [(i : Int) + 1]) (by omega) (len_up hh) (by omega)
          rw [← e1] at this
          simpa using this
        · rw [if_neg hc, if_neg hc]
          exact ⟨by rw [i64_iff]; omega, by simpa using hz⟩
      · rw [if_neg h0, if_neg h0]
        exact ⟨by rw [i64_iff]; omega, by simpa using hz⟩
    · exact fin (k + 1) i h hlt hh h8

theorem top59 (x0 : ByteArray) (h : P59 x0) : R59 ((g120_0 x0).length + 1 + 1) x0 [⟨.sl (.int .i64), g59_0 x0⟩] := by
  rw [R59]
  refine ⟨h.1, ?_⟩
  have := run59 x0 h.2.1 h.2.2 (g120_0 x0).length 0 [] (by omega) (by simp) (by omega)
  simpa [g59_0] using this

def S59 : Am.Spec := { sig := sig59, pre := fun ⟨x0, _⟩ => P59 x0, res := fun ⟨x0, _⟩ => [⟨.sl (.int .i64), g59_0 x0⟩] }
theorem con59 : Contract Tryd.prog 59 S59 := contract_of Tryd.func59 hb59 (Nat.le_of_ble_eq_true (by kernel_rfl)) (fun ⟨x0, _⟩ h hwf w0 O q =>
  (snd59 _).1 x0 _ (top59 x0 h) w0 O q)

end Go.Proofs.YtakodkjcmacofaaDoor

/- Function 60 (laws.eqInt64S): its runs between cut points. Written by a program of this repo (gen). -/
set_option linter.unusedVariables false
set_option linter.unusedSimpArgs false
set_option maxRecDepth 100000
namespace Go.Proofs.YtakodkjcmacofaaDoor
open Go Go.Am Go.Proofs
def ext60 : Ext := []
theorem ext60Ok : ExtOk Tryd.prog ext60 := trivial
/-! Function 60. -/
noncomputable def b60 : Code := bodyOf Tryd.f60
theorem hb60 : Tryd.f60.body = some b60 := by kernel_rfl
def sig60 : List AT := [AT.v (Ty.sl (Ty.int IntKind.i64)), AT.v (Ty.sl (Ty.int IntKind.i64))]
def tys60 : List Ty := [Ty.bool]
def E60_4 (v5 : Int) (x0 : List Int) (x1 : List Int) : Env := [(0, PV.a (Atom.sl (Ty.int IntKind.i64) x0)), (1, PV.a (Atom.sl (Ty.int IntKind.i64) x1)), (5, PV.a (Atom.val (Value.int IntKind.i64 v5)))]
def L60_4 (v5 : Int) (x0 : List Int) (x1 : List Int) : Heap := []
mutual
def R60 : Nat → List Int → List Int → List Dyn → Prop
  | 0, _, _, _ => False
  | n + 1, x0, x1, ds => (if ((↑(List.length x0) : Int) != (↑(List.length x1) : Int)) = true then (ds = [Dyn.mk Ty.bool Bool.false]) else (R60_4 n (0) (x0) (x1) ds))
def R60_4 : Nat → Int → List Int → List Int → List Dyn → Prop
  | 0, _, _, _, _ => False
  | n + 1, v5, x0, x1, ds => (if (Decidable.decide (v5 < (↑(List.length x0) : Int))) = true then ((0 ≤ v5) ∧ (v5 < (↑(List.length x0) : Int)) ∧ ((0 ≤ v5) ∧ (v5 < (↑(List.length x1) : Int)) ∧ (if (List.getD x0 (Int.toNat v5) 0 != List.getD x1 (Int.toNat v5) 0) = true then (ds = [Dyn.mk Ty.bool Bool.false]) else ((InR IntKind.i64 (v5 + 1)) ∧ (R60_4 n (v5 + 1) (x0) (x1) ds))))) else (ds = [Dyn.mk Ty.bool Bool.true]))
end
theorem p60_0 (x0 : List Int) (x1 : List Int) : runF tab ext60 false 26 [] 2000 [] tys60 Tryd.f60.results [true] [.code b60] (entE 0 0 sig60 (x0, x1, ())) (entL sig60 (x0, x1, ())) = some ([Dyn.mk Ty.bool Bool.false], [], [((↑(List.length x0) : Int) != (↑(List.length x1) : Int)) = Bool.true]) := by kernel_rfl
theorem p60_1 (x0 : List Int) (x1 : List Int) : Am.runN tab ext60 false 26 [] 2000 [] [] [0, 1, 5] [] [false] [.code b60] (entE 0 0 sig60 (x0, x1, ())) (entL sig60 (x0, x1, ())) = some (cutAt b60 4, E60_4 (0) (x0) (x1), L60_4 (0) (x0) (x1), [((↑(List.length x0) : Int) != (↑(List.length x1) : Int)) = Bool.false]) := by kernel_rfl
theorem p60_2 (v5 : Int) (x0 : List Int) (x1 : List Int) : runF tab ext60 false 26 [] 2000 [] tys60 Tryd.f60.results [true, true] (cutAt b60 4) (E60_4 v5 x0 x1) (L60_4 v5 x0 x1) = some ([Dyn.mk Ty.bool Bool.false], [], [Decidable.decide (v5 < (↑(List.length x0) : Int)) = Bool.true, 0 ≤ v5, v5 < (↑(List.length x0) : Int), 0 ≤ v5, v5 < (↑(List.length x1) : Int), (List.getD x0 (Int.toNat v5) 0 != List.getD x1 (Int.toNat v5) 0) = Bool.true]) := by kernel_rfl
theorem p60_3 (v5 : Int) (x0 : List Int) (x1 : List Int) : Am.runN tab ext60 false 26 [] 2000 [] [] [0, 1, 5] [] [true, false] (cutAt b60 4) (E60_4 v5 x0 x1) (L60_4 v5 x0 x1) = some (cutAt b60 4, E60_4 (v5 + 1) (x0) (x1), L60_4 (v5 + 1) (x0) (x1), [Decidable.decide (v5 < (↑(List.length x0) : Int)) = Bool.true, 0 ≤ v5, v5 < (↑(List.length x0) : Int), 0 ≤ v5, v5 < (↑(List.length x1) : Int), (List.getD x0 (Int.toNat v5) 0 != List.getD x1 (Int.toNat v5) 0) = Bool.false, InR IntKind.i64 (v5 + 1)]) := by kernel_rfl
theorem p60_4 (v5 : Int) (x0 : List Int) (x1 : List Int) : runF tab ext60 false 26 [] 2000 [] tys60 Tryd.f60.results [false] (cutAt b60 4) (E60_4 v5 x0 x1) (L60_4 v5 x0 x1) = some ([Dyn.mk Ty.bool Bool.true], [], [Decidable.decide (v5 < (↑(List.length x0) : Int)) = Bool.false]) := by kernel_rfl
theorem snd60 : ∀ n, (∀ (x0 : List Int) (x1 : List Int) ds, R60 n x0 x1 ds → ∀ w0 O q, AtV Tryd.prog 60 (PostR ds [] [] q w0 O) 26 w0 O q [] [.code b60] (entE 0 0 sig60 (x0, x1, ())) (entL sig60 (x0, x1, ()))) ∧ (∀ (v5 : Int) (x0 : List Int) (x1 : List Int) ds, R60_4 n v5 x0 x1 ds → ∀ w0 O q, AtV Tryd.prog 60 (PostR ds [] [] q w0 O) 26 w0 O q [] (cutAt b60 4) (E60_4 v5 x0 x1) (L60_4 v5 x0 x1)) := by
  intro n
  induction n with
  | zero => exact ⟨fun _ _ _ h => by simp only [R60] at h, fun _ _ _ _ h => by simp only [R60_4] at h⟩
  | succ n ih =>
  obtain ⟨ih, ih4⟩ := ih
  refine ⟨?_, ?_⟩
  · intro x0 x1 ds h w0 O q
    rw [R60] at h
    by_cases b0 : ((↑(List.length x0) : Int) != (↑(List.length x1) : Int)) = true
    · rw [if_pos b0] at h
      subst h
      exact AtV.fin Tryd.func60 tabOk ext60Ok mixed (p60_0 x0 x1) ⟨b0, trivial⟩
    · rw [if_neg b0] at h
      replace b0 := Bool.eq_false_iff.2 b0
      exact AtV.runN tabOk ext60Ok mixed (p60_1 x0 x1) ⟨b0, trivial⟩ (ih4 _ _ _ _ h w0 O q)

  · intro v5 x0 x1 ds h w0 O q
    rw [R60_4] at h
    by_cases b0 : (Decidable.decide (v5 < (↑(List.length x0) : Int))) = true
    · rw [if_pos b0] at h
      obtain ⟨s0, s1, h⟩ := h
      obtain ⟨s2, s3, h⟩ := h
      by_cases b1 : (List.getD x0 (Int.toNat v5) 0 != List.getD x1 (Int.toNat v5) 0) = true
      · rw [if_pos b1] at h
        subst h
        exact AtV.fin Tryd.func60 tabOk ext60Ok mixed (p60_2 v5 x0 x1) ⟨b0, s0, s1, s2, s3, b1, trivial⟩
      · rw [if_neg b1] at h
        replace b1 := Bool.eq_false_iff.2 b1
        obtain ⟨s4, h⟩ := h
        exact AtV.runN tabOk ext60Ok mixed (p60_3 v5 x0 x1) ⟨b0, s0, s1, s2, s3, b1, s4, trivial⟩ (ih4 _ _ _ _ h w0 O q)
    · rw [if_neg b0] at h
      replace b0 := Bool.eq_false_iff.2 b0
      subst h
      exact AtV.fin Tryd.func60 tabOk ext60Ok mixed (p60_4 v5 x0 x1) ⟨b0, trivial⟩



theorem eq60 (x0 x1 : List (Int)) (hl : x0.length = x1.length) (hm : x0.length ≤ maxLen) : ∀ k i : Nat, i + k = x0.length → R60_4 (k + 1) (i : Int) x0 x1 [⟨.bool, decide (x0.drop i = x1.drop i)⟩] := by
  intro k
  induction k with
  | zero =>
    intro i hi
    have h1 : ¬ (i : Int) < (x0.length : Int) := by omega
    rw [R60_4, if_neg (by simpa using h1), drop_end x0 i (by omega), drop_end x1 i (by omega)]
    simp
  | succ k ih =>
    intro i hi
    have h1 : (i : Int) < (x0.length : Int) := by omega
    rw [R60_4, if_pos (by simpa using h1)]
    refine ⟨by omega, h1, by omega, by omega, ?_⟩
    simp only [Int.toNat_natCast]
    rw [drop_get x0 i 0 (by omega), drop_get x1 i 0 (by omega)]
    by_cases he : x0.getD i 0 = x1.getD i 0
    · rw [if_neg (by simp only [he, bne_self_eq_false, Bool.false_eq_true, not_false_eq_true])]
      refine ⟨inR_up hm (by omega), ?_⟩
      have := ih (i + 1) (by omega)
      simp only [he, List.cons.injEq, true_and]
      exact this
    · rw [if_pos (by simpa only [bne_iff_ne, ne_eq] using he)]
      simp only [he, List.cons.injEq, false_and, decide_false]

def g60_0 (x0 x1 : List (Int)) : Bool := decide (x0 = x1)
def P60 (x0 x1 : List (Int)) : Prop := True
def S60 : Am.Spec := { sig := sig60, pre := fun ⟨x0, x1, _⟩ => P60 x0 x1, res := fun ⟨x0, x1, _⟩ => [⟨Ty.bool, g60_0 x0 x1⟩] }
theorem con60 : Contract Tryd.prog 60 S60 := contract_of Tryd.func60 hb60 (Nat.le_of_ble_eq_true (by kernel_rfl)) (fun ⟨x0, x1, _⟩ h hwf w0 O q => by
  refine (snd60 (x0.length + 2)).1 x0 x1 _ ?_ w0 O q
  show R60 (x0.length + 1 + 1) x0 x1 [⟨Ty.bool, decide (x0 = x1)⟩]
  rw [R60]
  by_cases hl : x0.length = x1.length
  · rw [if_neg (by simp [hl])]
    have := eq60 x0 x1 hl hwf.1.1 x0.length 0 (by omega)
    simpa using this
  · rw [if_pos (by simp; omega)]
    have : x0 ≠ x1 := fun h => hl (by rw [h])
    simp [this])

end Go.Proofs.YtakodkjcmacofaaDoor
