/- Several texts in one: the functions that this law reaches, and their laws. -/
import Derived.Test.YtbepbihblhhfkaaGreatDoorZ3A
import Derived.Test.YtbepbihblhhfkaaGreatDoorZ3B
import Derived.Test.YtbepbihblhhfkaaGreatDoorZ3C
import Derived.Test.YtbepbihblhhfkaaGreatDoorZ3D
import Derived.Shelf.Strings.BuilderK
import Derived.Shelf.Strings.Builder1
import Derived.Lib.SliceRun
import Derived.Laws.AppendOwn
import Derived.WalkKit
import Derived.Deep.LoopGhost
import Derived.Lib.Walk
import Derived.Shelf.RegionOpenPlain
import Derived.Deep.RegionLaw
import Derived.Deep.AppendSrc
import Derived.Lib.JoinLaws
import Derived.Lib.AppendZeros
import Derived.Lib.AppendZerosOnto
import Derived.Lib.Overlaps
import Derived.Laws.Externs
import Derived.Laws.IdiomCopy
set_option linter.unusedVariables false
set_option linter.unusedSimpArgs false
set_option maxRecDepth 100000
namespace Go.Proofs.YtbepbihblhhfkaaGreatDoor
open Go Go.Am Go.Proofs
open Go.RowKit
theorem bInfo : ∃ j, Tryz.prog.info? 50 = some j ∧ j.size = 2 := by
  have h : (Tryz.prog.info? 50).map (·.size) = some 2 := by kernel_rfl
  obtain ⟨j, hj, hjs⟩ := Option.map_eq_some_iff.1 h
  exact ⟨j, hj, hjs⟩
set_option maxHeartbeats 1000000 in
theorem copyUsed (b : Nat) (w : World) (h0 : w.cell? ⟨b, 0, none⟩ = some (.pointer (some ⟨b, 0, none⟩))) :
    Calls Tryz.prog 49 #[.pointer (some ⟨b, 0, none⟩)] w fun e w' => e = .returned (.tuple #[]) ∧ w' = w := by
  obtain ⟨j, hj, _⟩ := bInfo
  have mixed := mixed
  go_enter Tryz.func49, Tryz.ntmps49
  go_wp2
  rw [Lib.run_neq_ptr_same w _ Tryz.underlying48 hj]
  go_wp2
  go_end0
  exact ⟨rfl, rfl⟩
set_option maxHeartbeats 1000000 in
theorem copyFresh (b : Nat) (w : World) (h0 : w.cell? ⟨b, 0, none⟩ = some (.pointer none)) (hsh : w.shape? b = some (50, 2)) (hfz : w.frozen? ⟨b, 0, none⟩ = false) :
    Calls Tryz.prog 49 #[.pointer (some ⟨b, 0, none⟩)] w fun e w' => e = .returned (.tuple #[]) ∧ w' = w.setCell ⟨b, 0, none⟩ (.pointer (some ⟨b, 0, none⟩)) := by
  obtain ⟨j, hj, hjs⟩ := bInfo
  have mixed := mixed
  have t70 := Tryz.underlying48; have t164 := Tryz.underlying114
  go_enter Tryz.func49, Tryz.ntmps49
  go_wp2
  rw [Lib.run_to_unsafe w ⟨b, 0, none⟩ Tryz.underlying48 Tryz.underlying114 hj (by rw [hjs]; decide) hsh (Nat.zero_lt_succ 1)]
  simp only [Result.andThen]
  rw [Oper.upon_value]
  go_wp2
  rw [run_callFunc_extern Tryz.func82 (by kernel_rfl) (by kernel_rfl) (by kernel_rfl) (e := Extern.AbiNoEscape.same) (by kernel_rfl)]
  rw [Lib.run_noEscape]
  simp only [Result.andThen]
  rw [Oper.upon_value]
  go_wp2
  rw [Lib.run_from_unsafe w ⟨b, 0, none⟩ Tryz.underlying114 Tryz.underlying48 hj hsh (by kernel_rfl)]
  simp only [Result.andThen]
  rw [Oper.upon_value]
  go_wp2
  go_end0
  exact ⟨rfl, rfl⟩
theorem copyCheck (B b : Nat) (bs : List Value) (w : World) (h : Lib.IsBuilderF 50 5 B b bs w) :
    Calls Tryz.prog 49 #[.pointer (some ⟨b, 0, none⟩)] w fun e w' => e = .returned (.tuple #[]) ∧ (Lib.BuilderAtF 50 5 B b (.pointer (some ⟨b, 0, none⟩)) bs w' ∧ Below B w w') := by
  rcases h with h | h
  · refine (copyFresh b w h.cell0 h.shape h.frozen0).mono ?_
    rintro e w' ⟨rfl, rfl⟩
    exact ⟨rfl, h.used _, (Below.refl B w).setCell (p := ⟨b, 0, none⟩) h.1 _⟩
  · refine (copyUsed b w h.cell0).mono ?_
    rintro e w' ⟨rfl, rfl⟩
    exact ⟨rfl, h, Below.refl B _⟩
set_option maxHeartbeats 2000000 in
theorem writeString (B b : Nat) (bs : List Value) (s : ByteArray) (w : World) (h : Lib.IsBuilderF 50 5 B b bs w) (hlen : bs.length + s.size ≤ 140737488355328) (hBw : B ≤ w.heap.size) :
    Calls Tryz.prog 21 #[.pointer (some ⟨b, 0, none⟩), .string s] w fun e w' => e = .returned (.tuple #[.int .i64 s.size, .nilIface]) ∧ (Lib.BuilderAtF 50 5 B b (.pointer (some ⟨b, 0, none⟩)) (bs ++ Lib.strCells s) w' ∧ Below B w w') := by
  obtain ⟨i0, hi, hz0, hz1, hz2⟩ := info_parts (P := Tryz.prog) (e := 5) (z := .int .u8 0) (size := 1) (bytes := 1) (by kernel_rfl)
  have mixed := mixed
  go_enter Tryz.func21, Tryz.ntmps21
  go_wp2_with (go_at_call 49; refine (copyCheck B b bs _ h).mono ?_)
  rintro e w1 ⟨rfl, h1, hb1⟩
  obtain ⟨hB, v, hbk, hown, hne⟩ := h1
  have c0 : w1.cell? ⟨b, 0, none⟩ = some (.pointer (some ⟨b, 0, none⟩)) := by rw [Lib.cell_of_heap hbk]; rfl
  have c1 : w1.cell? ⟨b, 1, none⟩ = some v := by rw [Lib.cell_of_heap hbk]; rfl
  go_wp2_with (at_builtin; refine Lib.wpList_append_own_stringF _ rfl _ _ 22 9 rfl B 5 i0 Tryz.underlying22 Tryz.underlying9 hi hz0 hz1 hz2 _ _ _ rfl hown s rfl ?c3 ?c4 ?c5 ?_)
  case c3 => unfold maxLen; omega
  case c4 => omega
  case c5 => have := hb1.size; omega
  intro v' w2 hown' hgrow _
  have hlt : b < w1.heap.size := by
    rcases Nat.lt_or_ge b w1.heap.size with h' | h'
    · exact h'
    · simp [Array.getElem?_eq_none h'] at hbk
  have hb2 : w2.heap[b]? = some (.cells #[.pointer (some ⟨b, 0, none⟩), v] 50 (0, 0)) := by
    rw [hgrow.block b hlt (fun e => hne e.symm)]
    exact hbk
  have d0 : w2.cell? ⟨b, 0, none⟩ = some (.pointer (some ⟨b, 0, none⟩)) := by rw [Lib.cell_of_heap hb2]; rfl
  have d1 : w2.cell? ⟨b, 1, none⟩ = some v := by rw [Lib.cell_of_heap hb2]; rfl
  have f1 : w2.frozen? ⟨b, 1, none⟩ = false := Lib.frozen_of_heap hb2 1
  obtain ⟨ao, n', cap, rfl⟩ : ∃ ao n' cap, v' = .slice ao n' cap := by
    rcases hown'.2 with ⟨hv, _⟩ | ⟨g, cap, cur, fz, hv, _⟩
    · exact ⟨_, _, _, hv⟩
    · exact ⟨_, _, _, hv⟩
  go_wp2
  go_ret2
  refine ⟨rfl, ?_, ?_⟩
  · exact Lib.BuilderAtF.put (T := 50) (e := 5) hB hb2 (bs' := bs ++ Lib.strCells s) (by simpa [Lib.strCells_length] using hown') (by decide)
  · exact (hb1.grown hgrow (by have := hb1.size; omega) (fun k hk => (hown.lt k hk).1)).setCell (p := ⟨b, 1, none⟩) hB _
noncomputable section
def ext23 : Ext := []
theorem ext23Ok : ExtOk Tryz.prog ext23 := trivial
noncomputable def b23 : Code := bodyOf Tryz.f23
theorem hb23 : Tryz.f23.body = some b23 := by kernel_rfl
def sig23 : List AT := [AT.v (Ty.sl YA3)]
def tys23 : List Ty := [Ty.int .i64]
def kds23 : List RK := []
def oks23 : List AT := owns sig23
def P23 (x0 : List TyB1) : Prop := True
def g23_0 (x0 : List TyB1) : Int := (↑(List.length x0) : Int)
theorem at23 (x0 : List TyB1) (h : P23 x0) (K : Ctx) (q : Nat → Value) : AtV Tryz.prog 23 (PostR kds23 oks23 [⟨Ty.int .i64, g23_0 x0⟩] [] [] q K) 5 K q [] [.code b23] (entE 0 0 sig23 (x0, ())) (entL sig23 (x0, ())) := by
  unfold P23 at h
  unfold g23_0
  exact AtV.ret Tryz.func23 tabOk ext23Ok mixed false [] tys23 [] trivial (by kernel_rfl)
def S23 : Am.Spec := { sig := sig23, pre := fun ⟨x0, _⟩ => P23 x0, res := fun ⟨x0, _⟩ => [⟨Ty.int .i64, g23_0 x0⟩], kds := kds23 }
theorem con23 : Contract Tryz.prog 23 S23 := contract_of Tryz.func23 hb23 (Nat.le_of_ble_eq_true (by kernel_rfl)) (fun ⟨x0, _⟩ h _ K q => at23 x0 h K q)
end
noncomputable section
def ext51 : Ext := [(30, S30)]
theorem ext51Ok : ExtOk Tryz.prog ext51 := ⟨⟨ca30, con30⟩, trivial⟩
noncomputable def b51 : Code := bodyOf Tryz.f51
theorem hb51 : Tryz.f51.body = some b51 := by kernel_rfl
def sig51 : List AT := [AT.v (Ty.str), AT.v (Ty.int .i64)]
def tys51 : List Ty := [Ty.int .i64]
def kds51 : List RK := []
def oks51 : List AT := owns sig51
def E51_5 (v15 : Int) (x1 : Int) (x0 : ByteArray) : Env := [(5, PV.a (Atom.val (Value.int .i64 x1))), (13, PV.a (Atom.osl 0 Option.none)), (14, PV.a (Atom.val (Value.int .i64 (↑(List.length (bytesOf x0)) : Int)))), (15, PV.a (Atom.val (Value.int .i64 v15)))]
def L51_5 (v15 : Int) (x1 : Int) (x0 : ByteArray) : Heap := [Option.some (Arr.mk (Ty.int .u8) (bytesOf x0) false Option.none Option.none)]
def E51_9 (v5 : Int) (v24 : Int) (x0 : ByteArray) (v15 : Int) : Env := [(5, PV.a (Atom.val (Value.int .i64 v5))), (13, PV.a (Atom.osl 0 Option.none)), (14, PV.a (Atom.val (Value.int .i64 (↑(List.length (bytesOf x0)) : Int)))), (15, PV.a (Atom.val (Value.int .i64 v15))), (24, PV.a (Atom.val (Value.int .i64 v24)))]
def L51_9 (v5 : Int) (v24 : Int) (x0 : ByteArray) (v15 : Int) : Heap := [Option.some (Arr.mk (Ty.int .u8) (bytesOf x0) false Option.none Option.none)]
mutual
def R51 : Nat → ByteArray → Int → List Dyn → Prop
  | 0, _, _, _ => False
  | n + 1, x0, x1, ds => (if (!g30_0 x1 0 65535) = true then (ds = [Dyn.mk (Ty.int .i64) 0]) else (R51_5 n (0) (x1) (x0) ds))
def R51_5 : Nat → Int → Int → ByteArray → List Dyn → Prop
  | 0, _, _, _, _ => False
  | n + 1, v15, x1, x0, ds => (if (decide (v15 < (↑(List.length (bytesOf x0)) : Int))) = true then ((0 ≤ v15) ∧ (v15 < (↑(List.length (bytesOf x0)) : Int)) ∧ ((InR .i64 (List.getD (bytesOf x0) (Int.toNat v15) 0)) ∧ (R51_9 n (IntKind.wrap IntKind.i64 (↑(BitVec.toNat (BitVec.ofInt 64 x1 ^^^ BitVec.ofInt 64 (IntKind.wrap IntKind.i64 (List.getD (bytesOf x0) (Int.toNat v15) 0 * 256)))) : Int)) (0) (x0) (v15) ds))) else (ds = [Dyn.mk (Ty.int .i64) x1]))
def R51_9 : Nat → Int → Int → ByteArray → Int → List Dyn → Prop
  | 0, _, _, _, _, _ => False
  | n + 1, v5, v24, x0, v15, ds => (if (decide (v24 < 8)) = true then (if (decide (IntKind.wrap IntKind.i64 (v5 * 2) > 65535)) = true then ((InR .i64 (v24 + 1)) ∧ (R51_9 n (IntKind.wrap IntKind.i64 (↑(BitVec.toNat (BitVec.ofInt 64 (IntKind.wrap IntKind.i64 (↑(BitVec.toNat (BitVec.ofInt 64 (IntKind.wrap IntKind.i64 (v5 * 2)) &&& BitVec.ofInt 64 65535)) : Int)) ^^^ BitVec.ofInt 64 4129)) : Int)) (v24 + 1) (x0) (v15) ds)) else ((InR .i64 (v24 + 1)) ∧ (R51_9 n (IntKind.wrap IntKind.i64 (v5 * 2)) (v24 + 1) (x0) (v15) ds))) else ((InR .i64 (v15 + 1)) ∧ (R51_5 n (v15 + 1) (v5) (x0) ds)))
end
theorem snd51 : ∀ n, (∀ (x0 : ByteArray) (x1 : Int) ds, R51 n x0 x1 ds → ∀ K q, AtV Tryz.prog 51 (PostR kds51 oks51 ds [] [] q K) 36 K q [] [.code b51] (entE 0 0 sig51 (x0, x1, ())) (entL sig51 (x0, x1, ()))) ∧ (∀ (v15 : Int) (x1 : Int) (x0 : ByteArray) ds, R51_5 n v15 x1 x0 ds → ∀ K q, AtV Tryz.prog 51 (PostR kds51 oks51 ds [] [] q K) 36 K q [] (cutAt b51 5) (E51_5 v15 x1 x0) (L51_5 v15 x1 x0)) ∧ (∀ (v5 : Int) (v24 : Int) (x0 : ByteArray) (v15 : Int) ds, R51_9 n v5 v24 x0 v15 ds → ∀ K q, AtV Tryz.prog 51 (PostR kds51 oks51 ds [] [] q K) 36 K q [] (cutAt b51 9) (E51_9 v5 v24 x0 v15) (L51_9 v5 v24 x0 v15)) := by
  intro n
  induction n with
  | zero => exact ⟨fun _ _ _ h => by simp only [R51] at h, fun _ _ _ _ h => by simp only [R51_5] at h, fun _ _ _ _ _ h => by simp only [R51_9] at h⟩
  | succ n ih =>
  obtain ⟨ih, ih5, ih9⟩ := ih
  refine ⟨?_, ?_, ?_⟩
  · intro x0 x1 ds h K q
    rw [R51] at h
    by_cases b0 : (!g30_0 x1 0 65535) = true
    · rw [if_pos b0] at h
      subst h
      exact AtV.ret Tryz.func51 tabOk ext51Ok mixed false [] tys51 [true] (a1 trivial (a1 b0 trivial)) (by kernel_rfl)
    · rw [if_neg b0] at h
      replace b0 := Bool.eq_false_iff.2 b0
      exact AtV.go tabOk ext51Ok mixed false [] [] [5, 13, 14, 15] [0] [false] (a1 trivial (a1 b0 trivial)) (ih5 _ _ _ _ h K q) (by kernel_rfl)
  · intro v15 x1 x0 ds h K q
    rw [R51_5] at h
    by_cases b0 : (decide (v15 < (↑(List.length (bytesOf x0)) : Int))) = true
    · rw [if_pos b0] at h
      obtain ⟨s0, s1, h⟩ := h
      obtain ⟨s2, h⟩ := h
      exact AtV.go tabOk ext51Ok mixed false [] [] [5, 13, 14, 15, 24] [0] [true] (a1 b0 (a1 s0 (a1 s1 (a1 s2 (a1 ((by decide) : (0 : Int) ≤ (8 : Int)) trivial))))) (ih9 _ _ _ _ _ h K q) (by kernel_rfl)
    · rw [if_neg b0] at h
      replace b0 := Bool.eq_false_iff.2 b0
      subst h
      exact AtV.ret Tryz.func51 tabOk ext51Ok mixed false [] tys51 [false] (a1 b0 trivial) (by kernel_rfl)
  · intro v5 v24 x0 v15 ds h K q
    rw [R51_9] at h
    by_cases b0 : (decide (v24 < 8)) = true
    · rw [if_pos b0] at h
      by_cases b1 : (decide (IntKind.wrap IntKind.i64 (v5 * 2) > 65535)) = true
      · rw [if_pos b1] at h
        obtain ⟨s0, h⟩ := h
        exact AtV.go tabOk ext51Ok mixed false [] [] [5, 13, 14, 15, 24] [0] [true, true] (a1 b0 (a1 ((by decide) : (0 : Int) ≤ (1 : Int)) (a1 b1 (a1 s0 trivial)))) (ih9 _ _ _ _ _ h K q) (by kernel_rfl)
      · rw [if_neg b1] at h
        replace b1 := Bool.eq_false_iff.2 b1
        obtain ⟨s0, h⟩ := h
        exact AtV.go tabOk ext51Ok mixed false [] [] [5, 13, 14, 15, 24] [0] [true, false] (a1 b0 (a1 ((by decide) : (0 : Int) ≤ (1 : Int)) (a1 b1 (a1 s0 trivial)))) (ih9 _ _ _ _ _ h K q) (by kernel_rfl)
    · rw [if_neg b0] at h
      replace b0 := Bool.eq_false_iff.2 b0
      obtain ⟨s0, h⟩ := h
      exact AtV.go tabOk ext51Ok mixed false [] [] [5, 13, 14, 15] [0] [false] (a1 b0 (a1 s0 trivial)) (ih5 _ _ _ _ h K q) (by kernel_rfl)
def bit51 (s : Int) : Int := if (decide (IntKind.wrap IntKind.i64 (s * 2) > 65535)) = true then (IntKind.wrap IntKind.i64 (↑(BitVec.toNat (BitVec.ofInt 64 (IntKind.wrap IntKind.i64 (↑(BitVec.toNat (BitVec.ofInt 64 (IntKind.wrap IntKind.i64 (s * 2)) &&& BitVec.ofInt 64 65535)) : Int)) ^^^ BitVec.ofInt 64 4129)) : Int)) else (IntKind.wrap IntKind.i64 (s * 2))
def bits51 : Nat → Int → Int
  | 0, s => s
  | k + 1, s => bits51 k (bit51 s)
def byte51 (s c : Int) : Int := bits51 8 (IntKind.wrap IntKind.i64 (↑(BitVec.toNat (BitVec.ofInt 64 s ^^^ BitVec.ofInt 64 (IntKind.wrap IntKind.i64 (c * 256)))) : Int))
def g51_0 (x0 : ByteArray) (x1 : Int) : Int := if (!g30_0 x1 0 65535) = true then 0 else (bytesOf x0).foldl byte51 x1
def P51 (x0 : ByteArray) (x1 : Int) : Prop := True
theorem inner51 (x0 : ByteArray) (hm : (bytesOf x0).length ≤ maxLen) (i n : Nat) (hi : i < (bytesOf x0).length) (ds : List Dyn) : ∀ (k j : Nat) (s : Int), j + k = 8 → R51_5 n ((i : Int) + 1) (bits51 k s) x0 ds → R51_9 (n + 1 + k) s (j : Int) x0 (i : Int) ds := by
  intro k
  induction k with
  | zero =>
    intro j s hj hr
    rw [R51_9, if_neg (by simp; omega)]
    exact ⟨inR_up hm hi, hr⟩
  | succ k ih =>
    intro j s hj hr
    have e2 : (j : Int) + 1 = ((j + 1 : Nat) : Int) := by omega
    rw [show n + 1 + (k + 1) = (n + 1 + k) + 1 by omega, R51_9, if_pos (by simp; omega)]
    unfold bits51 bit51 at hr
    by_cases hc : (decide (IntKind.wrap IntKind.i64 (s * 2) > 65535)) = true
    · rw [if_pos hc] at hr ⊢
      rw [e2]
      exact ⟨by rw [i64_iff]; omega, ih (j + 1) _ (by omega) hr⟩
    · rw [if_neg hc] at hr ⊢
      rw [e2]
      exact ⟨by rw [i64_iff]; omega, ih (j + 1) _ (by omega) hr⟩
theorem run51 (x0 : ByteArray) (hm : x0.size ≤ maxLen) : ∀ (k i : Nat) (s : Int), i + k = x0.size → ∃ n, R51_5 n (i : Int) s x0 [⟨.int .i64, ((bytesOf x0).drop i).foldl byte51 s⟩] := by
  intro k
  have hl := bytesOf_length x0
  induction k with
  | zero =>
    intro i s hi
    refine ⟨1, ?_⟩
    rw [R51_5, if_neg (by rw [hl]; simp; omega), List.drop_of_length_le (by omega)]
    rfl
  | succ k ih =>
    intro i s hi
    have hlt : i < (bytesOf x0).length := by omega
    have hcons := drop_get (bytesOf x0) i 0 hlt
    obtain ⟨n, hn⟩ := ih (i + 1) (byte51 s ((bytesOf x0).getD i 0)) (by omega)
    refine ⟨n + 1 + 8 + 1, ?_⟩
    have hb := bytesOf_range x0 _ (mem_getD (bytesOf x0) i 0 hlt)
    rw [R51_5, if_pos (by rw [hl]; simp; omega)]
    simp only [Int.toNat_natCast]
    rw [hcons, List.foldl_cons]
    exact ⟨by omega, by omega, by rw [i64_iff]; omega, inner51 x0 (by rw [hl]; exact hm) i n hlt _ 8 0 _ (by omega) hn⟩
theorem top51 (x0 : ByteArray) (x1 : Int) (hm : x0.size ≤ maxLen) : ∃ n, R51 n x0 x1 [⟨.int .i64, g51_0 x0 x1⟩] := by
  obtain ⟨n, hn⟩ := run51 x0 hm x0.size 0 x1 (by omega)
  refine ⟨n + 1, ?_⟩
  rw [R51]
  unfold g51_0
  by_cases hc : (!g30_0 x1 0 65535) = true
  · rw [if_pos hc, if_pos hc]
  · rw [if_neg hc, if_neg hc]
    exact hn
def S51 : Am.Spec := { sig := sig51, pre := fun ⟨x0, x1, _⟩ => P51 x0 x1, res := fun ⟨x0, x1, _⟩ => [⟨Ty.int .i64, g51_0 x0 x1⟩] }
theorem con51 : Contract Tryz.prog 51 S51 := contract_of Tryz.func51 hb51 (Nat.le_of_ble_eq_true (by kernel_rfl)) (fun ⟨x0, x1, _⟩ h hwf K q =>
  let ⟨n, hn⟩ := top51 x0 x1 hwf.1
  (snd51 n).1 x0 x1 _ hn K q)
end
def sig52 : List AT := [AT.v Ty.str, AT.v (Ty.int .i64)]
def g52_0 (x0 : ByteArray) (x1 : Int) : ByteArray := ⟨(Lib.repeatL x0.data.toList x1.toNat).toArray⟩
def P52 (x0 : ByteArray) (x1 : Int) : Prop := 0 ≤ x1 ∧ (x0.size : Int) * x1 ≤ 140737488355328
def S52 : Am.Spec := { sig := sig52, pre := fun ⟨x0, x1, _⟩ => P52 x0 x1, res := fun ⟨x0, x1, _⟩ => [⟨Ty.str, g52_0 x0 x1⟩] }
theorem con52 : Contract Tryz.prog 52 S52 := contract_flat rfl fun w ⟨x0, x1, _⟩ vs bss hg hp hw ha => by
  obtain ⟨v0, s0, _, _, rfl, _, ⟨_, rfl, _⟩, v1, s1, _, _, rfl, _, ⟨_, rfl, _⟩, rfl, _⟩ := ha
  obtain ⟨h0, h1⟩ := hp
  obtain ⟨c, rfl⟩ : ∃ c : Nat, x1 = (c : Int) := Int.eq_ofNat_of_zero_le h0
  have hi : InR .i64 (c : Int) := hw.2.1
  rw [i64_iff] at hi
  have hm : x0.size * c ≤ 140737488355328 := by
    have : ((x0.size * c : Nat) : Int) = (x0.size : Int) * (c : Int) := Int.natCast_mul _ _
    omega
  refine ⟨fun d hd => ?_, ?_⟩
  · rw [List.mem_singleton.1 hd]
    refine ⟨rfl, ?_⟩
    show (ByteArray.mk (Lib.repeatL x0.data.toList c).toArray).size ≤ maxLen
    have : (ByteArray.mk (Lib.repeatL x0.data.toList c).toArray).size = c * x0.data.toList.length := by
      show (Lib.repeatL x0.data.toList c).toArray.size = _
      rw [List.size_toArray, Lib.repeatL_length]
    rw [this, Nat.mul_comm]
    have e : x0.data.toList.length = x0.size := rfl
    rw [e]
    unfold maxLen
    omega
  · refine (Tryz.strings_Repeat x0 c w (by omega) hm).mono ?_
    rintro e w' ⟨rfl, hb⟩
    exact ⟨rfl, Kept.of_below hb⟩
noncomputable section
def ext24 : Ext := [(51, S51), (22, S22), (52, S52)]
theorem ext24Ok : ExtOk Tryz.prog ext24 := ⟨⟨ca51, con51⟩, ⟨ca22, con22⟩, ⟨ca52, con52⟩, trivial⟩
noncomputable def b24 : Code := bodyOf Tryz.f24
theorem hb24 : Tryz.f24.body = some b24 := by kernel_rfl
def sig24 : List AT := [AT.v YA3]
def tys24 : List Ty := [Ty.str]
def kds24 : List RK := []
def oks24 : List AT := owns sig24
def P24 (x0 : ByteArray × ByteArray × ByteArray × Unit) : Prop := ((ByteArray.size x0.1 + 1 ≤ 9223372036854775807) ∧ ((ByteArray.size (x0.1 ++ ByteArray.mk #[32]) + ByteArray.size x0.2.1 ≤ 9223372036854775807) ∧ ((ByteArray.size (x0.1 ++ ByteArray.mk #[32] ++ x0.2.1) + 1 ≤ 9223372036854775807) ∧ ((ByteArray.size (x0.1 ++ ByteArray.mk #[32] ++ x0.2.1 ++ ByteArray.mk #[32]) + ByteArray.size x0.2.2.1 ≤ 9223372036854775807) ∧ ((P22 (g51_0 (x0.1 ++ ByteArray.mk #[32] ++ x0.2.1 ++ ByteArray.mk #[32] ++ x0.2.2.1) 65535)) ∧ ((InR .i64 (5 - (↑(ByteArray.size (g22_0 (g51_0 (x0.1 ++ ByteArray.mk #[32] ++ x0.2.1 ++ ByteArray.mk #[32] ++ x0.2.2.1) 65535))) : Int))) ∧ ((P52 (ByteArray.mk #[48]) (5 - (↑(ByteArray.size (g22_0 (g51_0 (x0.1 ++ ByteArray.mk #[32] ++ x0.2.1 ++ ByteArray.mk #[32] ++ x0.2.2.1) 65535))) : Int))) ∧ ((ByteArray.size (g52_0 (ByteArray.mk #[48]) (5 - (↑(ByteArray.size (g22_0 (g51_0 (x0.1 ++ ByteArray.mk #[32] ++ x0.2.1 ++ ByteArray.mk #[32] ++ x0.2.2.1) 65535))) : Int))) + ByteArray.size (g22_0 (g51_0 (x0.1 ++ ByteArray.mk #[32] ++ x0.2.1 ++ ByteArray.mk #[32] ++ x0.2.2.1) 65535)) ≤ 9223372036854775807) ∧ ((ByteArray.size (g52_0 (ByteArray.mk #[48]) (5 - (↑(ByteArray.size (g22_0 (g51_0 (x0.1 ++ ByteArray.mk #[32] ++ x0.2.1 ++ ByteArray.mk #[32] ++ x0.2.2.1) 65535))) : Int)) ++ g22_0 (g51_0 (x0.1 ++ ByteArray.mk #[32] ++ x0.2.1 ++ ByteArray.mk #[32] ++ x0.2.2.1) 65535)) + 1 ≤ 9223372036854775807) ∧ ((ByteArray.size (g52_0 (ByteArray.mk #[48]) (5 - (↑(ByteArray.size (g22_0 (g51_0 (x0.1 ++ ByteArray.mk #[32] ++ x0.2.1 ++ ByteArray.mk #[32] ++ x0.2.2.1) 65535))) : Int)) ++ g22_0 (g51_0 (x0.1 ++ ByteArray.mk #[32] ++ x0.2.1 ++ ByteArray.mk #[32] ++ x0.2.2.1) 65535) ++ ByteArray.mk #[32]) + ByteArray.size (x0.1 ++ ByteArray.mk #[32] ++ x0.2.1 ++ ByteArray.mk #[32] ++ x0.2.2.1) ≤ 9223372036854775807) ∧ True))))))))))
def g24_0 (x0 : ByteArray × ByteArray × ByteArray × Unit) : ByteArray := g52_0 (ByteArray.mk #[48]) (5 - (↑(ByteArray.size (g22_0 (g51_0 (x0.1 ++ ByteArray.mk #[32] ++ x0.2.1 ++ ByteArray.mk #[32] ++ x0.2.2.1) 65535))) : Int)) ++ g22_0 (g51_0 (x0.1 ++ ByteArray.mk #[32] ++ x0.2.1 ++ ByteArray.mk #[32] ++ x0.2.2.1) 65535) ++ ByteArray.mk #[32] ++ (x0.1 ++ ByteArray.mk #[32] ++ x0.2.1 ++ ByteArray.mk #[32] ++ x0.2.2.1)
theorem at24 (x0 : ByteArray × ByteArray × ByteArray × Unit) (h : P24 x0) (K : Ctx) (q : Nat → Value) : AtV Tryz.prog 24 (PostR kds24 oks24 [⟨Ty.str, g24_0 x0⟩] [] [] q K) 27 K q [] [.code b24] (entE 0 0 sig24 (x0, ())) (entL sig24 (x0, ())) := by
  unfold P24 at h
  unfold g24_0
  obtain ⟨s0, h⟩ := h
  obtain ⟨s1, h⟩ := h
  obtain ⟨s2, h⟩ := h
  obtain ⟨s3, h⟩ := h
  obtain ⟨s4, h⟩ := h
  obtain ⟨s5, h⟩ := h
  obtain ⟨s6, h⟩ := h
  obtain ⟨s7, h⟩ := h
  obtain ⟨s8, h⟩ := h
  obtain ⟨s9, h⟩ := h
  exact AtV.ret Tryz.func24 tabOk ext24Ok mixed false [] tys24 [] (a1 s0 (a1 s1 (a1 s2 (a1 s3 (a1 trivial (a1 s4 (a1 s5 (a1 s6 (a1 s7 (a1 s8 (a1 s9 trivial))))))))))) (by kernel_rfl)
def S24 : Am.Spec := { sig := sig24, pre := fun ⟨x0, _⟩ => P24 x0, res := fun ⟨x0, _⟩ => [⟨Ty.str, g24_0 x0⟩], kds := kds24 }
theorem con24 : Contract Tryz.prog 24 S24 := contract_of Tryz.func24 hb24 (Nat.le_of_ble_eq_true (by kernel_rfl)) (fun ⟨x0, _⟩ h _ K q => at24 x0 h K q)
end
open Go.RowKit
theorem stringB (B b : Nat) (l : List UInt8) (w : World) (h : Lib.IsBuilderF 50 5 B b (Lib.byteCells l) w) (hBw : B ≤ w.heap.size) :
    Calls Tryz.prog 25 #[.pointer (some ⟨b, 0, none⟩)] w fun e w' => e = .returned (.string ⟨l.toArray⟩) ∧ Below B w w' := by
  refine (Tryz.Builder_String_any_k B b l w h hBw).mono ?_
  rintro e w' ⟨rfl, _, h2, _⟩
  exact ⟨rfl, h2⟩
end Go.Proofs.YtbepbihblhhfkaaGreatDoor
set_option linter.unusedVariables false
set_option linter.unusedSimpArgs false
set_option maxRecDepth 100000
namespace Go.Proofs.YtbepbihblhhfkaaGreatDoor
open Go Go.Am Go.Proofs Go.RowKit
abbrev BY6 : Ty := (.cons .str (.cons .str (.cons .str .unit)))
theorem vb6 (W : World) (x0 : List TyB1) (v : Value) (hgo : GOk W []) (ha : RepB W (Am.Good W []) (toAtom (.sl BY6) x0) v) :
    Calls Tryz.prog 20 #[v] W fun e w' => e = .returned (.bool (g20_0 x0)) ∧ Below W.heap.size W w' := by
  have h := con20.down rfl W (x0, ()) [v] [[]] hgo trivial ⟨v, [], [], [], rfl, rfl, ⟨rfl, ha⟩, rfl, rfl⟩ (by simp)
  refine h.mono ?_
  rintro e w' ⟨rs, ubs, rbs, rfl, hk, ⟨u, s, b1, bs1, cs, rfl, rfl, ho, hv, rfl, rfl⟩, _⟩
  obtain ⟨ho, _⟩ := ho
  have hv : cs = [u] := hv
  rw [ho] at hv
  cases hv
  exact ⟨rfl, hk.below⟩
theorem sz6 (W : World) (x0 : List TyB1) (v : Value) (hgo : GOk W []) (ha : RepB W (Am.Good W []) (toAtom (.sl BY6) x0) v) :
    Calls Tryz.prog 23 #[v] W fun e w' => e = .returned (.int .i64 (x0.length : Int)) ∧ Below W.heap.size W w' := by
  have h := con23.down rfl W (x0, ()) [v] [[]] hgo trivial ⟨v, [], [], [], rfl, rfl, ⟨rfl, ha⟩, rfl, rfl⟩ (by simp)
  refine h.mono ?_
  rintro e w' ⟨rs, ubs, rbs, rfl, hk, ⟨u, s, b1, bs1, cs, rfl, rfl, ho, hv, rfl, rfl⟩, _⟩
  obtain ⟨ho, _⟩ := ho
  have hv : cs = [u] := hv
  rw [ho] at hv
  cases hv
  exact ⟨rfl, hk.below⟩
theorem dc6 (W : World) (n : Int) (hn : InR .i64 n) (hgo : GOk W []) :
    Calls Tryz.prog 22 #[.int .i64 n] W fun e w' => e = .returned (.string (g22_0 n)) ∧ Below W.heap.size W w' := by
  have h := con22.down rfl W (n, ()) [.int .i64 n] [[]] hgo ⟨rfl, trivial⟩ ⟨_, [], [], [], rfl, rfl, ⟨rfl, rfl, hn⟩, rfl, rfl⟩ (by simp)
  refine h.mono ?_
  rintro e w' ⟨rs, ubs, rbs, rfl, hk, ⟨u, s, b1, bs1, cs, rfl, rfl, ho, hv, rfl, rfl⟩, _⟩
  obtain ⟨ho, _⟩ := ho
  have hv : cs = [u] := hv
  rw [ho] at hv
  cases hv
  exact ⟨rfl, hk.below⟩
theorem ln6 (W : World) (x : ByteArray × ByteArray × ByteArray × Unit) (hp : P24 x) (hw : Wf BY6 x) (hgo : GOk W []) :
    Calls Tryz.prog 24 #[.agg #[.string x.1, .string x.2.1, .string x.2.2.1]] W fun e w' => e = .returned (.string (g24_0 x)) ∧ Below W.heap.size W w' := by
  have h := con24.down rfl W (x, ()) [.agg #[.string x.1, .string x.2.1, .string x.2.2.1]] [[]] hgo hp ⟨_, [], [], [], rfl, rfl, ⟨rfl, ⟨[.string x.1, .string x.2.1, .string x.2.2.1], rfl, ⟨[_], [_, _], rfl, ⟨rfl, hw.1⟩, [_], [_], rfl, ⟨rfl, hw.2.1⟩, [_], [], rfl, ⟨rfl, hw.2.2.1⟩, rfl⟩⟩⟩, rfl, rfl⟩ (by simp)
  refine h.mono ?_
  rintro e w' ⟨rs, ubs, rbs, rfl, hk, ⟨u, s, b1, bs1, cs, rfl, rfl, ho, hv, rfl, rfl⟩, _⟩
  obtain ⟨ho, _⟩ := ho
  have hv : cs = [u] := hv
  rw [ho] at hv
  cases hv
  exact ⟨rfl, hk.below⟩
theorem gok6 {w W : World} (h : GOk w []) (hb : Below w.heap.size w W) : GOk W [] where
  inv := h.inv.keep fun b _ hs => hb.5 b hs
  size := Nat.le_trans h.size hb.4
  out := h.out
theorem rep6 {w W : World} {x0 : List TyB1} {v : Value} (hb : Below w.heap.size w W) (ha : RepB w (Am.Good w []) (toAtom (.sl BY6) x0) v) : RepB W (Am.Good W []) (toAtom (.sl BY6) x0) v :=
  repB_keep (fun b hg => ⟨Nat.lt_of_lt_of_le hg.1 hb.4, hg.2⟩) (fun b hg => hb.5 b hg.1) ha
theorem bld6 {T e : TypeId} {B b : Nat} {p : Value} {bs : List Value} {W W' : World} (h : Lib.BuilderAtF T e B b p bs W) (hb : Below W.heap.size W W') : Lib.BuilderAtF T e B b p bs W' := by
  obtain ⟨h1, v, h2, h3, h4⟩ := h
  have lt : ∀ {g : Nat} {o : Obj}, W.heap[g]? = some o → W'.heap[g]? = some o := fun {g o} hg => by
    have : g < W.heap.size := by
      rcases Nat.lt_or_ge g W.heap.size with h' | h'
      · exact h'
      · rw [Array.getElem?_eq_none h'] at hg; cases hg
    rw [hb.5 g this]; exact hg
  refine ⟨h1, v, lt h2, ⟨h3.1, ?_⟩, h4⟩
  rcases h3.2 with hn | ⟨g, cap, cur, fz, e1, e2, e3, e4⟩
  · exact .inl hn
  · exact .inr ⟨g, cap, cur, fz, e1, e2, lt e3, e4⟩
theorem weak6 {B B' : Nat} {a b : World} (h : Below B a b) (hB : B' ≤ B) : Below B' a b := ⟨h.1, h.2, h.3, h.4, fun k hk => h.5 k (by omega)⟩
theorem isb6 {T e : TypeId} {B b : Nat} {bs : List Value} {W W' : World} (h : Lib.IsBuilderF T e B b bs W) (hb : Below W.heap.size W W') : Lib.IsBuilderF T e B b bs W' :=
  h.elim (fun x => .inl (bld6 x hb)) (fun x => .inr (bld6 x hb))
theorem cells6 (a b : ByteArray) : Lib.strCells (a ++ b) = Lib.strCells a ++ Lib.strCells b := by
  unfold Lib.strCells
  rw [ByteArray.data_append, Array.toList_append, List.map_append]
theorem cell6 {w : World} {x0 : List TyB1} {b off cap : Nat} (hc : ∀ j u, (fcs BY6 x0)[j]? = some u → w.cell? ⟨b, off + j, none⟩ = some u) (k : Nat) (hk : k < x0.length) :
    w.cell? ⟨b, off + k * 3, none⟩ = some (.string (x0.getD k (ByteArray.empty, ByteArray.empty, ByteArray.empty, ())).1) ∧ w.cell? ⟨b, off + k * 3 + 1, none⟩ = some (.string (x0.getD k (ByteArray.empty, ByteArray.empty, ByteArray.empty, ())).2.1) ∧ w.cell? ⟨b, off + k * 3 + 2, none⟩ = some (.string (x0.getD k (ByteArray.empty, ByteArray.empty, ByteArray.empty, ())).2.2.1) := by
  have key : ∀ (xs : List TyB1) (k : Nat), k < xs.length → (fcs BY6 xs)[k * 3]? = some (.string (xs.getD k (ByteArray.empty, ByteArray.empty, ByteArray.empty, ())).1) ∧ (fcs BY6 xs)[k * 3 + 1]? = some (.string (xs.getD k (ByteArray.empty, ByteArray.empty, ByteArray.empty, ())).2.1) ∧ (fcs BY6 xs)[k * 3 + 2]? = some (.string (xs.getD k (ByteArray.empty, ByteArray.empty, ByteArray.empty, ())).2.2.1) := by
    intro xs
    induction xs with
    | nil => intro k h; cases h
    | cons x r ih =>
      intro k h
      have e : fcs BY6 (x :: r) = .string x.1 :: .string x.2.1 :: .string x.2.2.1 :: fcs BY6 r := rfl
      rw [e]
      cases k with
      | zero => exact ⟨rfl, rfl, rfl⟩
      | succ k =>
        have := ih k (by simpa using h)
        rw [show (k + 1) * 3 = k * 3 + 3 by omega]
        exact this
  obtain ⟨a1, a2, a3⟩ := key x0 k hk
  exact ⟨hc _ _ a1, hc _ _ a2, hc _ _ a3⟩
def acc6 (x0 : List TyB1) (k : Nat) : ByteArray := (x0.take k).foldl (fun o b => o ++ (g24_0 b ++ ByteArray.mk #[10])) (ByteArray.mk #[97, 114, 99, 104, 105, 118, 101, 32] ++ g22_0 (x0.length : Int) ++ ByteArray.mk #[10])
theorem acc6_succ (x0 : List TyB1) (k : Nat) (h : k < x0.length) : acc6 x0 (k + 1) = acc6 x0 k ++ (g24_0 (x0.getD k (ByteArray.empty, ByteArray.empty, ByteArray.empty, ())) ++ ByteArray.mk #[10]) := by
  unfold acc6
  rw [List.take_add_one, getD_of_lt x0 k (ByteArray.empty, ByteArray.empty, ByteArray.empty, ()) h]
  simp only [Option.toList_some, List.foldl_append, List.foldl_cons, List.foldl_nil]
theorem acc6_size (x0 : List TyB1) (hn : x0.length ≤ 32) (hp : ∀ x ∈ x0, (g24_0 x).size ≤ 4194304) : ∀ k, k ≤ x0.length → (acc6 x0 k).size ≤ 30 + 4194305 * k
  | 0, _ => by
    have hd21 : (g22_0 (x0.length : Int)).size ≤ 21 := numB_size _ (by omega) (by omega)
    show (ByteArray.mk #[97, 114, 99, 104, 105, 118, 101, 32] ++ g22_0 (x0.length : Int) ++ ByteArray.mk #[10]).size ≤ 30
    rw [ByteArray.size_append, ByteArray.size_append]
    show 8 + _ + 1 ≤ 30
    omega
  | k + 1, h => by
    have ih := acc6_size x0 hn hp k (by omega)
    have hx := hp _ (mem_getD x0 k (ByteArray.empty, ByteArray.empty, ByteArray.empty, ()) (by omega))
    rw [acc6_succ x0 k (by omega), ByteArray.size_append, ByteArray.size_append]
    have i1 : (ByteArray.mk #[10]).size = 1 := rfl
    omega
set_option maxHeartbeats 4000000 in
theorem walk6 (w : World) (x0 : List TyB1) (b off cap : Nat) (hgo : GOk w []) (hl : x0.length ≤ cap) (hcap : cap ≤ maxLen) (hb : b < w.heap.size) (hok : g20_0 x0 = true) (hn : x0.length ≤ 32)
    (ha : RepB w (Am.Good w []) (toAtom (.sl BY6) x0) (.slice (some ⟨b, off, none⟩) x0.length cap)) (hc : ∀ j u, (fcs BY6 x0)[j]? = some u → w.cell? ⟨b, off + j, none⟩ = some u)
    (hp : ∀ x ∈ x0, P24 x ∧ (g24_0 x).size ≤ 4194304 ∧ Wf BY6 x) :
    Calls Tryz.prog 6 #[.slice (some ⟨b, off, none⟩) x0.length cap] w fun e w' => e = .returned (.tuple #[.string (acc6 x0 x0.length), .int .i64 0]) ∧ Below w.heap.size w w' := by
  have HA : Aside (RepB w (Am.Good w []) (toAtom (.sl BY6) x0) (.slice (some ⟨b, off, none⟩) x0.length cap)) := ha
  have HC : Aside (∀ j u, (fcs BY6 x0)[j]? = some u → w.cell? ⟨b, off + j, none⟩ = some u) := hc
  have HP : Aside (∀ x ∈ x0, P24 x ∧ (g24_0 x).size ≤ 4194304 ∧ Wf BY6 x) := hp
  clear ha hc hp
  have mixed := mixed
  go_enter Tryz.func6, Tryz.ntmps6
  go_wp2_with (go_at_call 20; refine (vb6 _ x0 _ hgo HA.out).mono ?_)
  rintro e w1 ⟨rfl, b1⟩
  rw [hok]
  go_wp2_with (go_at_call 23; refine (sz6 _ x0 _ (gok6 hgo (b1.alloc b1.size _)) (rep6 (b1.alloc b1.size _) HA.out)).mono ?_)
  rintro e w2 ⟨rfl, b2⟩
  have a1 : Below w1.heap.size w1 (w1.alloc (.cells #[.pointer none, .slice none 0 0] 50)) := (Below.refl _ w1).alloc (Nat.le_refl _) _
  have s1 : (w1.alloc (.cells #[.pointer none, .slice none 0 0] 50)).heap.size = w1.heap.size + 1 := by simp
  have c2 : Below w1.heap.size w1 w2 := a1.trans (weak6 b2 (by omega))
  have o2 : Below w.heap.size w w2 := b1.trans (weak6 c2 b1.size)
  have i1 : Lib.IsBuilderF 50 5 w1.heap.size w1.heap.size [] w2 := isb6 (Lib.IsBuilderF.of (Lib.fresh_isBuilder 50 5 w1)) b2
  have hd21 : (g22_0 (x0.length : Int)).size ≤ 21 := numB_size _ (by omega) (by omega)
  have hI : InR .i64 (x0.length : Int) := by rw [i64_iff]; omega
  have HI : Aside (InR .i64 (x0.length : Int)) := hI
  clear hI
  go_wp2_with (go_at_call 22; refine (dc6 _ _ HI.out (gok6 hgo o2)).mono ?_)
  rintro e w3 ⟨rfl, b3⟩
  have c3 : Below w1.heap.size w1 w3 := c2.trans (weak6 b3 c2.size)
  have i3 : Lib.IsBuilderF 50 5 w1.heap.size w1.heap.size [] w3 := isb6 i1 b3
  have z0 : (acc6 x0 0).size ≤ 30 := by
    show (ByteArray.mk #[97, 114, 99, 104, 105, 118, 101, 32] ++ g22_0 (x0.length : Int) ++ ByteArray.mk #[10]).size ≤ 30
    rw [ByteArray.size_append, ByteArray.size_append]
    show 8 + _ + 1 ≤ 30
    omega
  go_wp2_with (go_at_call 21; refine (writeString w1.heap.size w1.heap.size [] (acc6 x0 0) _ i3 (by simp; omega) c3.size).mono ?_)
  rintro e w4 ⟨rfl, h4, b4⟩
  rw [List.nil_append] at h4
  have c4 : Below w1.heap.size w1 w4 := c3.trans b4
  go_wp2
  go_loopw [18] (fun i wr => ∃ k : Nat, k ≤ x0.length ∧ i = .int .i64 k ∧ Lib.BuilderAtF 50 5 w1.heap.size w1.heap.size (.pointer (some ⟨w1.heap.size, 0, none⟩)) (Lib.strCells (acc6 x0 k)) wr ∧ Below w1.heap.size w1 wr) (fun i _ => x0.length - (intOf i).toNat)
  case atStart => exact ⟨0, Nat.zero_le _, rfl, h4, c4⟩
  case round =>
    obtain ⟨k, hk, rfl, hbl, hbw⟩ := hrel
    have eb : wr.heap[b]? = w.heap[b]? := (hbw.block b (Nat.lt_of_lt_of_le hb b1.size)).trans (b1.block b hb)
    by_cases hlt : k < x0.length
    · obtain ⟨q1, q2, q3⟩ := cell6 (cap := cap) HC.out k hlt
      have e1 : wr.cell? ⟨b, off + k * 3, none⟩ = some (.string (x0.getD k (ByteArray.empty, ByteArray.empty, ByteArray.empty, ())).1) := (World.cell?_of_block eb).trans q1
      have e2 : wr.cell? ⟨b, off + k * 3 + 1, none⟩ = some (.string (x0.getD k (ByteArray.empty, ByteArray.empty, ByteArray.empty, ())).2.1) := (World.cell?_of_block eb).trans q2
      have e3 : wr.cell? ⟨b, off + k * 3 + 2, none⟩ = some (.string (x0.getD k (ByteArray.empty, ByteArray.empty, ByteArray.empty, ())).2.2.1) := (World.cell?_of_block eb).trans q3
      clear q1 q2 q3
      generalize hx : x0.getD k (ByteArray.empty, ByteArray.empty, ByteArray.empty, ()) = x at *
      obtain ⟨p1, p2, p3⟩ := HP.out x (by rw [← hx]; exact mem_getD x0 k _ hlt)
      have HW : Aside (Wf BY6 x) := p3
      have HQ : Aside (P24 x) := p1
      clear p1 p3
      have hsz := acc6_size x0 hn (fun x hx => (HP.out x hx).2.1) k hk
      have hsuc := acc6_succ x0 k hlt
      rw [hx] at hsuc
      have HS : Aside (acc6 x0 (k + 1) = acc6 x0 k ++ (g24_0 x ++ ByteArray.mk #[10])) := hsuc
      clear hsuc
      have a5 : Below w1.heap.size w1 (wr.alloc (.cells #[.string x.1, .string x.2.1, .string x.2.2.1] 58)) := hbw.alloc hbw.size _
      have o5 : Below w.heap.size w (wr.alloc (.cells #[.string x.1, .string x.2.1, .string x.2.2.1] 58)) := b1.trans (weak6 a5 b1.size)
      go_wp2_with (go_at_call 24; refine (ln6 _ x HQ.out HW.out (gok6 hgo o5)).mono ?_)
      rintro e w5 ⟨rfl, b5⟩
      have c5 : Below w1.heap.size w1 w5 := a5.trans (weak6 b5 a5.size)
      have h5 := bld6 (hbl.alloc (.cells #[.string x.1, .string x.2.1, .string x.2.2.1] 58)) b5
      have i10 : (g24_0 x ++ ByteArray.mk #[10]).size ≤ 4194305 := by
        rw [ByteArray.size_append]
        show _ + 1 ≤ 4194305
        omega
      go_wp2_with (go_at_call 21; refine (writeString w1.heap.size w1.heap.size (Lib.strCells (acc6 x0 k)) (g24_0 x ++ ByteArray.mk #[10]) _ (Or.inr h5) (by rw [Lib.strCells_length]; omega) c5.size).mono ?_)
      rintro e w6 ⟨rfl, h6, b6⟩
      rw [← cells6, ← HS.out] at h6
      have c6 : Below w1.heap.size w1 w6 := c5.trans b6
      go_wp2
      go_roundw
      case rel => exact ⟨k + 1, by omega, by simp, h6, c6⟩
      case measure => simp [intOf]; omega
    · have hkn : k = x0.length := by omega
      subst hkn
      have h7 : Lib.IsBuilderF 50 5 w1.heap.size w1.heap.size (Lib.byteCells (acc6 x0 x0.length).data.toList) wr := by
        rw [← Lib.strCells_eq]; exact Or.inr hbl
      go_wp2_with (go_at_call 25; refine (stringB w1.heap.size w1.heap.size (acc6 x0 x0.length).data.toList _ h7 hbw.size).mono ?_)
      rintro e w8 ⟨rfl, b8⟩
      have e8 : (⟨(acc6 x0 x0.length).data.toList.toArray⟩ : ByteArray) = acc6 x0 x0.length := by simp
      rw [e8]
      go_wp2
      go_ret2
      exact ⟨rfl, b1.trans (weak6 (hbw.trans b8) b1.size)⟩
set_option maxHeartbeats 4000000 in
theorem walkNil6 (w : World) (ad : Option Addr) (hgo : GOk w []) (hok : g20_0 [] = true) (ha : RepB w (Am.Good w []) (toAtom (.sl BY6) []) (.slice ad 0 0)) :
    Calls Tryz.prog 6 #[.slice ad 0 0] w fun e w' => e = .returned (.tuple #[.string (acc6 [] 0), .int .i64 0]) ∧ Below w.heap.size w w' := by
  have HA : Aside (RepB w (Am.Good w []) (toAtom (.sl BY6) []) (.slice ad 0 0)) := ha
  clear ha
  have mixed := mixed
  go_enter Tryz.func6, Tryz.ntmps6
  go_wp2_with (go_at_call 20; refine (vb6 _ [] _ hgo HA.out).mono ?_)
  rintro e w1 ⟨rfl, b1⟩
  rw [hok]
  go_wp2_with (go_at_call 23; refine (sz6 _ [] _ (gok6 hgo (b1.alloc b1.size _)) (rep6 (b1.alloc b1.size _) HA.out)).mono ?_)
  rintro e w2 ⟨rfl, b2⟩
  have a1 : Below w1.heap.size w1 (w1.alloc (.cells #[.pointer none, .slice none 0 0] 50)) := (Below.refl _ w1).alloc (Nat.le_refl _) _
  have s1 : (w1.alloc (.cells #[.pointer none, .slice none 0 0] 50)).heap.size = w1.heap.size + 1 := by simp
  have c2 : Below w1.heap.size w1 w2 := a1.trans (weak6 b2 (by omega))
  have o2 : Below w.heap.size w w2 := b1.trans (weak6 c2 b1.size)
  have i1 : Lib.IsBuilderF 50 5 w1.heap.size w1.heap.size [] w2 := isb6 (Lib.IsBuilderF.of (Lib.fresh_isBuilder 50 5 w1)) b2
  have HI : Aside (InR .i64 (0 : Int)) := by constructor <;> decide
  have hd21 : (g22_0 0).size ≤ 21 := numB_size _ (by omega) (by omega)
  go_wp2_with (go_at_call 22; refine (dc6 _ 0 HI.out (gok6 hgo o2)).mono ?_)
  rintro e w3 ⟨rfl, b3⟩
  have c3 : Below w1.heap.size w1 w3 := c2.trans (weak6 b3 c2.size)
  have i3 : Lib.IsBuilderF 50 5 w1.heap.size w1.heap.size [] w3 := isb6 i1 b3
  have z0 := acc6_size [] (by decide) (fun x hx => by cases hx) 0 (Nat.le_refl _)
  have hz : ([] : List Value).length + (acc6 [] 0).size ≤ 140737488355328 := by simp only [List.length_nil]; omega
  have ea : acc6 [] 0 = ByteArray.mk #[97, 114, 99, 104, 105, 118, 101, 32] ++ g22_0 0 ++ ByteArray.mk #[10] := rfl
  rw [ea] at hz
  go_wp2_with (go_at_call 21; refine (writeString w1.heap.size w1.heap.size [] _ _ i3 hz c3.size).mono ?_)
  rintro e w4 ⟨rfl, h4, b4⟩
  rw [List.nil_append, ← ea] at h4
  have c4 : Below w1.heap.size w1 w4 := c3.trans b4
  go_wp2
  go_loopw [18] (fun i wr => i = .int .i64 0 ∧ Lib.BuilderAtF 50 5 w1.heap.size w1.heap.size (.pointer (some ⟨w1.heap.size, 0, none⟩)) (Lib.strCells (acc6 [] 0)) wr ∧ Below w1.heap.size w1 wr) (fun i _ => 0)
  case atStart => exact ⟨rfl, h4, c4⟩
  case round =>
    obtain ⟨rfl, hbl, hbw⟩ := hrel
    have h7 : Lib.IsBuilderF 50 5 w1.heap.size w1.heap.size (Lib.byteCells (acc6 [] 0).data.toList) wr := by
      rw [← Lib.strCells_eq]; exact Or.inr hbl
    go_wp2_with (go_at_call 25; refine (stringB w1.heap.size w1.heap.size (acc6 [] 0).data.toList _ h7 hbw.size).mono ?_)
    rintro e w8 ⟨rfl, b8⟩
    have e8 : (⟨(acc6 [] 0).data.toList.toArray⟩ : ByteArray) = acc6 [] 0 := by simp
    rw [e8]
    go_wp2
    go_ret2
    exact ⟨rfl, b1.trans (weak6 (hbw.trans b8) b1.size)⟩
set_option maxHeartbeats 4000000 in
theorem walkBad6 (w : World) (x0 : List TyB1) (v : Value) (hgo : GOk w []) (hok : g20_0 x0 = false) (ha : RepB w (Am.Good w []) (toAtom (.sl BY6) x0) v) :
    Calls Tryz.prog 6 #[v] w fun e w' => e = .returned (.tuple #[.string ⟨#[]⟩, .int .i64 1]) ∧ Below w.heap.size w w' := by
  have HA : Aside (RepB w (Am.Good w []) (toAtom (.sl BY6) x0) v) := ha
  clear ha
  have mixed := mixed
  go_enter Tryz.func6, Tryz.ntmps6
  go_wp2_with (go_at_call 20; refine (vb6 _ x0 _ hgo HA.out).mono ?_)
  rintro e w1 ⟨rfl, b1⟩
  rw [hok]
  go_wp2
  go_ret2
  exact ⟨rfl, b1⟩
def sig6 : List AT := [AT.v (.sl BY6)]
def g6_0 (x0 : List TyB1) : ByteArray := if g20_0 x0 = true then acc6 x0 x0.length else ByteArray.mk #[]
def g6_1 (x0 : List TyB1) : Int := if g20_0 x0 = true then 0 else 1
def P6 (x0 : List TyB1) : Prop := ∀ x ∈ x0, P24 x ∧ (g24_0 x).size ≤ 4194304
def S6 : Am.Spec := { sig := sig6, pre := fun ⟨x0, _⟩ => P6 x0, res := fun ⟨x0, _⟩ => [⟨Ty.str, g6_0 x0⟩, ⟨Ty.int .i64, g6_1 x0⟩] }
theorem len6 {x0 : List TyB1} (h : g20_0 x0 = true) : x0.length ≤ 32 := by
  unfold g20_0 at h
  simp only [Bool.and_eq_true, decide_eq_true_eq] at h
  exact h.2
theorem con6 : Contract Tryz.prog 6 S6 := contract_flat rfl fun w ⟨x0, _⟩ vs bss hg hp hw ha => by
  obtain ⟨v0, s0, _, _, rfl, _, ⟨_, ha⟩, rfl, _⟩ := ha
  have hp : ∀ x ∈ x0, P24 x ∧ (g24_0 x).size ≤ 4194304 := hp
  have hgo : GOk w [] := ⟨hg, hg.size, fun b hb => by cases hb⟩
  obtain ⟨hwf, hml, hcase⟩ := slAt_flat (t := BY6) rfl ha
  refine ⟨fun d hd => ?_, ?_⟩
  · simp only [List.mem_cons, List.mem_nil_iff, or_false] at hd
    rcases hd with rfl | rfl
    · refine ⟨rfl, ?_⟩
      show (g6_0 x0).size ≤ maxLen
      unfold g6_0
      split
      · rename_i h
        have := acc6_size x0 (len6 h) (fun x hx => (hp x hx).2) x0.length (Nat.le_refl _)
        have := len6 h
        unfold maxLen; omega
      · exact Nat.zero_le _
    · refine ⟨rfl, ?_⟩
      show InR .i64 (g6_1 x0)
      unfold g6_1
      rw [i64_iff]
      split <;> omega
  · show Calls Tryz.prog 6 #[v0] w fun e w' => e = .returned (.tuple #[.string (g6_0 x0), .int .i64 (g6_1 x0)]) ∧ Kept [] w w'
    unfold g6_0 g6_1
    by_cases h : g20_0 x0 = true
    · rw [if_pos h, if_pos h]
      rcases hcase with ⟨ad, rfl, rfl⟩ | ⟨b', off, cap, rfl, h2, h3, hG, hcells⟩
      · refine (walkNil6 w ad hgo h ha).mono ?_
        rintro e w' ⟨rfl, hb⟩
        exact ⟨rfl, Kept.of_below hb⟩
      · refine (walk6 w x0 b' off cap hgo h2 h3 hG.1 h (len6 h) ha hcells (fun x hx => ⟨(hp x hx).1, (hp x hx).2, hwf x hx⟩)).mono ?_
        rintro e w' ⟨rfl, hb⟩
        exact ⟨rfl, Kept.of_below hb⟩
    · rw [if_neg h, if_neg h]
      refine (walkBad6 w x0 v0 hgo (Bool.eq_false_iff.2 h) ha).mono ?_
      rintro e w' ⟨rfl, hb⟩
      exact ⟨rfl, Kept.of_below hb⟩
noncomputable section
def ext53 : Ext := []
theorem ext53Ok : ExtOk Tryz.prog ext53 := trivial
noncomputable def b53 : Code := bodyOf Tryz.f53
theorem hb53 : Tryz.f53.body = some b53 := by kernel_rfl
def sig53 : List AT := [AT.v (Ty.str), AT.v (Ty.str)]
def tys53 : List Ty := [Ty.bool]
def kds53 : List RK := []
def oks53 : List AT := owns sig53
def P53 (x0 : ByteArray) (x1 : ByteArray) : Prop := (if (decide ((↑(ByteArray.size x0) : Int) ≥ (↑(ByteArray.size x1) : Int))) = true then ((InR .i64 ((↑(ByteArray.size x0) : Int) - (↑(ByteArray.size x1) : Int))) ∧ ((0 ≤ (↑(ByteArray.size x0) : Int) - (↑(ByteArray.size x1) : Int)) ∧ ((↑(ByteArray.size x0) : Int) - (↑(ByteArray.size x1) : Int) ≤ (↑(ByteArray.size x0) : Int)) ∧ True)) else True)
def g53_0 (x0 : ByteArray) (x1 : ByteArray) : Bool := (if (decide ((↑(ByteArray.size x0) : Int) ≥ (↑(ByteArray.size x1) : Int))) = true then ByteArray.toList (ByteArray.extract x0 (Int.toNat ((↑(ByteArray.size x0) : Int) - (↑(ByteArray.size x1) : Int))) (Int.toNat (↑(ByteArray.size x0) : Int))) == ByteArray.toList x1 else false)
theorem at53 (x0 : ByteArray) (x1 : ByteArray) (h : P53 x0 x1) (K : Ctx) (q : Nat → Value) : AtV Tryz.prog 53 (PostR kds53 oks53 [⟨Ty.bool, g53_0 x0 x1⟩] [] [] q K) 21 K q [] [.code b53] (entE 0 0 sig53 (x0, x1, ())) (entL sig53 (x0, x1, ())) := by
  unfold P53 at h
  unfold g53_0
  by_cases b0 : (decide ((↑(ByteArray.size x0) : Int) ≥ (↑(ByteArray.size x1) : Int))) = true
  · try simp only [if_pos b0] at h ⊢
    obtain ⟨s0, h⟩ := h
    obtain ⟨s1, s2, h⟩ := h
    exact AtV.ret Tryz.func53 tabOk ext53Ok mixed false [] tys53 [true] (a1 b0 (a1 s0 (a1 s1 (a1 s2 trivial)))) (by kernel_rfl)
  · try simp only [if_neg b0] at h ⊢
    replace b0 := Bool.eq_false_iff.2 b0
    exact AtV.ret Tryz.func53 tabOk ext53Ok mixed false [] tys53 [false] (a1 b0 trivial) (by kernel_rfl)
def S53 : Am.Spec := { sig := sig53, pre := fun ⟨x0, x1, _⟩ => P53 x0 x1, res := fun ⟨x0, x1, _⟩ => [⟨Ty.bool, g53_0 x0 x1⟩], kds := kds53 }
theorem con53 : Contract Tryz.prog 53 S53 := contract_of Tryz.func53 hb53 (Nat.le_of_ble_eq_true (by kernel_rfl)) (fun ⟨x0, x1, _⟩ h _ K q => at53 x0 x1 h K q)
end
noncomputable section
def ext26 : Ext := [(53, S53)]
theorem ext26Ok : ExtOk Tryz.prog ext26 := ⟨⟨ca53, con53⟩, trivial⟩
noncomputable def b26 : Code := bodyOf Tryz.f26
theorem hb26 : Tryz.f26.body = some b26 := by kernel_rfl
def sig26 : List AT := [AT.v (Ty.str), AT.v (Ty.str)]
def tys26 : List Ty := [Ty.bool]
def kds26 : List RK := []
def oks26 : List AT := owns sig26
def P26 (x0 : ByteArray) (x1 : ByteArray) : Prop := ((P53 x0 x1) ∧ True)
def g26_0 (x0 : ByteArray) (x1 : ByteArray) : Bool := g53_0 x0 x1
theorem at26 (x0 : ByteArray) (x1 : ByteArray) (h : P26 x0 x1) (K : Ctx) (q : Nat → Value) : AtV Tryz.prog 26 (PostR kds26 oks26 [⟨Ty.bool, g26_0 x0 x1⟩] [] [] q K) 8 K q [] [.code b26] (entE 0 0 sig26 (x0, x1, ())) (entL sig26 (x0, x1, ())) := by
  unfold P26 at h
  unfold g26_0
  obtain ⟨s0, h⟩ := h
  exact AtV.ret Tryz.func26 tabOk ext26Ok mixed false [] tys26 [] (a1 s0 trivial) (by kernel_rfl)
def S26 : Am.Spec := { sig := sig26, pre := fun ⟨x0, x1, _⟩ => P26 x0 x1, res := fun ⟨x0, x1, _⟩ => [⟨Ty.bool, g26_0 x0 x1⟩], kds := kds26 }
theorem con26 : Contract Tryz.prog 26 S26 := contract_of Tryz.func26 hb26 (Nat.le_of_ble_eq_true (by kernel_rfl)) (fun ⟨x0, x1, _⟩ h _ K q => at26 x0 x1 h K q)
end
def sig55 : List AT := [AT.v Ty.str, AT.v Ty.str]
def g55_0 (x0 x1 : ByteArray) : ByteArray := ⟨(Lib.trimSuffix x0.data.toList x1.data.toList).toArray⟩
def P55 (x0 x1 : ByteArray) : Prop := True
def S55 : Am.Spec := { sig := sig55, pre := fun ⟨x0, x1, _⟩ => P55 x0 x1, res := fun ⟨x0, x1, _⟩ => [⟨Ty.str, g55_0 x0 x1⟩] }
theorem con55 : Contract Tryz.prog 55 S55 := contract_flat rfl fun w ⟨x0, x1, _⟩ vs bss hg hp hw ha => by
  obtain ⟨v0, s0, _, _, rfl, _, ⟨_, rfl, _⟩, v1, s1, _, _, rfl, _, ⟨_, rfl, _⟩, rfl, _⟩ := ha
  have hi : x0.size ≤ maxLen := hw.1
  refine ⟨fun d hd => ?_, ?_⟩
  · rw [List.mem_singleton.1 hd]
    refine ⟨rfl, ?_⟩
    show (List.toArray _).size ≤ maxLen
    rw [List.size_toArray]
    have e : x0.data.toList.length = x0.size := rfl
    unfold Lib.trimSuffix
    split
    · rw [List.length_take]; omega
    · omega
  · refine (Tryz.strings_TrimSuffix x0 x1 w hi).mono ?_
    rintro e w' ⟨rfl, rfl⟩
    exact ⟨rfl, Kept.refl _ _⟩
def sig54 : List AT := [AT.v Ty.str, AT.v Ty.str]
def g54_0 (x0 x1 : ByteArray) : List ByteArray := Lib.splitB x1 0 (Lib.countB x0 x1) x0
def P54 (x0 x1 : ByteArray) : Prop := x0.size < 4294967281 ∧ 1 ≤ x1.size
def S54 : Am.Spec := { sig := sig54, pre := fun ⟨x0, x1, _⟩ => P54 x0 x1, res := fun ⟨x0, x1, _⟩ => [⟨Ty.sl Ty.str, g54_0 x0 x1⟩] }
theorem con54 : Contract Tryz.prog 54 S54 := by
  refine Contract0.up rfl rfl ?_
  rintro w ⟨x0, x1, u⟩ vs bss hgo hp ⟨v0, s0, b0, bs0, rfl, rfl, ⟨rfl, rfl, _⟩, v1, s1, b1, bs1, rfl, rfl, ⟨rfl, rfl, _⟩, rfl, rfl⟩ hn
  obtain ⟨hs, h1⟩ : x0.size < 4294967281 ∧ 1 ≤ x1.size := hp
  obtain ⟨m, hm⟩ := maxLenG hgo.inv
  refine (Tryz.strings_Split x0 x1 m w hs hm h1).mono ?_
  rintro e w' ⟨rfl, rfl⟩
  have hlen : (g54_0 x0 x1).length = Lib.countB x0 x1 + 1 := Lib.splitB_all x1 h1 0 _ _ rfl
  have hle := Lib.countB_le x1 h1 x0.size x0 (Nat.le_refl _)
  have hparts : ∀ y ∈ g54_0 x0 x1, y.size ≤ maxLen := fun y hy => by
    have := splitB_part x1 0 _ _ y hy
    unfold maxLen; omega
  have e1 : ∀ xs : List ByteArray, fcs .str xs = xs.map Value.string := by
    intro xs
    induction xs with
    | nil => rfl
    | cons a r ih => unfold fcs at ih ⊢; rw [List.map_cons, List.flatten_cons, ih]; rfl
  have ho : OwnC (w.alloc (.cells ((g54_0 x0 x1).map Value.string).toArray 9)) (.sl .str) (g54_0 x0 x1) [.slice (some ⟨w.heap.size, 0, none⟩) (Lib.countB x0 x1 + 1) (Lib.countB x0 x1 + 1)] [w.heap.size] :=
    own_flat_mk rfl hparts hlen.symm (Nat.le_of_eq hlen) (by unfold maxLen; omega) (by rw [List.size_toArray, List.length_map, hlen]; simp [Ty.size]) (heap_new w _) (freeS_zero _ _) (fun j u hj => by
      rw [e1] at hj
      rw [Nat.zero_add, ← Array.getElem?_toList]
      exact hj)
  refine ⟨[_], [], [[w.heap.size]], rfl, (Kept.refl _ _).alloc _, ⟨_, _, _, _, _, rfl, rfl, ho, rfl, rfl, rfl⟩, ⟨rfl, rfl⟩, by simp, fun b hb hg => ?_⟩
  simp at hb
  have := hg.1
  omega
noncomputable section
def ext27 : Ext := [(55, S55), (54, S54)]
theorem ext27Ok : ExtOk Tryz.prog ext27 := ⟨⟨ca55, con55⟩, ⟨ca54, con54⟩, trivial⟩
noncomputable def b27 : Code := bodyOf Tryz.f27
theorem hb27 : Tryz.f27.body = some b27 := by kernel_rfl
def sig27 : List AT := [AT.v (Ty.str)]
def tys27 : List Ty := [Ty.sl Ty.str]
def kds27 : List RK := []
def oks27 : List AT := owns sig27
def P27 (x0 : ByteArray) : Prop := (if (ByteArray.toList x0 == ByteArray.toList (ByteArray.mk #[])) = true then True else ((P54 (g55_0 x0 (ByteArray.mk #[10])) (ByteArray.mk #[10])) ∧ True))
def g27_0 (x0 : ByteArray) : List ByteArray := (if (ByteArray.toList x0 == ByteArray.toList (ByteArray.mk #[])) = true then [] else g54_0 (g55_0 x0 (ByteArray.mk #[10])) (ByteArray.mk #[10]))
theorem at27 (x0 : ByteArray) (h : P27 x0) (K : Ctx) (q : Nat → Value) : AtV Tryz.prog 27 (PostR kds27 oks27 [⟨Ty.sl Ty.str, g27_0 x0⟩] [] [] q K) 8 K q [] [.code b27] (entE 0 0 sig27 (x0, ())) (entL sig27 (x0, ())) := by
  unfold P27 at h
  unfold g27_0
  by_cases b0 : (ByteArray.toList x0 == ByteArray.toList (ByteArray.mk #[])) = true
  · try simp only [if_pos b0] at h ⊢
    exact AtV.ret Tryz.func27 tabOk ext27Ok mixed false [] tys27 [true] (a1 b0 trivial) (by kernel_rfl)
  · try simp only [if_neg b0] at h ⊢
    replace b0 := Bool.eq_false_iff.2 b0
    obtain ⟨s0, h⟩ := h
    exact AtV.ret Tryz.func27 tabOk ext27Ok mixed false [] tys27 [false] (a1 b0 (a1 trivial (a1 s0 trivial))) (by kernel_rfl)
def S27 : Am.Spec := { sig := sig27, pre := fun ⟨x0, _⟩ => P27 x0, res := fun ⟨x0, _⟩ => [⟨Ty.sl Ty.str, g27_0 x0⟩], kds := kds27 }
theorem con27 : Contract Tryz.prog 27 S27 := contract_of Tryz.func27 hb27 (Nat.le_of_ble_eq_true (by kernel_rfl)) (fun ⟨x0, _⟩ h _ K q => at27 x0 h K q)
end
def sig29 : List AT := [AT.v Ty.str, AT.v Ty.str]
def g29_0 (x0 x1 : ByteArray) : ByteArray := ⟨(Lib.trimPrefix x0.data.toList x1.data.toList).toArray⟩
def P29 (x0 x1 : ByteArray) : Prop := True
def S29 : Am.Spec := { sig := sig29, pre := fun ⟨x0, x1, _⟩ => P29 x0 x1, res := fun ⟨x0, x1, _⟩ => [⟨Ty.str, g29_0 x0 x1⟩] }
theorem con29 : Contract Tryz.prog 29 S29 := contract_flat rfl fun w ⟨x0, x1, _⟩ vs bss hg hp hw ha => by
  obtain ⟨v0, s0, _, _, rfl, _, ⟨_, rfl, _⟩, v1, s1, _, _, rfl, _, ⟨_, rfl, _⟩, rfl, _⟩ := ha
  have hi : x0.size ≤ maxLen := hw.1
  refine ⟨fun d hd => ?_, ?_⟩
  · rw [List.mem_singleton.1 hd]
    refine ⟨rfl, ?_⟩
    show (List.toArray _).size ≤ maxLen
    rw [List.size_toArray]
    have e : x0.data.toList.length = x0.size := rfl
    unfold Lib.trimPrefix
    split
    · rw [List.length_drop]; omega
    · omega
  · refine (Tryz.strings_TrimPrefix x0 x1 w).mono ?_
    rintro e w' ⟨rfl, rfl⟩
    exact ⟨rfl, Kept.refl _ _⟩
theorem parseOk56 (s : ByteArray) (hs : s.size ≤ 281474976710656) (v : Int) (h : Lib.parseIntB 64 s.data.toList = .ok v) (W : World) :
    Calls Tryz.prog 56 #[.string s, .int .i64 10, .int .i64 64] W fun e w' => e = .returned (.tuple #[.int .i64 v, .nilIface]) ∧ Go.RowKit.Below W.heap.size W w' := by
  refine (Tryz.strconv_ParseInt_10_at64_ok s (by omega) v h W).mono ?_
  rintro e w' ⟨rfl, hw⟩
  refine ⟨rfl, ?_⟩
  rcases hw with rfl | ⟨t, rfl⟩
  · exact Go.RowKit.Below.refl _ _
  · exact Lib.bytesWorld_below _ _ _
theorem parseNo56 (s : ByteArray) (hs : s.size ≤ 281474976710656) (h : ∀ v, Lib.parseIntB 64 s.data.toList ≠ .ok v) (W : World) (hg : GInv W) :
    Calls Tryz.prog 56 #[.string s, .int .i64 10, .int .i64 64] W fun e w' => ∃ n t N, e = .returned (.tuple #[.int .i64 n, .iface t (.pointer (some ⟨N, 0, none⟩))]) ∧ Go.RowKit.Below W.heap.size W w' := by
  obtain ⟨es, hes, hes2⟩ := errSyntaxG hg
  obtain ⟨er, her, her2⟩ := errRangeG hg
  rcases hp : Lib.parseIntB 64 s.data.toList with v | _ | _
  · exact absurd hp (h v)
  · refine (Tryz.strconv_ParseInt_10_at64_syntax s hs hp es W hes hes2).mono ?_
    rintro e w' ⟨N, rfl, _, _, hb⟩
    exact ⟨_, _, _, rfl, hb⟩
  · refine (Tryz.strconv_ParseInt_10_at64_range s hs hp er W her her2).mono ?_
    rintro e w' ⟨N, rfl, _, _, hb⟩
    exact ⟨_, _, _, rfl, hb⟩
end Go.Proofs.YtbepbihblhhfkaaGreatDoor
set_option linter.unusedVariables false
set_option linter.unusedSimpArgs false
set_option maxRecDepth 100000
namespace Go.Proofs.YtbepbihblhhfkaaGreatDoor
open Go Go.Am Go.Proofs Go.RowKit
theorem dec28 (W : World) (n : Int) (hi : InR .i64 n) (hgo : GOk W []) :
    Calls Tryz.prog 22 #[.int .i64 n] W fun e w' => e = .returned (.string (numB n)) ∧ Below W.heap.size W w' := by
  have h := con22.down rfl W (n, ()) [.int .i64 n] [[]] hgo ⟨rfl, trivial⟩ ⟨_, [], [], [], rfl, rfl, ⟨rfl, rfl, hi⟩, rfl, rfl⟩ (by simp)
  refine h.mono ?_
  rintro e w' ⟨rs, ubs, rbs, rfl, hk, ⟨u, s, b1, bs1, cs, rfl, rfl, ho, hv, rfl, rfl⟩, _⟩
  obtain ⟨ho, _⟩ := ho
  have hv : cs = [u] := hv
  rw [ho] at hv
  cases hv
  exact ⟨rfl, hk.below⟩
theorem trim28 (W : World) (s d : ByteArray) (h : g29_0 s ⟨#[45]⟩ = d) : Calls Tryz.prog 29 #[.string s, .string ⟨#[45]⟩] W fun e w' => e = .returned (.string d) ∧ w' = W := by
  rw [← h]
  exact Tryz.strings_TrimPrefix s ⟨#[45]⟩ W
theorem gok28 {w W : World} (h : GOk w []) (hb : Below w.heap.size w W) : GOk W [] where
  inv := h.inv.keep fun b _ hs => hb.5 b hs
  size := Nat.le_trans h.size hb.4
  out := h.out
theorem range28 {l : List UInt8} {v : Int} (h : Lib.parseIntB 64 l = .ok v) : InR .i64 v := by
  unfold Lib.parseIntB at h
  split at h
  · cases h
  · simp only at h
    split at h
    · cases h
    · cases h
    · split at h
      · cases h
      · split at h
        · cases h
        · rename_i u _ h1 h2
          have e1 : (2 : Nat) ^ (64 - 1) = 9223372036854775808 := by decide
          rw [e1] at h1 h2
          rw [i64_iff]
          split at h
          · cases h; rename_i hn; have : ¬ 9223372036854775808 < u := fun hh => h2 ⟨hn, hh⟩; omega
          · cases h; rename_i hn; have : ¬ 9223372036854775808 ≤ u := fun hh => h1 ⟨hn, hh⟩; omega
def long28 (s : ByteArray) : Bool := decide ((g29_0 s ⟨#[45]⟩).size < 1) || decide (18 < (g29_0 s ⟨#[45]⟩).size)
def rd28 (s : ByteArray) : Option Int := if long28 s = true then none else match Lib.parseIntB 64 s.data.toList with
  | .ok v => if numB v = s then some v else none
  | _ => none
set_option maxHeartbeats 4000000 in
theorem walkShort28 (w : World) (s d : ByteArray) (HD : Aside (g29_0 s ⟨#[45]⟩ = d)) (h1 : (d.size : Int) < 1) :
    Calls Tryz.prog 28 #[.string s] w fun e w' => e = .returned (.tuple #[.int .i64 0, .bool false]) ∧ Below w.heap.size w w' := by
  have mixed := mixed
  go_enter Tryz.func28, Tryz.ntmps28
  go_wp2_with (go_at_call 29; refine (trim28 _ s d HD.out).mono ?_; rintro e w1 ⟨rfl, rfl⟩)
  go_ret2
  exact ⟨rfl, Below.refl _ _⟩
set_option maxHeartbeats 4000000 in
theorem walkLong28 (w : World) (s d : ByteArray) (HD : Aside (g29_0 s ⟨#[45]⟩ = d)) (h1 : ¬ (d.size : Int) < 1) (h2 : (d.size : Int) > 18) :
    Calls Tryz.prog 28 #[.string s] w fun e w' => e = .returned (.tuple #[.int .i64 0, .bool false]) ∧ Below w.heap.size w w' := by
  have mixed := mixed
  go_enter Tryz.func28, Tryz.ntmps28
  go_wp2_with (go_at_call 29; refine (trim28 _ s d HD.out).mono ?_; rintro e w1 ⟨rfl, rfl⟩)
  go_ret2
  exact ⟨rfl, Below.refl _ _⟩
set_option maxHeartbeats 4000000 in
theorem walkEq28 (w : World) (s d : ByteArray) (hs : s.size ≤ 281474976710656) (hgo : GOk w []) (HD : Aside (g29_0 s ⟨#[45]⟩ = d)) (h1 : ¬ (d.size : Int) < 1) (h2 : ¬ (d.size : Int) > 18) (v : Int) (HP : Aside (Lib.parseIntB 64 s.data.toList = .ok v)) (HE : Aside (numB v = s)) :
    Calls Tryz.prog 28 #[.string s] w fun e w' => e = .returned (.tuple #[.int .i64 v, .bool true]) ∧ Below w.heap.size w w' := by
  have mixed := mixed
  go_enter Tryz.func28, Tryz.ntmps28
  go_wp2_with (go_at_call 29; refine (trim28 _ s d HD.out).mono ?_; rintro e w1 ⟨rfl, rfl⟩)
  have HR : Aside (InR .i64 v) := range28 HP.out
  go_wp2_with (go_at_call 56; refine (parseOk56 s hs v HP.out _).mono ?_)
  rintro e w2 ⟨rfl, b2⟩
  go_wp2_with (go_at_call 22; refine (dec28 _ v HR.out (gok28 hgo b2)).mono ?_)
  rintro e w3 ⟨rfl, b3⟩
  rw [HE.out]
  go_wp2
  go_ret2
  exact ⟨rfl, b2.trans (b3.mono b2.size)⟩
set_option maxHeartbeats 4000000 in
theorem walkNe28 (w : World) (s d : ByteArray) (hs : s.size ≤ 281474976710656) (hgo : GOk w []) (HD : Aside (g29_0 s ⟨#[45]⟩ = d)) (h1 : ¬ (d.size : Int) < 1) (h2 : ¬ (d.size : Int) > 18) (v : Int) (HP : Aside (Lib.parseIntB 64 s.data.toList = .ok v)) (HE : Aside (¬ numB v = s)) :
    Calls Tryz.prog 28 #[.string s] w fun e w' => e = .returned (.tuple #[.int .i64 0, .bool false]) ∧ Below w.heap.size w w' := by
  have mixed := mixed
  go_enter Tryz.func28, Tryz.ntmps28
  go_wp2_with (go_at_call 29; refine (trim28 _ s d HD.out).mono ?_; rintro e w1 ⟨rfl, rfl⟩)
  have HR : Aside (InR .i64 v) := range28 HP.out
  go_wp2_with (go_at_call 56; refine (parseOk56 s hs v HP.out _).mono ?_)
  rintro e w2 ⟨rfl, b2⟩
  go_wp2_with (go_at_call 22; refine (dec28 _ v HR.out (gok28 hgo b2)).mono ?_)
  rintro e w3 ⟨rfl, b3⟩
  have he' : ((numB v).toList == s.toList) = false := by
    rw [Bool.eq_false_iff]; exact fun hh => HE.out ((bytes_eq _ _).1 hh)
  go_wp2
  go_ret2
  exact ⟨rfl, b2.trans (b3.mono b2.size)⟩
set_option maxHeartbeats 4000000 in
theorem walkNo28 (w : World) (s d : ByteArray) (hs : s.size ≤ 281474976710656) (hgo : GOk w []) (HD : Aside (g29_0 s ⟨#[45]⟩ = d)) (h1 : ¬ (d.size : Int) < 1) (h2 : ¬ (d.size : Int) > 18) (HP : Aside (∀ v, Lib.parseIntB 64 s.data.toList ≠ .ok v)) :
    Calls Tryz.prog 28 #[.string s] w fun e w' => e = .returned (.tuple #[.int .i64 0, .bool false]) ∧ Below w.heap.size w w' := by
  have mixed := mixed
  go_enter Tryz.func28, Tryz.ntmps28
  go_wp2_with (go_at_call 29; refine (trim28 _ s d HD.out).mono ?_; rintro e w1 ⟨rfl, rfl⟩)
  go_wp2_with (go_at_call 56; refine (parseNo56 s hs HP.out _ hgo.inv).mono ?_)
  rintro e w2 ⟨n, t, N, rfl, b2⟩
  go_wp2
  go_ret2
  exact ⟨rfl, b2⟩
def sig28 : List AT := [AT.v .str]
def g28_0 (x0 : ByteArray) : Int := (rd28 x0).getD 0
def g28_1 (x0 : ByteArray) : Bool := (rd28 x0).isSome
def P28 (x0 : ByteArray) : Prop := x0.size ≤ 281474976710656
def S28 : Am.Spec := { sig := sig28, pre := fun ⟨x0, _⟩ => P28 x0, res := fun ⟨x0, _⟩ => [⟨.int .i64, g28_0 x0⟩, ⟨.bool, g28_1 x0⟩] }
theorem con28 : Contract Tryz.prog 28 S28 := contract_flat rfl fun w ⟨x0, _⟩ vs bss hg hp hw ha => by
  obtain ⟨v0, s0, _, _, rfl, _, ⟨_, rfl, _⟩, rfl, _⟩ := ha
  have hs : x0.size ≤ 281474976710656 := hp
  have hgo : GOk w [] := ⟨hg, hg.size, fun b hb => by cases hb⟩
  refine ⟨fun d hd => ?_, ?_⟩
  · simp only [List.mem_cons, List.mem_nil_iff, or_false] at hd
    rcases hd with rfl | rfl
    · refine ⟨rfl, ?_⟩
      show InR .i64 ((rd28 x0).getD 0)
      have z : InR .i64 0 := by rw [i64_iff]; omega
      unfold rd28
      split
      · exact z
      · split
        · rename_i v h
          split
          · exact range28 h
          · exact z
        · exact z
    · exact ⟨rfl, trivial⟩
  · show Calls Tryz.prog 28 #[.string x0] w fun e w' => e = .returned (.tuple #[.int .i64 ((rd28 x0).getD 0), .bool (rd28 x0).isSome]) ∧ Kept [] w w'
    have hd : Aside (g29_0 x0 ⟨#[45]⟩ = g29_0 x0 ⟨#[45]⟩) := rfl
    unfold rd28 long28
    by_cases h1 : (g29_0 x0 ⟨#[45]⟩).size < 1
    · rw [if_pos (by simp [h1])]
      refine (walkShort28 w x0 _ hd (by omega)).mono ?_
      rintro e w' ⟨rfl, hb⟩
      exact ⟨rfl, Kept.of_below hb⟩
    · by_cases h2 : 18 < (g29_0 x0 ⟨#[45]⟩).size
      · rw [if_pos (by simp [h2])]
        refine (walkLong28 w x0 _ hd (by omega) (by omega)).mono ?_
        rintro e w' ⟨rfl, hb⟩
        exact ⟨rfl, Kept.of_below hb⟩
      · rw [if_neg (by simp [h1, h2])]
        by_cases hok : ∃ v, Lib.parseIntB 64 x0.data.toList = .ok v
        · obtain ⟨v, hv⟩ := hok
          rw [hv]
          by_cases he : numB v = x0
          · simp only [if_pos he]
            refine (walkEq28 w x0 _ hs hgo hd (by omega) (by omega) v hv he).mono ?_
            rintro e w' ⟨rfl, hb⟩
            exact ⟨rfl, Kept.of_below hb⟩
          · simp only [if_neg he]
            refine (walkNe28 w x0 _ hs hgo hd (by omega) (by omega) v hv he).mono ?_
            rintro e w' ⟨rfl, hb⟩
            exact ⟨rfl, Kept.of_below hb⟩
        · have hno : ∀ v, Lib.parseIntB 64 x0.data.toList ≠ .ok v := fun v hv => hok ⟨v, hv⟩
          have e : (match Lib.parseIntB 64 x0.data.toList with
            | .ok v => if numB v = x0 then some v else none
            | _ => none : Option Int) = none := by
            split
            · rename_i v hv; exact absurd hv (hno v)
            · rfl
          rw [e]
          refine (walkNo28 w x0 _ hs hgo hd (by omega) (by omega) hno).mono ?_
          rintro e w' ⟨rfl, hb⟩
          exact ⟨rfl, Kept.of_below hb⟩
def sig58 : List AT := [AT.v Ty.str, AT.v Ty.str]
def g58_0 (x0 x1 : ByteArray) : ByteArray := ⟨(Lib.cut x0.data.toList x1.data.toList).1.toArray⟩
def g58_1 (x0 x1 : ByteArray) : ByteArray := ⟨(Lib.cut x0.data.toList x1.data.toList).2.1.toArray⟩
def g58_2 (x0 x1 : ByteArray) : Bool := (Lib.cut x0.data.toList x1.data.toList).2.2
def P58 (x0 x1 : ByteArray) : Prop := x0.size < 4294967281
def S58 : Am.Spec := { sig := sig58, pre := fun ⟨x0, x1, _⟩ => P58 x0 x1, res := fun ⟨x0, x1, _⟩ => [⟨Ty.str, g58_0 x0 x1⟩, ⟨Ty.str, g58_1 x0 x1⟩, ⟨Ty.bool, g58_2 x0 x1⟩] }
theorem cutLen58 (s sep : List UInt8) : (Lib.cut s sep).1.length ≤ s.length ∧ (Lib.cut s sep).2.1.length ≤ s.length := by
  unfold Lib.cut
  split
  · exact ⟨by simp; omega, by simp⟩
  · exact ⟨Nat.le_refl _, Nat.zero_le _⟩
theorem con58 : Contract Tryz.prog 58 S58 := contract_flat rfl fun w ⟨x0, x1, _⟩ vs bss hg hp hw ha => by
  obtain ⟨v0, s0, _, _, rfl, _, ⟨_, rfl, _⟩, v1, s1, _, _, rfl, _, ⟨_, rfl, _⟩, rfl, _⟩ := ha
  have hp : x0.size < 4294967281 := hp
  obtain ⟨l1, l2⟩ := cutLen58 x0.data.toList x1.data.toList
  have e : x0.data.toList.length = x0.size := rfl
  refine ⟨fun d hd => ?_, ?_⟩
  · simp only [S58, List.mem_cons, List.mem_nil_iff, or_false] at hd
    rcases hd with rfl | rfl | rfl
    · refine ⟨rfl, ?_⟩
      show (List.toArray _).size ≤ maxLen
      rw [List.size_toArray]; unfold maxLen; omega
    · refine ⟨rfl, ?_⟩
      show (List.toArray _).size ≤ maxLen
      rw [List.size_toArray]; unfold maxLen; omega
    · exact ⟨rfl, trivial⟩
  · obtain ⟨m, hm⟩ := maxLenG hg
    refine (Tryz.strings_Cut x0 x1 m w hp hm).mono ?_
    rintro e w' ⟨rfl, n, rfl⟩
    exact ⟨rfl, ⟨rfl, rfl, rfl, Nat.le_refl _, fun _ _ _ => rfl⟩⟩
noncomputable section
def ext31 : Ext := [(58, S58), (51, S51), (22, S22), (52, S52), (48, S48), (24, S24)]
theorem ext31Ok : ExtOk Tryz.prog ext31 := ⟨⟨ca58, con58⟩, ⟨ca51, con51⟩, ⟨ca22, con22⟩, ⟨ca52, con52⟩, ⟨ca48, con48⟩, ⟨ca24, con24⟩, trivial⟩
noncomputable def b31 : Code := bodyOf Tryz.f31
theorem hb31 : Tryz.f31.body = some b31 := by kernel_rfl
def sig31 : List AT := [AT.v (Ty.str)]
def tys31 : List Ty := [Ty.cons Ty.str YA5, Ty.int .i64]
def kds31 : List RK := []
def oks31 : List AT := owns sig31
def P31 (x0 : ByteArray) : Prop := (if (decide ((↑(ByteArray.size x0) : Int) < 6)) = true then True else ((5 < (↑(ByteArray.size x0) : Int)) ∧ (if ((↑(UInt8.toNat (List.getD (Array.toList (ByteArray.data x0)) 5 0)) : Int) != 32) = true then True else ((6 ≤ (↑(ByteArray.size x0) : Int)) ∧ ((P58 (ByteArray.extract x0 6 (Int.toNat (↑(ByteArray.size x0) : Int))) (ByteArray.mk #[32])) ∧ ((P58 (g58_1 (ByteArray.extract x0 6 (Int.toNat (↑(ByteArray.size x0) : Int))) (ByteArray.mk #[32])) (ByteArray.mk #[32])) ∧ ((6 ≤ (↑(ByteArray.size x0) : Int)) ∧ ((P22 (g51_0 (ByteArray.extract x0 6 (Int.toNat (↑(ByteArray.size x0) : Int))) 65535)) ∧ ((5 ≤ (↑(ByteArray.size x0) : Int)) ∧ ((InR .i64 (5 - (↑(ByteArray.size (g22_0 (g51_0 (ByteArray.extract x0 6 (Int.toNat (↑(ByteArray.size x0) : Int))) 65535))) : Int))) ∧ ((P52 (ByteArray.mk #[48]) (5 - (↑(ByteArray.size (g22_0 (g51_0 (ByteArray.extract x0 6 (Int.toNat (↑(ByteArray.size x0) : Int))) 65535))) : Int))) ∧ ((ByteArray.size (g52_0 (ByteArray.mk #[48]) (5 - (↑(ByteArray.size (g22_0 (g51_0 (ByteArray.extract x0 6 (Int.toNat (↑(ByteArray.size x0) : Int))) 65535))) : Int))) + ByteArray.size (g22_0 (g51_0 (ByteArray.extract x0 6 (Int.toNat (↑(ByteArray.size x0) : Int))) 65535)) ≤ 9223372036854775807) ∧ (if (!ByteArray.toList (ByteArray.extract x0 0 5) == ByteArray.toList (g52_0 (ByteArray.mk #[48]) (5 - (↑(ByteArray.size (g22_0 (g51_0 (ByteArray.extract x0 6 (Int.toNat (↑(ByteArray.size x0) : Int))) 65535))) : Int)) ++ g22_0 (g51_0 (ByteArray.extract x0 6 (Int.toNat (↑(ByteArray.size x0) : Int))) 65535))) = true then True else ((P48 (g58_0 (ByteArray.extract x0 6 (Int.toNat (↑(ByteArray.size x0) : Int))) (ByteArray.mk #[32]), g58_0 (g58_1 (ByteArray.extract x0 6 (Int.toNat (↑(ByteArray.size x0) : Int))) (ByteArray.mk #[32])) (ByteArray.mk #[32]), g58_1 (g58_1 (ByteArray.extract x0 6 (Int.toNat (↑(ByteArray.size x0) : Int))) (ByteArray.mk #[32])) (ByteArray.mk #[32]), ())) ∧ (if (!g48_0 (g58_0 (ByteArray.extract x0 6 (Int.toNat (↑(ByteArray.size x0) : Int))) (ByteArray.mk #[32]), g58_0 (g58_1 (ByteArray.extract x0 6 (Int.toNat (↑(ByteArray.size x0) : Int))) (ByteArray.mk #[32])) (ByteArray.mk #[32]), g58_1 (g58_1 (ByteArray.extract x0 6 (Int.toNat (↑(ByteArray.size x0) : Int))) (ByteArray.mk #[32])) (ByteArray.mk #[32]), ())) = true then True else ((P24 (g58_0 (ByteArray.extract x0 6 (Int.toNat (↑(ByteArray.size x0) : Int))) (ByteArray.mk #[32]), g58_0 (g58_1 (ByteArray.extract x0 6 (Int.toNat (↑(ByteArray.size x0) : Int))) (ByteArray.mk #[32])) (ByteArray.mk #[32]), g58_1 (g58_1 (ByteArray.extract x0 6 (Int.toNat (↑(ByteArray.size x0) : Int))) (ByteArray.mk #[32])) (ByteArray.mk #[32]), ())) ∧ True))))))))))))))))
def g31_0 (x0 : ByteArray) : ByteArray × ByteArray × ByteArray × Unit := (if (decide ((↑(ByteArray.size x0) : Int) < 6)) = true then (ByteArray.empty, ByteArray.empty, ByteArray.empty, ()) else (if ((↑(UInt8.toNat (List.getD (Array.toList (ByteArray.data x0)) 5 0)) : Int) != 32) = true then (ByteArray.empty, ByteArray.empty, ByteArray.empty, ()) else (if (!ByteArray.toList (ByteArray.extract x0 0 5) == ByteArray.toList (g52_0 (ByteArray.mk #[48]) (5 - (↑(ByteArray.size (g22_0 (g51_0 (ByteArray.extract x0 6 (Int.toNat (↑(ByteArray.size x0) : Int))) 65535))) : Int)) ++ g22_0 (g51_0 (ByteArray.extract x0 6 (Int.toNat (↑(ByteArray.size x0) : Int))) 65535))) = true then (ByteArray.empty, ByteArray.empty, ByteArray.empty, ()) else (if (!g48_0 (g58_0 (ByteArray.extract x0 6 (Int.toNat (↑(ByteArray.size x0) : Int))) (ByteArray.mk #[32]), g58_0 (g58_1 (ByteArray.extract x0 6 (Int.toNat (↑(ByteArray.size x0) : Int))) (ByteArray.mk #[32])) (ByteArray.mk #[32]), g58_1 (g58_1 (ByteArray.extract x0 6 (Int.toNat (↑(ByteArray.size x0) : Int))) (ByteArray.mk #[32])) (ByteArray.mk #[32]), ())) = true then (ByteArray.empty, ByteArray.empty, ByteArray.empty, ()) else (if (!ByteArray.toList (g24_0 (g58_0 (ByteArray.extract x0 6 (Int.toNat (↑(ByteArray.size x0) : Int))) (ByteArray.mk #[32]), g58_0 (g58_1 (ByteArray.extract x0 6 (Int.toNat (↑(ByteArray.size x0) : Int))) (ByteArray.mk #[32])) (ByteArray.mk #[32]), g58_1 (g58_1 (ByteArray.extract x0 6 (Int.toNat (↑(ByteArray.size x0) : Int))) (ByteArray.mk #[32])) (ByteArray.mk #[32]), ())) == ByteArray.toList x0) = true then (ByteArray.empty, ByteArray.empty, ByteArray.empty, ()) else (g58_0 (ByteArray.extract x0 6 (Int.toNat (↑(ByteArray.size x0) : Int))) (ByteArray.mk #[32]), g58_0 (g58_1 (ByteArray.extract x0 6 (Int.toNat (↑(ByteArray.size x0) : Int))) (ByteArray.mk #[32])) (ByteArray.mk #[32]), g58_1 (g58_1 (ByteArray.extract x0 6 (Int.toNat (↑(ByteArray.size x0) : Int))) (ByteArray.mk #[32])) (ByteArray.mk #[32]), ()))))))
def g31_1 (x0 : ByteArray) : Int := (if (decide ((↑(ByteArray.size x0) : Int) < 6)) = true then 9 else (if ((↑(UInt8.toNat (List.getD (Array.toList (ByteArray.data x0)) 5 0)) : Int) != 32) = true then 9 else (if (!ByteArray.toList (ByteArray.extract x0 0 5) == ByteArray.toList (g52_0 (ByteArray.mk #[48]) (5 - (↑(ByteArray.size (g22_0 (g51_0 (ByteArray.extract x0 6 (Int.toNat (↑(ByteArray.size x0) : Int))) 65535))) : Int)) ++ g22_0 (g51_0 (ByteArray.extract x0 6 (Int.toNat (↑(ByteArray.size x0) : Int))) 65535))) = true then 10 else (if (!g48_0 (g58_0 (ByteArray.extract x0 6 (Int.toNat (↑(ByteArray.size x0) : Int))) (ByteArray.mk #[32]), g58_0 (g58_1 (ByteArray.extract x0 6 (Int.toNat (↑(ByteArray.size x0) : Int))) (ByteArray.mk #[32])) (ByteArray.mk #[32]), g58_1 (g58_1 (ByteArray.extract x0 6 (Int.toNat (↑(ByteArray.size x0) : Int))) (ByteArray.mk #[32])) (ByteArray.mk #[32]), ())) = true then 9 else (if (!ByteArray.toList (g24_0 (g58_0 (ByteArray.extract x0 6 (Int.toNat (↑(ByteArray.size x0) : Int))) (ByteArray.mk #[32]), g58_0 (g58_1 (ByteArray.extract x0 6 (Int.toNat (↑(ByteArray.size x0) : Int))) (ByteArray.mk #[32])) (ByteArray.mk #[32]), g58_1 (g58_1 (ByteArray.extract x0 6 (Int.toNat (↑(ByteArray.size x0) : Int))) (ByteArray.mk #[32])) (ByteArray.mk #[32]), ())) == ByteArray.toList x0) = true then 9 else 0)))))
theorem at31 (x0 : ByteArray) (h : P31 x0) (K : Ctx) (q : Nat → Value) : AtV Tryz.prog 31 (PostR kds31 oks31 [⟨Ty.cons Ty.str YA5, g31_0 x0⟩, ⟨Ty.int .i64, g31_1 x0⟩] [] [] q K) 63 K q [] [.code b31] (entE 0 0 sig31 (x0, ())) (entL sig31 (x0, ())) := by
  unfold P31 at h
  unfold g31_0 g31_1
  by_cases b0 : (decide ((↑(ByteArray.size x0) : Int) < 6)) = true
  · try simp only [if_pos b0] at h ⊢
    exact AtV.ret Tryz.func31 tabOk ext31Ok mixed false [] tys31 [true, true] (a1 b0 (a1 (rfl : true = true) trivial)) (by kernel_rfl)
  · try simp only [if_neg b0] at h ⊢
    replace b0 := Bool.eq_false_iff.2 b0
    obtain ⟨s0, h⟩ := h
    by_cases b1 : ((↑(UInt8.toNat (List.getD (Array.toList (ByteArray.data x0)) 5 0)) : Int) != 32) = true
    · try simp only [if_pos b1] at h ⊢
      exact AtV.ret Tryz.func31 tabOk ext31Ok mixed false [] tys31 [false, true] (a1 b0 (a1 ((by decide) : (0 : Int) ≤ (5 : Int)) (a1 s0 (a1 b1 trivial)))) (by kernel_rfl)
    · try simp only [if_neg b1] at h ⊢
      replace b1 := Bool.eq_false_iff.2 b1
      obtain ⟨s1, h⟩ := h
      obtain ⟨s2, h⟩ := h
      obtain ⟨s3, h⟩ := h
      obtain ⟨s4, h⟩ := h
      obtain ⟨s5, h⟩ := h
      obtain ⟨s6, h⟩ := h
      obtain ⟨s7, h⟩ := h
      obtain ⟨s8, h⟩ := h
      obtain ⟨s9, h⟩ := h
      by_cases b2 : (!ByteArray.toList (ByteArray.extract x0 0 5) == ByteArray.toList (g52_0 (ByteArray.mk #[48]) (5 - (↑(ByteArray.size (g22_0 (g51_0 (ByteArray.extract x0 6 (Int.toNat (↑(ByteArray.size x0) : Int))) 65535))) : Int)) ++ g22_0 (g51_0 (ByteArray.extract x0 6 (Int.toNat (↑(ByteArray.size x0) : Int))) 65535))) = true
      · try simp only [if_pos b2] at h ⊢
        exact AtV.ret Tryz.func31 tabOk ext31Ok mixed false [] tys31 [false, false, true] (a1 b0 (a1 ((by decide) : (0 : Int) ≤ (5 : Int)) (a1 s0 (a1 b1 (a1 ((by decide) : (0 : Int) ≤ (6 : Int)) (a1 s1 (a1 s2 (a1 s3 (a1 ((by decide) : (0 : Int) ≤ (6 : Int)) (a1 s4 (a1 trivial (a1 s5 (a1 ((by decide) : (0 : Int) ≤ (5 : Int)) (a1 s6 (a1 s7 (a1 s8 (a1 s9 (a1 b2 trivial)))))))))))))))))) (by kernel_rfl)
      · try simp only [if_neg b2] at h ⊢
        replace b2 := Bool.eq_false_iff.2 b2
        obtain ⟨s10, h⟩ := h
        by_cases b3 : (!g48_0 (g58_0 (ByteArray.extract x0 6 (Int.toNat (↑(ByteArray.size x0) : Int))) (ByteArray.mk #[32]), g58_0 (g58_1 (ByteArray.extract x0 6 (Int.toNat (↑(ByteArray.size x0) : Int))) (ByteArray.mk #[32])) (ByteArray.mk #[32]), g58_1 (g58_1 (ByteArray.extract x0 6 (Int.toNat (↑(ByteArray.size x0) : Int))) (ByteArray.mk #[32])) (ByteArray.mk #[32]), ())) = true
        · try simp only [if_pos b3] at h ⊢
          exact AtV.ret Tryz.func31 tabOk ext31Ok mixed false [] tys31 [false, false, false, true, true] (a1 b0 (a1 ((by decide) : (0 : Int) ≤ (5 : Int)) (a1 s0 (a1 b1 (a1 ((by decide) : (0 : Int) ≤ (6 : Int)) (a1 s1 (a1 s2 (a1 s3 (a1 ((by decide) : (0 : Int) ≤ (6 : Int)) (a1 s4 (a1 trivial (a1 s5 (a1 ((by decide) : (0 : Int) ≤ (5 : Int)) (a1 s6 (a1 s7 (a1 s8 (a1 s9 (a1 b2 (a1 s10 (a1 b3 (a1 (rfl : true = true) trivial))))))))))))))))))))) (by kernel_rfl)
        · try simp only [if_neg b3] at h ⊢
          replace b3 := Bool.eq_false_iff.2 b3
          obtain ⟨s11, h⟩ := h
          by_cases b4 : (!ByteArray.toList (g24_0 (g58_0 (ByteArray.extract x0 6 (Int.toNat (↑(ByteArray.size x0) : Int))) (ByteArray.mk #[32]), g58_0 (g58_1 (ByteArray.extract x0 6 (Int.toNat (↑(ByteArray.size x0) : Int))) (ByteArray.mk #[32])) (ByteArray.mk #[32]), g58_1 (g58_1 (ByteArray.extract x0 6 (Int.toNat (↑(ByteArray.size x0) : Int))) (ByteArray.mk #[32])) (ByteArray.mk #[32]), ())) == ByteArray.toList x0) = true
          · try simp only [if_pos b4] at h ⊢
            exact AtV.ret Tryz.func31 tabOk ext31Ok mixed false [] tys31 [false, false, false, false, true] (a1 b0 (a1 ((by decide) : (0 : Int) ≤ (5 : Int)) (a1 s0 (a1 b1 (a1 ((by decide) : (0 : Int) ≤ (6 : Int)) (a1 s1 (a1 s2 (a1 s3 (a1 ((by decide) : (0 : Int) ≤ (6 : Int)) (a1 s4 (a1 trivial (a1 s5 (a1 ((by decide) : (0 : Int) ≤ (5 : Int)) (a1 s6 (a1 s7 (a1 s8 (a1 s9 (a1 b2 (a1 s10 (a1 b3 (a1 s11 (a1 b4 trivial)))))))))))))))))))))) (by kernel_rfl)
          · try simp only [if_neg b4] at h ⊢
            replace b4 := Bool.eq_false_iff.2 b4
            exact AtV.ret Tryz.func31 tabOk ext31Ok mixed false [] tys31 [false, false, false, false, false] (a1 b0 (a1 ((by decide) : (0 : Int) ≤ (5 : Int)) (a1 s0 (a1 b1 (a1 ((by decide) : (0 : Int) ≤ (6 : Int)) (a1 s1 (a1 s2 (a1 s3 (a1 ((by decide) : (0 : Int) ≤ (6 : Int)) (a1 s4 (a1 trivial (a1 s5 (a1 ((by decide) : (0 : Int) ≤ (5 : Int)) (a1 s6 (a1 s7 (a1 s8 (a1 s9 (a1 b2 (a1 s10 (a1 b3 (a1 s11 (a1 b4 trivial)))))))))))))))))))))) (by kernel_rfl)
def S31 : Am.Spec := { sig := sig31, pre := fun ⟨x0, _⟩ => P31 x0, res := fun ⟨x0, _⟩ => [⟨Ty.cons Ty.str YA5, g31_0 x0⟩, ⟨Ty.int .i64, g31_1 x0⟩], kds := kds31 }
theorem con31 : Contract Tryz.prog 31 S31 := contract_of Tryz.func31 hb31 (Nat.le_of_ble_eq_true (by kernel_rfl)) (fun ⟨x0, _⟩ h _ K q => at31 x0 h K q)
end
noncomputable section
def ext7 : Ext := [(26, S26), (27, S27), (29, S29), (28, S28), (30, S30), (22, S22), (31, S31), (32, S32), (23, S23)]
theorem ext7Ok : ExtOk Tryz.prog ext7 := ⟨⟨ca26, con26⟩, ⟨ca27, con27⟩, ⟨ca29, con29⟩, ⟨ca28, con28⟩, ⟨ca30, con30⟩, ⟨ca22, con22⟩, ⟨ca31, con31⟩, ⟨ca32, con32⟩, ⟨ca23, con23⟩, trivial⟩
noncomputable def b7 : Code := bodyOf Tryz.f7
theorem hb7 : Tryz.f7.body = some b7 := by kernel_rfl
def sig7 : List AT := [AT.v (Ty.str)]
def tys7 : List Ty := [Ty.sl YA3, Ty.int .i64, Ty.int .i64]
def kds7 : List RK := []
def oks7 : List AT := owns sig7
def E7_9 (v45 : Int) (h0 : List TyB1) (x0 : ByteArray) : Env := [(6, PV.a (Atom.val (Value.int .i64 (g28_0 (g29_0 (List.getD (g27_0 x0) 0 ByteArray.empty) (ByteArray.mk #[97, 114, 99, 104, 105, 118, 101, 32])))))), (8, PV.a (Atom.osl 0 Option.none)), (43, PV.a (Atom.osl 1 (Option.some (1, 0 + Int.toNat (↑(List.length (g27_0 x0) - 0) : Int))))), (44, PV.a (Atom.val (Value.int .i64 (↑(0 + Int.toNat (↑(List.length (g27_0 x0) - 0) : Int) - 1) : Int)))), (45, PV.a (Atom.val (Value.int .i64 v45)))]
def L7_9 (v45 : Int) (h0 : List TyB1) (x0 : ByteArray) : Heap := [Option.some (Arr.mk YA3 h0 false Option.none Option.none), Option.some (Arr.mk Ty.str (g27_0 x0) false Option.none Option.none)]
mutual
def R7 : Nat → ByteArray → List Dyn → Prop
  | 0, _, _ => False
  | n + 1, x0, ds => ((P26 x0 (ByteArray.mk #[10])) ∧ (if (!g26_0 x0 (ByteArray.mk #[10])) = true then (ds = [Dyn.mk (Ty.sl YA3) [], Dyn.mk (Ty.int .i64) 0, Dyn.mk (Ty.int .i64) 11]) else ((P27 x0) ∧ ((0 < (↑(List.length (g27_0 x0)) : Int)) ∧ ((P28 (g29_0 (List.getD (g27_0 x0) 0 ByteArray.empty) (ByteArray.mk #[97, 114, 99, 104, 105, 118, 101, 32]))) ∧ (if (!g28_1 (g29_0 (List.getD (g27_0 x0) 0 ByteArray.empty) (ByteArray.mk #[97, 114, 99, 104, 105, 118, 101, 32]))) = true then (ds = [Dyn.mk (Ty.sl YA3) [], Dyn.mk (Ty.int .i64) 1, Dyn.mk (Ty.int .i64) 9]) else (if (!g30_0 (g28_0 (g29_0 (List.getD (g27_0 x0) 0 ByteArray.empty) (ByteArray.mk #[97, 114, 99, 104, 105, 118, 101, 32]))) 0 32) = true then (ds = [Dyn.mk (Ty.sl YA3) [], Dyn.mk (Ty.int .i64) 1, Dyn.mk (Ty.int .i64) 9]) else ((0 < (↑(List.length (g27_0 x0)) : Int)) ∧ ((P22 (g28_0 (g29_0 (List.getD (g27_0 x0) 0 ByteArray.empty) (ByteArray.mk #[97, 114, 99, 104, 105, 118, 101, 32])))) ∧ ((8 + ByteArray.size (g22_0 (g28_0 (g29_0 (List.getD (g27_0 x0) 0 ByteArray.empty) (ByteArray.mk #[97, 114, 99, 104, 105, 118, 101, 32])))) ≤ 9223372036854775807) ∧ (if (!ByteArray.toList (List.getD (g27_0 x0) 0 ByteArray.empty) == ByteArray.toList (ByteArray.mk #[97, 114, 99, 104, 105, 118, 101, 32] ++ g22_0 (g28_0 (g29_0 (List.getD (g27_0 x0) 0 ByteArray.empty) (ByteArray.mk #[97, 114, 99, 104, 105, 118, 101, 32]))))) = true then (ds = [Dyn.mk (Ty.sl YA3) [], Dyn.mk (Ty.int .i64) 1, Dyn.mk (Ty.int .i64) 9]) else ((1 ≤ (↑(List.length (g27_0 x0) - 0) : Int)) ∧ (R7_9 n (0) ([]) (x0) ds)))))))))))))
def R7_9 : Nat → Int → List TyB1 → ByteArray → List Dyn → Prop
  | 0, _, _, _, _ => False
  | n + 1, v45, h0, x0, ds => (if (decide (v45 < (↑(0 + Int.toNat (↑(List.length (g27_0 x0) - 0) : Int) - 1) : Int))) = true then ((0 ≤ v45) ∧ (v45 < (↑(0 + Int.toNat (↑(List.length (g27_0 x0) - 0) : Int) - 1) : Int)) ∧ ((P31 (List.getD (g27_0 x0) (1 + Int.toNat v45) ByteArray.empty)) ∧ (if (g31_1 (List.getD (g27_0 x0) (1 + Int.toNat v45) ByteArray.empty) == 0) = true then (if (decide (v45 > 0)) = true then ((InR .i64 (v45 - 1)) ∧ ((0 ≤ v45 - 1) ∧ (v45 - 1 < (↑(List.length h0) : Int)) ∧ (if (decide (g32_0 (List.getD h0 (Int.toNat (v45 - 1)) (ByteArray.empty, ByteArray.empty, ByteArray.empty, ())) (g31_0 (List.getD (g27_0 x0) (1 + Int.toNat v45) ByteArray.empty)) ≥ 0)) = true then ((InR .i64 (v45 + 2)) ∧ (ds = [Dyn.mk (Ty.sl YA3) [], Dyn.mk (Ty.int .i64) (v45 + 2), Dyn.mk (Ty.int .i64) 7])) else (if (g31_1 (List.getD (g27_0 x0) (1 + Int.toNat v45) ByteArray.empty) != 0) = true then ((InR .i64 (v45 + 2)) ∧ (ds = [Dyn.mk (Ty.sl YA3) [], Dyn.mk (Ty.int .i64) (v45 + 2), Dyn.mk (Ty.int .i64) (g31_1 (List.getD (g27_0 x0) (1 + Int.toNat v45) ByteArray.empty))])) else (((List.length h0 + 1) * 48 ≤ 140737488355328) ∧ ((InR .i64 (v45 + 1)) ∧ (R7_9 n (v45 + 1) (h0 ++ [g31_0 (List.getD (g27_0 x0) (1 + Int.toNat v45) ByteArray.empty)]) (x0) ds))))))) else (if (g31_1 (List.getD (g27_0 x0) (1 + Int.toNat v45) ByteArray.empty) != 0) = true then ((InR .i64 (v45 + 2)) ∧ (ds = [Dyn.mk (Ty.sl YA3) [], Dyn.mk (Ty.int .i64) (v45 + 2), Dyn.mk (Ty.int .i64) (g31_1 (List.getD (g27_0 x0) (1 + Int.toNat v45) ByteArray.empty))])) else (((List.length h0 + 1) * 48 ≤ 140737488355328) ∧ ((InR .i64 (v45 + 1)) ∧ (R7_9 n (v45 + 1) (h0 ++ [g31_0 (List.getD (g27_0 x0) (1 + Int.toNat v45) ByteArray.empty)]) (x0) ds))))) else (if (g31_1 (List.getD (g27_0 x0) (1 + Int.toNat v45) ByteArray.empty) != 0) = true then ((InR .i64 (v45 + 2)) ∧ (ds = [Dyn.mk (Ty.sl YA3) [], Dyn.mk (Ty.int .i64) (v45 + 2), Dyn.mk (Ty.int .i64) (g31_1 (List.getD (g27_0 x0) (1 + Int.toNat v45) ByteArray.empty))])) else (((List.length h0 + 1) * 48 ≤ 140737488355328) ∧ ((InR .i64 (v45 + 1)) ∧ (R7_9 n (v45 + 1) (h0 ++ [g31_0 (List.getD (g27_0 x0) (1 + Int.toNat v45) ByteArray.empty)]) (x0) ds))))))) else (if (g23_0 h0 != g28_0 (g29_0 (List.getD (g27_0 x0) 0 ByteArray.empty) (ByteArray.mk #[97, 114, 99, 104, 105, 118, 101, 32]))) = true then (ds = [Dyn.mk (Ty.sl YA3) [], Dyn.mk (Ty.int .i64) 0, Dyn.mk (Ty.int .i64) 11]) else (ds = [Dyn.mk (Ty.sl YA3) h0, Dyn.mk (Ty.int .i64) 0, Dyn.mk (Ty.int .i64) 0])))
end
theorem snd7 : ∀ n, (∀ (x0 : ByteArray) ds, R7 n x0 ds → ∀ K q, AtV Tryz.prog 7 (PostR kds7 oks7 ds [] [] q K) 86 K q [] [.code b7] (entE 0 0 sig7 (x0, ())) (entL sig7 (x0, ()))) ∧ (∀ (v45 : Int) (h0 : List TyB1) (x0 : ByteArray) ds, R7_9 n v45 h0 x0 ds → ∀ K q, AtV Tryz.prog 7 (PostR kds7 oks7 ds [] [] q K) 86 K q [] (cutAt b7 9) (E7_9 v45 h0 x0) (L7_9 v45 h0 x0)) := by
  intro n
  induction n with
  | zero => exact ⟨fun _ _ h => by simp only [R7] at h, fun _ _ _ _ h => by simp only [R7_9] at h⟩
  | succ n ih =>
  obtain ⟨ih, ih9⟩ := ih
  refine ⟨?_, ?_⟩
  · intro x0 ds h K q
    rw [R7] at h
    obtain ⟨s0, h⟩ := h
    by_cases b0 : (!g26_0 x0 (ByteArray.mk #[10])) = true
    · rw [if_pos b0] at h
      subst h
      exact AtV.ret Tryz.func7 tabOk ext7Ok mixed false [] tys7 [true] (a1 s0 (a1 b0 trivial)) (by kernel_rfl)
    · rw [if_neg b0] at h
      replace b0 := Bool.eq_false_iff.2 b0
      obtain ⟨s1, h⟩ := h
      obtain ⟨s2, h⟩ := h
      obtain ⟨s3, h⟩ := h
      by_cases b1 : (!g28_1 (g29_0 (List.getD (g27_0 x0) 0 ByteArray.empty) (ByteArray.mk #[97, 114, 99, 104, 105, 118, 101, 32]))) = true
      · rw [if_pos b1] at h
        subst h
        exact AtV.ret Tryz.func7 tabOk ext7Ok mixed false [] tys7 [false, true, true, true] (a1 s0 (a1 b0 (a1 s1 (a1 ((by decide) : (0 : Int) ≤ (0 : Int)) (a1 s2 (a1 trivial (a1 s3 (a1 b1 (a1 (rfl : true = true) (a1 (rfl : true = true) trivial)))))))))) (by kernel_rfl)
      · rw [if_neg b1] at h
        replace b1 := Bool.eq_false_iff.2 b1
        by_cases b2 : (!g30_0 (g28_0 (g29_0 (List.getD (g27_0 x0) 0 ByteArray.empty) (ByteArray.mk #[97, 114, 99, 104, 105, 118, 101, 32]))) 0 32) = true
        · rw [if_pos b2] at h
          subst h
          exact AtV.ret Tryz.func7 tabOk ext7Ok mixed false [] tys7 [false, false, true, true] (a1 s0 (a1 b0 (a1 s1 (a1 ((by decide) : (0 : Int) ≤ (0 : Int)) (a1 s2 (a1 trivial (a1 s3 (a1 b1 (a1 trivial (a1 b2 (a1 (rfl : true = true) trivial))))))))))) (by kernel_rfl)
        · rw [if_neg b2] at h
          replace b2 := Bool.eq_false_iff.2 b2
          obtain ⟨s4, h⟩ := h
          obtain ⟨s5, h⟩ := h
          obtain ⟨s6, h⟩ := h
          by_cases b3 : (!ByteArray.toList (List.getD (g27_0 x0) 0 ByteArray.empty) == ByteArray.toList (ByteArray.mk #[97, 114, 99, 104, 105, 118, 101, 32] ++ g22_0 (g28_0 (g29_0 (List.getD (g27_0 x0) 0 ByteArray.empty) (ByteArray.mk #[97, 114, 99, 104, 105, 118, 101, 32]))))) = true
          · rw [if_pos b3] at h
            subst h
            exact AtV.ret Tryz.func7 tabOk ext7Ok mixed false [] tys7 [false, false, false, true] (a1 s0 (a1 b0 (a1 s1 (a1 ((by decide) : (0 : Int) ≤ (0 : Int)) (a1 s2 (a1 trivial (a1 s3 (a1 b1 (a1 trivial (a1 b2 (a1 ((by decide) : (0 : Int) ≤ (0 : Int)) (a1 s4 (a1 s5 (a1 s6 (a1 b3 trivial))))))))))))))) (by kernel_rfl)
          · rw [if_neg b3] at h
            replace b3 := Bool.eq_false_iff.2 b3
            obtain ⟨s7, h⟩ := h
            exact AtV.go tabOk ext7Ok mixed false [] [(8, Ty.cons Ty.str YA5)] [6, 8, 43, 44, 45] [1, 0] [false, false, false, false] (a1 s0 (a1 b0 (a1 s1 (a1 ((by decide) : (0 : Int) ≤ (0 : Int)) (a1 s2 (a1 trivial (a1 s3 (a1 b1 (a1 trivial (a1 b2 (a1 ((by decide) : (0 : Int) ≤ (0 : Int)) (a1 s4 (a1 s5 (a1 s6 (a1 b3 (a1 ((by decide) : (0 : Int) ≤ (1 : Int)) (a1 s7 trivial))))))))))))))))) (ih9 _ _ _ _ h K q) (by kernel_rfl)
  · intro v45 h0 x0 ds h K q
    rw [R7_9] at h
    by_cases b0 : (decide (v45 < (↑(0 + Int.toNat (↑(List.length (g27_0 x0) - 0) : Int) - 1) : Int))) = true
    · rw [if_pos b0] at h
      obtain ⟨s0, s1, h⟩ := h
      obtain ⟨s2, h⟩ := h
      by_cases b1 : (g31_1 (List.getD (g27_0 x0) (1 + Int.toNat v45) ByteArray.empty) == 0) = true
      · rw [if_pos b1] at h
        by_cases b2 : (decide (v45 > 0)) = true
        · rw [if_pos b2] at h
          obtain ⟨s3, h⟩ := h
          obtain ⟨s4, s5, h⟩ := h
          by_cases b3 : (decide (g32_0 (List.getD h0 (Int.toNat (v45 - 1)) (ByteArray.empty, ByteArray.empty, ByteArray.empty, ())) (g31_0 (List.getD (g27_0 x0) (1 + Int.toNat v45) ByteArray.empty)) ≥ 0)) = true
          · rw [if_pos b3] at h
            obtain ⟨s6, h⟩ := h
            subst h
            exact AtV.ret Tryz.func7 tabOk ext7Ok mixed false [] tys7 [true, true, true, true, true] (a1 b0 (a1 s0 (a1 s1 (a1 s2 (a1 b1 (a1 b2 (a1 s3 (a1 s4 (a1 s5 (a1 trivial (a1 b3 (a1 (rfl : true = true) (a1 s6 trivial))))))))))))) (by kernel_rfl)
          · rw [if_neg b3] at h
            replace b3 := Bool.eq_false_iff.2 b3
            by_cases b4 : (g31_1 (List.getD (g27_0 x0) (1 + Int.toNat v45) ByteArray.empty) != 0) = true
            · rw [if_pos b4] at h
              obtain ⟨s6, h⟩ := h
              subst h
              exact AtV.ret Tryz.func7 tabOk ext7Ok mixed false [] tys7 [true, true, true, false, true] (a1 b0 (a1 s0 (a1 s1 (a1 s2 (a1 b1 (a1 b2 (a1 s3 (a1 s4 (a1 s5 (a1 trivial (a1 b3 (a1 b4 (a1 s6 trivial))))))))))))) (by kernel_rfl)
            · rw [if_neg b4] at h
              replace b4 := Bool.eq_false_iff.2 b4
              obtain ⟨s6, h⟩ := h
              obtain ⟨s7, h⟩ := h
              exact AtV.go tabOk ext7Ok mixed false [] [(8, Ty.cons Ty.str YA5)] [6, 8, 43, 44, 45] [0, 1] [true, true, true, false, false] (a1 b0 (a1 s0 (a1 s1 (a1 s2 (a1 b1 (a1 b2 (a1 s3 (a1 s4 (a1 s5 (a1 trivial (a1 b3 (a1 b4 (a1 s6 (a1 s7 trivial)))))))))))))) (ih9 _ _ _ _ h K q) (by kernel_rfl)
        · rw [if_neg b2] at h
          replace b2 := Bool.eq_false_iff.2 b2
          by_cases b3 : (g31_1 (List.getD (g27_0 x0) (1 + Int.toNat v45) ByteArray.empty) != 0) = true
          · rw [if_pos b3] at h
            obtain ⟨s3, h⟩ := h
            subst h
            exact AtV.ret Tryz.func7 tabOk ext7Ok mixed false [] tys7 [true, true, false, false, true] (a1 b0 (a1 s0 (a1 s1 (a1 s2 (a1 b1 (a1 b2 (a1 (rfl : false = false) (a1 b3 (a1 s3 trivial))))))))) (by kernel_rfl)
          · rw [if_neg b3] at h
            replace b3 := Bool.eq_false_iff.2 b3
            obtain ⟨s3, h⟩ := h
            obtain ⟨s4, h⟩ := h
            exact AtV.go tabOk ext7Ok mixed false [] [(8, Ty.cons Ty.str YA5)] [6, 8, 43, 44, 45] [0, 1] [true, true, false, false, false] (a1 b0 (a1 s0 (a1 s1 (a1 s2 (a1 b1 (a1 b2 (a1 (rfl : false = false) (a1 b3 (a1 s3 (a1 s4 trivial)))))))))) (ih9 _ _ _ _ h K q) (by kernel_rfl)
      · rw [if_neg b1] at h
        replace b1 := Bool.eq_false_iff.2 b1
        by_cases b2 : (g31_1 (List.getD (g27_0 x0) (1 + Int.toNat v45) ByteArray.empty) != 0) = true
        · rw [if_pos b2] at h
          obtain ⟨s3, h⟩ := h
          subst h
          exact AtV.ret Tryz.func7 tabOk ext7Ok mixed false [] tys7 [true, false, false, false, true] (a1 b0 (a1 s0 (a1 s1 (a1 s2 (a1 b1 (a1 (rfl : false = false) (a1 (rfl : false = false) (a1 b2 (a1 s3 trivial))))))))) (by kernel_rfl)
        · rw [if_neg b2] at h
          replace b2 := Bool.eq_false_iff.2 b2
          obtain ⟨s3, h⟩ := h
          obtain ⟨s4, h⟩ := h
          exact AtV.go tabOk ext7Ok mixed false [] [(8, Ty.cons Ty.str YA5)] [6, 8, 43, 44, 45] [0, 1] [true, false, false, false, false] (a1 b0 (a1 s0 (a1 s1 (a1 s2 (a1 b1 (a1 (rfl : false = false) (a1 (rfl : false = false) (a1 b2 (a1 s3 (a1 s4 trivial)))))))))) (ih9 _ _ _ _ h K q) (by kernel_rfl)
    · rw [if_neg b0] at h
      replace b0 := Bool.eq_false_iff.2 b0
      by_cases b1 : (g23_0 h0 != g28_0 (g29_0 (List.getD (g27_0 x0) 0 ByteArray.empty) (ByteArray.mk #[97, 114, 99, 104, 105, 118, 101, 32]))) = true
      · rw [if_pos b1] at h
        subst h
        exact AtV.ret Tryz.func7 tabOk ext7Ok mixed false [] tys7 [false, true] (a1 b0 (a1 trivial (a1 b1 trivial))) (by kernel_rfl)
      · rw [if_neg b1] at h
        replace b1 := Bool.eq_false_iff.2 b1
        subst h
        exact AtV.ret Tryz.func7 tabOk ext7Ok mixed false [] tys7 [false, false] (a1 b0 (a1 trivial (a1 b1 trivial))) (by kernel_rfl)
def ls7 (x0 : ByteArray) : List ByteArray := g27_0 x0
def hd7 (x0 : ByteArray) : ByteArray := (ls7 x0).getD 0 ByteArray.empty
def tp7 (x0 : ByteArray) : ByteArray := g29_0 (hd7 x0) (ByteArray.mk #[97, 114, 99, 104, 105, 118, 101, 32])
def num7 (x0 : ByteArray) : Int := g28_0 (tp7 x0)
def ok7 (x0 : ByteArray) : Bool := g28_1 (tp7 x0) && g30_0 (num7 x0) 0 32 && (ByteArray.toList (hd7 x0) == ByteArray.toList (ByteArray.mk #[97, 114, 99, 104, 105, 118, 101, 32] ++ g22_0 (num7 x0)))
def ord7 (h : List TyB1) (b : TyB1) : Bool := decide (0 < h.length) && decide (g32_0 (h.getD (h.length - 1) (ByteArray.empty, ByteArray.empty, ByteArray.empty, ())) b ≥ 0)
def ld7 : List ByteArray → Nat → List TyB1 → (Int × Int) ⊕ List TyB1
  | [], _, h => .inr h
  | l :: r, i, h => if g31_1 l ≠ 0 then .inl ((i : Int) + 2, g31_1 l) else if ord7 h (g31_0 l) = true then .inl ((i : Int) + 2, 7) else ld7 r (i + 1) (h ++ [g31_0 l])
def out7 (n : Int) : (Int × Int) ⊕ List TyB1 → List TyB1 × Int × Int
  | .inl (i, c) => ([], i, c)
  | .inr h => if (h.length : Int) = n then (h, 0, 0) else ([], 0, 11)
def all7 (x0 : ByteArray) : List TyB1 × Int × Int :=
  if g26_0 x0 (ByteArray.mk #[10]) = false then ([], 0, 11) else if ok7 x0 = false then ([], 1, 9) else out7 (num7 x0) (ld7 ((ls7 x0).drop 1) 0 [])
def g7_0 (x0 : ByteArray) : List TyB1 := (all7 x0).1
def g7_1 (x0 : ByteArray) : Int := (all7 x0).2.1
def g7_2 (x0 : ByteArray) : Int := (all7 x0).2.2
def P7 (x0 : ByteArray) : Prop := P26 x0 (ByteArray.mk #[10]) ∧ P27 x0 ∧ (g26_0 x0 (ByteArray.mk #[10]) = true → 0 < (ls7 x0).length) ∧ (ls7 x0).length ≤ 1048577 ∧ (hd7 x0).size ≤ 1048576 ∧ ∀ l ∈ ls7 x0, P31 l
def res7 (p : List TyB1 × Int × Int) : List Dyn := [⟨.sl (.cons .str (.cons .str (.cons .str .unit))), p.1⟩, ⟨.int .i64, p.2.1⟩, ⟨.int .i64, p.2.2⟩]
theorem run7 (x0 : ByteArray) (hl : (ls7 x0).length ≤ 1048577) (hb : ∀ l ∈ ls7 x0, P31 l) : ∀ (k i : Nat) (h : List TyB1), i + 1 + k = (ls7 x0).length → h.length = i →
    R7_9 (k + 1) (i : Int) h x0 (res7 (out7 (num7 x0) (ld7 ((ls7 x0).drop (i + 1)) i h))) := by
  have ew : g27_0 x0 = ls7 x0 := rfl
  have en : g28_0 (g29_0 ((ls7 x0).getD 0 ByteArray.empty) (ByteArray.mk #[97, 114, 99, 104, 105, 118, 101, 32])) = num7 x0 := rfl
  intro k
  induction k with
  | zero =>
    intro i h hi hh
    rw [R7_9, ew, en, if_neg (by simp only [decide_eq_true_eq]; omega), List.drop_of_length_le (by omega)]
    unfold ld7 out7
    have ez : g23_0 h = (h.length : Int) := rfl
    rw [ez]
    by_cases hn : (h.length : Int) = num7 x0
    · rw [if_neg (by simpa using hn)]
      simp only [if_pos hn]; rfl
    · rw [if_pos (by simpa using hn)]
      simp only [if_neg hn]; rfl
  | succ k ih =>
    intro i h hi hh
    have hlt : i + 1 < (ls7 x0).length := by omega
    have ei : 1 + i = i + 1 := by omega
    rw [R7_9, ew, if_pos (by simp only [decide_eq_true_eq]; omega)]
    simp only [Int.toNat_natCast, ei]
    rw [drop_get (ls7 x0) (i + 1) ByteArray.empty hlt]
    have hup : InR .i64 ((i : Int) + 1) := by rw [i64_iff]; omega
    have hup2 : InR .i64 ((i : Int) + 2) := by rw [i64_iff]; omega
    have e1 : (i : Int) + 1 = ((i + 1 : Nat) : Int) := by omega
    have hP := hb _ (mem_getD (ls7 x0) (i + 1) ByteArray.empty hlt)
    generalize hw : (ls7 x0).getD (i + 1) ByteArray.empty = w at *
    refine ⟨by omega, by omega, hP, ?_⟩
    unfold ld7
    have nxt : R7_9 (k + 1) ((i : Int) + 1) (h ++ [g31_0 w]) x0 (res7 (out7 (num7 x0) (ld7 ((ls7 x0).drop (i + 1 + 1)) (i + 1) (h ++ [g31_0 w])))) := by
      rw [e1]
      exact ih (i + 1) (h ++ [g31_0 w]) (by omega) (by simp; omega)
    by_cases hc : g31_1 w = 0
    · have hb0 : (g31_1 w != 0) = false := by rw [hc]; rfl
      have hb1 : (g31_1 w == 0) = true := by rw [hc]; rfl
      rw [hb0, hb1, if_pos rfl, if_neg (show ¬ (g31_1 w ≠ 0) from fun hx => hx hc)]
      by_cases h0 : 0 < i
      · rw [if_pos (by simp only [decide_eq_true_eq]; omega)]
        have e2 : Int.toNat ((i : Int) - 1) = h.length - 1 := by omega
        rw [e2]
        refine ⟨by rw [i64_iff]; omega, by omega, by omega, ?_⟩
        have eo : ord7 h (g31_0 w) = decide (g32_0 (h.getD (h.length - 1) (ByteArray.empty, ByteArray.empty, ByteArray.empty, ())) (g31_0 w) ≥ 0) := by
          unfold ord7; rw [decide_eq_true (by omega), Bool.true_and]
        rw [eo]
        cases hq : decide (g32_0 (h.getD (h.length - 1) (ByteArray.empty, ByteArray.empty, ByteArray.empty, ())) (g31_0 w) ≥ 0) with
        | true =>
          rw [if_pos rfl, if_pos rfl]
          exact ⟨hup2, rfl⟩
        | false =>
          rw [if_neg (by decide), if_neg (by decide), if_neg (by decide)]
          exact ⟨by omega, hup, nxt⟩
      · rw [if_neg (by simp only [decide_eq_true_eq]; omega)]
        have eo : ord7 h (g31_0 w) = false := by
          unfold ord7; rw [decide_eq_false (by omega), Bool.false_and]
        rw [eo, if_neg (by decide), if_neg (by decide)]
        exact ⟨by omega, hup, nxt⟩
    · have hb0 : (g31_1 w != 0) = true := by simpa using hc
      have hb1 : (g31_1 w == 0) = false := by simpa using hc
      rw [hb0, hb1, if_neg (by decide), if_pos rfl, if_pos (show g31_1 w ≠ 0 from hc)]
      exact ⟨hup2, rfl⟩
theorem top7 (x0 : ByteArray) (hp : P7 x0) : ∃ n, R7 n x0 (res7 (all7 x0)) := by
  obtain ⟨p1, p2, p3, p4, p5, p6⟩ := hp
  have ew : g27_0 x0 = ls7 x0 := rfl
  have eh : (ls7 x0).getD 0 ByteArray.empty = hd7 x0 := rfl
  have et : g29_0 (hd7 x0) (ByteArray.mk #[97, 114, 99, 104, 105, 118, 101, 32]) = tp7 x0 := rfl
  have en : g28_0 (tp7 x0) = num7 x0 := rfl
  refine ⟨((ls7 x0).length - 1 + 1) + 1, ?_⟩
  rw [R7, ew, eh, et, en]
  refine ⟨p1, ?_⟩
  cases h1 : g26_0 x0 (ByteArray.mk #[10]) with
  | false =>
    have ea : all7 x0 = ([], 0, 11) := by unfold all7; rw [h1, if_pos rfl]
    rw [if_pos (show (!false) = true from rfl), ea]; rfl
  | true =>
    have p3' := p3 h1
    have ht : (tp7 x0).size ≤ 1048576 := by
      have : (tp7 x0).size ≤ (hd7 x0).size := by
        show (List.toArray _).size ≤ _
        rw [List.size_toArray]
        have e : (hd7 x0).data.toList.length = (hd7 x0).size := rfl
        unfold Lib.trimPrefix
        split
        · rw [List.length_drop]; omega
        · omega
      omega
    have ea0 : all7 x0 = if ok7 x0 = false then ([], 1, 9) else out7 (num7 x0) (ld7 ((ls7 x0).drop 1) 0 []) := by unfold all7; rw [h1, if_neg (show ¬ true = false by decide)]
    rw [if_neg (show ¬ (!true) = true by decide), ea0]
    refine ⟨p2, by omega, (show (tp7 x0).size ≤ 281474976710656 from by omega), ?_⟩
    cases h2 : g28_1 (tp7 x0) with
    | false =>
      have eo : ok7 x0 = false := by unfold ok7; rw [h2]; rfl
      rw [if_pos (show (!false) = true from rfl), eo, if_pos rfl]; rfl
    | true =>
      rw [if_neg (show ¬ (!true) = true by decide)]
      cases h3 : g30_0 (num7 x0) 0 32 with
      | false =>
        have eo : ok7 x0 = false := by unfold ok7; rw [h2, h3]; rfl
        rw [if_pos (show (!false) = true from rfl), eo, if_pos rfl]; rfl
      | true =>
        have hn : 0 ≤ num7 x0 ∧ num7 x0 ≤ 32 := by
          unfold g30_0 at h3
          by_cases c1 : num7 x0 ≥ 0
          · by_cases c2 : num7 x0 ≤ 32
            · exact ⟨c1, c2⟩
            · simp [c1, c2] at h3
          · simp [c1] at h3
        have hz : (g22_0 (num7 x0)).size ≤ 21 := numB_size _ (by omega) (by omega)
        rw [if_neg (show ¬ (!true) = true by decide)]
        refine ⟨by omega, ⟨rfl, trivial⟩, by omega, ?_⟩
        cases h4 : (ByteArray.toList (hd7 x0) == ByteArray.toList (ByteArray.mk #[97, 114, 99, 104, 105, 118, 101, 32] ++ g22_0 (num7 x0))) with
        | false =>
          have eo : ok7 x0 = false := by unfold ok7; rw [h2, h3, h4]; rfl
          rw [if_pos (show (!false) = true from rfl), eo, if_pos rfl]; rfl
        | true =>
          have eo : ok7 x0 = true := by unfold ok7; rw [h2, h3, h4]; rfl
          rw [if_neg (show ¬ (!true) = true by decide), eo, if_neg (show ¬ true = false by decide)]
          refine ⟨by omega, ?_⟩
          exact run7 x0 p4 p6 ((ls7 x0).length - 1) 0 [] (by omega) (by simp)
def S7 : Am.Spec := { sig := sig7, pre := fun ⟨x0, _⟩ => P7 x0, res := fun ⟨x0, _⟩ => [⟨.sl (.cons .str (.cons .str (.cons .str .unit))), g7_0 x0⟩, ⟨.int .i64, g7_1 x0⟩, ⟨.int .i64, g7_2 x0⟩] }
theorem con7 : Contract Tryz.prog 7 S7 := contract_of Tryz.func7 hb7 (Nat.le_of_ble_eq_true (by kernel_rfl)) (fun ⟨x0, _⟩ h hwf K q => by
  obtain ⟨n, hn⟩ := top7 x0 h
  exact (snd7 n).1 x0 _ hn K q)
end
noncomputable section
def ext33 : Ext := [(54, S54)]
theorem ext33Ok : ExtOk Tryz.prog ext33 := ⟨⟨ca54, con54⟩, trivial⟩
noncomputable def b33 : Code := bodyOf Tryz.f33
theorem hb33 : Tryz.f33.body = some b33 := by kernel_rfl
def sig33 : List AT := [AT.v (Ty.str)]
def tys33 : List Ty := [Ty.sl Ty.str, Ty.str]
def kds33 : List RK := []
def oks33 : List AT := owns sig33
def P33 (x0 : ByteArray) : Prop := ((P54 x0 (ByteArray.mk #[10])) ∧ ((InR .i64 ((↑(List.length (g54_0 x0 (ByteArray.mk #[10]))) : Int) - 1)) ∧ ((0 ≤ (↑(List.length (g54_0 x0 (ByteArray.mk #[10]))) : Int) - 1) ∧ ((↑(List.length (g54_0 x0 (ByteArray.mk #[10]))) : Int) - 1 ≤ (↑(List.length (g54_0 x0 (ByteArray.mk #[10])) - 0) : Int)) ∧ ((0 ≤ (↑(List.length (g54_0 x0 (ByteArray.mk #[10]))) : Int) - 1) ∧ ((↑(List.length (g54_0 x0 (ByteArray.mk #[10]))) : Int) - 1 < (↑(List.length (g54_0 x0 (ByteArray.mk #[10]))) : Int)) ∧ True))))
def g33_0 (x0 : ByteArray) : List ByteArray := List.drop 0 (List.take (0 + Int.toNat ((↑(List.length (g54_0 x0 (ByteArray.mk #[10]))) : Int) - 1)) (g54_0 x0 (ByteArray.mk #[10])))
def g33_1 (x0 : ByteArray) : ByteArray := List.getD (g54_0 x0 (ByteArray.mk #[10])) (Int.toNat ((↑(List.length (g54_0 x0 (ByteArray.mk #[10]))) : Int) - 1)) ByteArray.empty
theorem at33 (x0 : ByteArray) (h : P33 x0) (K : Ctx) (q : Nat → Value) : AtV Tryz.prog 33 (PostR kds33 oks33 [⟨Ty.sl Ty.str, g33_0 x0⟩, ⟨Ty.str, g33_1 x0⟩] [] [] q K) 18 K q [] [.code b33] (entE 0 0 sig33 (x0, ())) (entL sig33 (x0, ())) := by
  unfold P33 at h
  unfold g33_0 g33_1
  obtain ⟨s0, h⟩ := h
  obtain ⟨s1, h⟩ := h
  obtain ⟨s2, s3, h⟩ := h
  obtain ⟨s4, s5, h⟩ := h
  exact AtV.ret Tryz.func33 tabOk ext33Ok mixed false [] tys33 [] (a1 s0 (a1 s1 (a1 s2 (a1 s3 (a1 s4 (a1 s5 trivial)))))) (by kernel_rfl)
def S33 : Am.Spec := { sig := sig33, pre := fun ⟨x0, _⟩ => P33 x0, res := fun ⟨x0, _⟩ => [⟨Ty.sl Ty.str, g33_0 x0⟩, ⟨Ty.str, g33_1 x0⟩], kds := kds33 }
theorem con33 : Contract Tryz.prog 33 S33 := contract_of Tryz.func33 hb33 (Nat.le_of_ble_eq_true (by kernel_rfl)) (fun ⟨x0, _⟩ h _ K q => at33 x0 h K q)
end
noncomputable section
def ext34 : Ext := []
theorem ext34Ok : ExtOk Tryz.prog ext34 := trivial
noncomputable def b34 : Code := bodyOf Tryz.f34
theorem hb34 : Tryz.f34.body = some b34 := by kernel_rfl
def sig34 : List AT := [AT.v (Ty.sl Ty.str)]
def tys34 : List Ty := [Ty.int .i64]
def kds34 : List RK := []
def oks34 : List AT := owns sig34
def P34 (x0 : List ByteArray) : Prop := True
def g34_0 (x0 : List ByteArray) : Int := (↑(List.length x0) : Int)
theorem at34 (x0 : List ByteArray) (h : P34 x0) (K : Ctx) (q : Nat → Value) : AtV Tryz.prog 34 (PostR kds34 oks34 [⟨Ty.int .i64, g34_0 x0⟩] [] [] q K) 5 K q [] [.code b34] (entE 0 0 sig34 (x0, ())) (entL sig34 (x0, ())) := by
  unfold P34 at h
  unfold g34_0
  exact AtV.ret Tryz.func34 tabOk ext34Ok mixed false [] tys34 [] trivial (by kernel_rfl)
def S34 : Am.Spec := { sig := sig34, pre := fun ⟨x0, _⟩ => P34 x0, res := fun ⟨x0, _⟩ => [⟨Ty.int .i64, g34_0 x0⟩], kds := kds34 }
theorem con34 : Contract Tryz.prog 34 S34 := contract_of Tryz.func34 hb34 (Nat.le_of_ble_eq_true (by kernel_rfl)) (fun ⟨x0, _⟩ h _ K q => at34 x0 h K q)
end
noncomputable section
def ext8 : Ext := [(33, S33), (31, S31), (34, S34)]
theorem ext8Ok : ExtOk Tryz.prog ext8 := ⟨⟨ca33, con33⟩, ⟨ca31, con31⟩, ⟨ca34, con34⟩, trivial⟩
noncomputable def b8 : Code := bodyOf Tryz.f8
theorem hb8 : Tryz.f8.body = some b8 := by kernel_rfl
def sig8 : List AT := [AT.v (Ty.str)]
def tys8 : List Ty := [Ty.sl (Ty.int .i64)]
def kds8 : List RK := []
def oks8 : List AT := owns sig8
def E8_4 (v17 : Int) (h1 : List Int) (x0 : ByteArray) : Env := [(3, PV.a (Atom.osl 0 Option.none)), (4, PV.a (Atom.val (Value.string (g33_1 x0)))), (5, PV.a (Atom.osl 1 Option.none)), (15, PV.a (Atom.osl 0 Option.none)), (16, PV.a (Atom.val (Value.int .i64 (↑(List.length (g33_0 x0)) : Int)))), (17, PV.a (Atom.val (Value.int .i64 v17)))]
def L8_4 (v17 : Int) (h1 : List Int) (x0 : ByteArray) : Heap := [Option.some (Arr.mk Ty.str (g33_0 x0) false Option.none Option.none), Option.some (Arr.mk (Ty.int .i64) h1 false Option.none Option.none)]
mutual
def R8 : Nat → ByteArray → List Dyn → Prop
  | 0, _, _ => False
  | n + 1, x0, ds => ((P33 x0) ∧ (R8_4 n (0) ([]) (x0) ds))
def R8_4 : Nat → Int → List Int → ByteArray → List Dyn → Prop
  | 0, _, _, _, _ => False
  | n + 1, v17, h1, x0, ds => (if (decide (v17 < (↑(List.length (g33_0 x0)) : Int))) = true then ((0 ≤ v17) ∧ (v17 < (↑(List.length (g33_0 x0)) : Int)) ∧ ((P31 (List.getD (g33_0 x0) (Int.toNat v17) ByteArray.empty)) ∧ (if (decide (v17 > 0)) = true then (if (g31_1 (List.getD (g33_0 x0) (Int.toNat v17) ByteArray.empty) != 0) = true then ((InR .i64 (v17 + 1)) ∧ (((List.length h1 + 1) * 8 ≤ 140737488355328) ∧ ((InR .i64 (v17 + 1)) ∧ (R8_4 n (v17 + 1) (h1 ++ [v17 + 1]) (x0) ds)))) else ((InR .i64 (v17 + 1)) ∧ (R8_4 n (v17 + 1) (h1) (x0) ds))) else ((InR .i64 (v17 + 1)) ∧ (R8_4 n (v17 + 1) (h1) (x0) ds))))) else (if (!ByteArray.toList (g33_1 x0) == ByteArray.toList (ByteArray.mk #[])) = true then ((InR .i64 (g34_0 (g33_0 x0) + 1)) ∧ (((List.length h1 + 1) * 8 ≤ 140737488355328) ∧ (ds = [Dyn.mk (Ty.sl (Ty.int .i64)) (h1 ++ [g34_0 (g33_0 x0) + 1])]))) else (ds = [Dyn.mk (Ty.sl (Ty.int .i64)) h1])))
end
theorem snd8 : ∀ n, (∀ (x0 : ByteArray) ds, R8 n x0 ds → ∀ K q, AtV Tryz.prog 8 (PostR kds8 oks8 ds [] [] q K) 48 K q [] [.code b8] (entE 0 0 sig8 (x0, ())) (entL sig8 (x0, ()))) ∧ (∀ (v17 : Int) (h1 : List Int) (x0 : ByteArray) ds, R8_4 n v17 h1 x0 ds → ∀ K q, AtV Tryz.prog 8 (PostR kds8 oks8 ds [] [] q K) 48 K q [] (cutAt b8 4) (E8_4 v17 h1 x0) (L8_4 v17 h1 x0)) := by
  intro n
  induction n with
  | zero => exact ⟨fun _ _ h => by simp only [R8] at h, fun _ _ _ _ h => by simp only [R8_4] at h⟩
  | succ n ih =>
  obtain ⟨ih, ih4⟩ := ih
  refine ⟨?_, ?_⟩
  · intro x0 ds h K q
    rw [R8] at h
    obtain ⟨s0, h⟩ := h
    exact AtV.go tabOk ext8Ok mixed false [] [(5, Ty.int .i64)] [3, 4, 5, 15, 16, 17] [0, 1] [] (a1 s0 trivial) (ih4 _ _ _ _ h K q) (by kernel_rfl)
  · intro v17 h1 x0 ds h K q
    rw [R8_4] at h
    by_cases b0 : (decide (v17 < (↑(List.length (g33_0 x0)) : Int))) = true
    · rw [if_pos b0] at h
      obtain ⟨s0, s1, h⟩ := h
      obtain ⟨s2, h⟩ := h
      by_cases b1 : (decide (v17 > 0)) = true
      · rw [if_pos b1] at h
        by_cases b2 : (g31_1 (List.getD (g33_0 x0) (Int.toNat v17) ByteArray.empty) != 0) = true
        · rw [if_pos b2] at h
          obtain ⟨s3, h⟩ := h
          obtain ⟨s4, h⟩ := h
          obtain ⟨s5, h⟩ := h
          exact AtV.go tabOk ext8Ok mixed false [] [(5, Ty.int .i64)] [3, 4, 5, 15, 16, 17] [0, 1] [true, true, true] (a1 b0 (a1 s0 (a1 s1 (a1 s2 (a1 b1 (a1 b2 (a1 s3 (a1 s4 (a1 s5 trivial))))))))) (ih4 _ _ _ _ h K q) (by kernel_rfl)
        · rw [if_neg b2] at h
          replace b2 := Bool.eq_false_iff.2 b2
          obtain ⟨s3, h⟩ := h
          exact AtV.go tabOk ext8Ok mixed false [] [(5, Ty.int .i64)] [3, 4, 5, 15, 16, 17] [0, 1] [true, true, false] (a1 b0 (a1 s0 (a1 s1 (a1 s2 (a1 b1 (a1 b2 (a1 s3 trivial))))))) (ih4 _ _ _ _ h K q) (by kernel_rfl)
      · rw [if_neg b1] at h
        replace b1 := Bool.eq_false_iff.2 b1
        obtain ⟨s3, h⟩ := h
        exact AtV.go tabOk ext8Ok mixed false [] [(5, Ty.int .i64)] [3, 4, 5, 15, 16, 17] [0, 1] [true, false, false] (a1 b0 (a1 s0 (a1 s1 (a1 s2 (a1 b1 (a1 (rfl : false = false) (a1 s3 trivial))))))) (ih4 _ _ _ _ h K q) (by kernel_rfl)
    · rw [if_neg b0] at h
      replace b0 := Bool.eq_false_iff.2 b0
      by_cases b1 : (!ByteArray.toList (g33_1 x0) == ByteArray.toList (ByteArray.mk #[])) = true
      · rw [if_pos b1] at h
        obtain ⟨s0, h⟩ := h
        obtain ⟨s1, h⟩ := h
        subst h
        exact AtV.ret Tryz.func8 tabOk ext8Ok mixed false [] tys8 [false, true] (a1 b0 (a1 b1 (a1 trivial (a1 s0 (a1 s1 trivial))))) (by kernel_rfl)
      · rw [if_neg b1] at h
        replace b1 := Bool.eq_false_iff.2 b1
        subst h
        exact AtV.ret Tryz.func8 tabOk ext8Ok mixed false [] tys8 [false, false] (a1 b0 (a1 b1 trivial)) (by kernel_rfl)
def dm8 : Nat → List ByteArray → List Int
  | _, [] => []
  | i, x :: r => (if (decide ((i : Int) > 0)) = true then (if (g31_1 x != 0) = true then [(i : Int) + 1] else []) else []) ++ dm8 (i + 1) r
def tl8 (x0 : ByteArray) : List Int := if (!ByteArray.toList (g33_1 x0) == ByteArray.toList (ByteArray.mk #[])) = true then [((g33_0 x0).length : Int) + 1] else []
def g8_0 (x0 : ByteArray) : List Int := dm8 0 (g33_0 x0) ++ tl8 x0
def P8 (x0 : ByteArray) : Prop := P33 x0 ∧ (g33_0 x0).length ≤ 1048577 ∧ ∀ x ∈ g33_0 x0, P31 x
theorem run8 (x0 : ByteArray) (hl : (g33_0 x0).length ≤ 1048577) (hp : ∀ x ∈ g33_0 x0, P31 x) : ∀ (k i : Nat) (h : List Int), (g33_0 x0).length ≤ i + k → h.length ≤ i → i ≤ 1048578 →
    R8_4 (k + 1) (i : Int) h x0 [⟨.sl (.int .i64), h ++ (dm8 i ((g33_0 x0).drop i) ++ tl8 x0)⟩] := by
  have fin : ∀ (n i : Nat) (h : List Int), ¬ i < (g33_0 x0).length → h.length ≤ i → i ≤ 1048578 → R8_4 (n + 1) (i : Int) h x0 [⟨.sl (.int .i64), h ++ (dm8 i ((g33_0 x0).drop i) ++ tl8 x0)⟩] := by
    intro n i h hi hh h8
    rw [R8_4, if_neg (by simp; omega), List.drop_of_length_le (by omega)]
    unfold dm8 tl8
    by_cases hc : (!ByteArray.toList (g33_1 x0) == ByteArray.toList (ByteArray.mk #[])) = true
    · rw [if_pos hc, if_pos hc]
      exact ⟨by show InR .i64 (((g33_0 x0).length : Int) + 1); rw [i64_iff]; omega, by omega, rfl⟩
    · rw [if_neg hc, if_neg hc]
      simp
  intro k
  induction k with
  | zero =>
    intro i h hi hh h8
    exact fin 0 i h (by omega) hh h8
  | succ k ih =>
    intro i h hi hh h8
    by_cases hlt : i < (g33_0 x0).length
    · rw [R8_4, if_pos (by simp; omega), drop_get _ i ByteArray.empty hlt]
      simp only [Int.toNat_natCast]
      refine ⟨by omega, by omega, hp _ (mem_getD _ i _ hlt), ?_⟩
      have e1 : (i : Int) + 1 = ((i + 1 : Nat) : Int) := by omega
      unfold dm8
      have hz := ih (i + 1) h (by omega) (by omega) (by omega)
      rw [← e1] at hz
      by_cases h0 : (decide ((i : Int) > 0)) = true
      · rw [if_pos h0, if_pos h0]
        by_cases hc : (g31_1 (List.getD (g33_0 x0) i ByteArray.empty) != 0) = true
        · rw [if_pos hc, if_pos hc]
          refine ⟨by rw [i64_iff]; omega, by omega, by rw [i64_iff]; omega, ?_⟩
          have := ih (i + 1) (h ++ [(i : Int) + 1]) (by omega) (len_up hh) (by omega)
          rw [← e1] at this
          simpa using this
        · rw [if_neg hc, if_neg hc]
          exact ⟨by rw [i64_iff]; omega, by simpa using hz⟩
      · rw [if_neg h0, if_neg h0]
        exact ⟨by rw [i64_iff]; omega, by simpa using hz⟩
    · exact fin (k + 1) i h hlt hh h8
theorem top8 (x0 : ByteArray) (h : P8 x0) : R8 ((g33_0 x0).length + 1 + 1) x0 [⟨.sl (.int .i64), g8_0 x0⟩] := by
  rw [R8]
  refine ⟨h.1, ?_⟩
  have := run8 x0 h.2.1 h.2.2 (g33_0 x0).length 0 [] (by omega) (by simp) (by omega)
  simpa [g8_0] using this
def S8 : Am.Spec := { sig := sig8, pre := fun ⟨x0, _⟩ => P8 x0, res := fun ⟨x0, _⟩ => [⟨.sl (.int .i64), g8_0 x0⟩] }
theorem con8 : Contract Tryz.prog 8 S8 := contract_of Tryz.func8 hb8 (Nat.le_of_ble_eq_true (by kernel_rfl)) (fun ⟨x0, _⟩ h hwf K q =>
  (snd8 _).1 x0 _ (top8 x0 h) K q)
end
set_option maxHeartbeats 2000000 in
theorem nil95 (w : World) : Calls Tryz.prog 95 #[.slice none 0 0] w fun e w' => e = .returned (.slice none 0 0) ∧ w' = w := by
  have mixed := mixed
  have q22 : ∀ (w : World) (a : Option Addr) (n c n' c' : Nat), (binOp .eql 24 (.slice a n c) (.slice none n' c')).run Tryz.prog w = .ok (.bool a.isNone) w := fun w a n c n' c' => Lib.run_eql_slice_nil w _ _ a n c n' c' Tryz.underlying24
  go_enter Tryz.func95, Tryz.ntmps95
  go_wp2
  go_ret
  exact ⟨rfl, rfl⟩
set_option maxHeartbeats 4000000 in
theorem some95 (w : World) (a : Addr) (n c : Nat) (news : List Value) (hl : news.length = n * (Ty.size YA3)) (hn : n ≤ 1048576) (hc : ∀ (j : Nat) (u : Value), news[j]? = some u → w.cell? (a.add j) = some u) (h1 : ∀ u ∈ news, u.oneCell' = true) :
    Calls Tryz.prog 95 #[.slice (some a) n c] w fun r w' => ∃ v', r = .returned v' ∧ w'.ownsRow w.heap.size 58 (Ty.size YA3) v' n news ∧ Go.RowKit.Below w.heap.size w w' := by
  have mixed := mixed
  have q22 : ∀ (w : World) (a : Option Addr) (n c n' c' : Nat), (binOp .eql 24 (.slice a n c) (.slice none n' c')).run Tryz.prog w = .ok (.bool a.isNone) w := fun w a n c n' c' => Lib.run_eql_slice_nil w _ _ a n c n' c' Tryz.underlying24
  have hinfo : TIOk Tryz.prog 24 (tabGet tab 24) := tabOk 24
  obtain ⟨_, _, ⟨_, ⟨i0, hi0, hz1, z, hz0, hzs, _⟩⟩, hby⟩ := hinfo
  rw [hi0] at hby
  simp only [Option.map_some, Option.some.injEq] at hby
  have hzs' : z.cells.size = Ty.size YA3 := by rw [← Array.length_toList, hzs]; rfl
  have A : Aside (∀ (j : Nat) (u : Value), news[j]? = some u → w.cell? (a.add j) = some u) := hc
  clear hc
  go_enter Tryz.func95, Tryz.ntmps95
  go_wp2_with (at_builtin; refine wpList_append_own _ rfl _ _ 24 rfl w.heap.size 58 i0 z (Ty.size YA3) i0.bytes Tryz.underlying24 hi0 hz0 hz1 rfl hzs' (by decide) _ _ _ rfl (World.ownsRow_made w #[] 0 (Nat.le_refl _) (Nat.zero_le _) (by simp)) a n c news rfl ?qc1 ?qc2 ?qc3 ?qc4 ?qc5 ?qc6 ?_)
  case qc1 => exact hl
  case qc2 => intro j u hj; exact Lib.cell?_alloc_some _ (A.out j u hj)
  case qc3 => exact h1
  case qc4 => unfold maxLen; omega
  case qc5 => rw [hby]; omega
  case qc6 => simp
  intro v' w1 hown hgrow hnil
  go_wp2
  go_ret
  exact ⟨v', rfl, by simpa using hown, ((Go.RowKit.Below.refl _ w).alloc (Nat.le_refl _) _).grown hgrow (by simp) (by intro k hk; simp [Value.ownBlock] at hk; omega)⟩
def sig95 : List AT := [AT.v (Ty.sl YA3)]
def g95_0 (x0 : List TyB1) : List TyB1 := x0
def P95 (x0 : List TyB1) : Prop := x0.length ≤ 1048576
def S95 : Am.Spec := { sig := sig95, pre := fun ⟨x0, _⟩ => P95 x0, res := fun ⟨x0, _⟩ => [⟨Ty.sl YA3, g95_0 x0⟩] }
theorem con95 : Contract Tryz.prog 95 S95 := clone_contract (t := YA3) (e := 58) rfl nil95 some95
noncomputable section
def ext126c32 : Ext := [(32, S32)]
theorem ext126c32Ok : ExtOk Tryz.prog ext126c32 := ⟨⟨ca32, con32⟩, trivial⟩
noncomputable def b126c32 : Code := bodyOf Tryz.f126
theorem hb126c32 : Tryz.f126.body = some b126c32 := by kernel_rfl
def sig126c32 : List AT := [AT.v (Ty.sl YA3), AT.v YA3, AT.fn 32 []]
def tys126c32 : List Ty := [Ty.int .i64, Ty.bool]
def kds126c32 : List RK := []
def oks126c32 : List AT := owns sig126c32
def E126c32_3 (v9 : Int) (v10 : Int) (x0 : List TyB1) (x1 : ByteArray × ByteArray × ByteArray × Unit) : Env := [(0, PV.a (Atom.sl YA3 x0)), (2, PV.fn 32 []), (4, PV.a (Atom.optr 0 0 [])), (8, PV.a (Atom.val (Value.int .i64 (↑(List.length x0) : Int)))), (9, PV.a (Atom.val (Value.int .i64 v9))), (10, PV.a (Atom.val (Value.int .i64 v10)))]
def L126c32_3 (v9 : Int) (v10 : Int) (x0 : List TyB1) (x1 : ByteArray × ByteArray × ByteArray × Unit) : Heap := [Option.some (Arr.mk YA3 [x1] true Option.none (Option.some false))]
mutual
def R126c32 : Nat → List TyB1 → ByteArray × ByteArray × ByteArray × Unit → List Dyn → Prop
  | 0, _, _, _ => False
  | n + 1, x0, x1, ds => (R126c32_3 n (0) ((↑(List.length x0) : Int)) (x0) (x1) ds)
def R126c32_3 : Nat → Int → Int → List TyB1 → ByteArray × ByteArray × ByteArray × Unit → List Dyn → Prop
  | 0, _, _, _, _, _ => False
  | n + 1, v9, v10, x0, x1, ds => (if (decide (v9 < v10)) = true then ((InR .i64 (v9 + v10)) ∧ ((InR .u64 (v9 + v10)) ∧ ((InR .u64 (Int.fdiv (v9 + v10) 2)) ∧ ((InR .i64 (Int.fdiv (v9 + v10) 2)) ∧ ((0 ≤ Int.fdiv (v9 + v10) 2) ∧ (Int.fdiv (v9 + v10) 2 < (↑(List.length x0) : Int)) ∧ (if (decide (g32_0 (List.getD x0 (Int.toNat (Int.fdiv (v9 + v10) 2)) (ByteArray.empty, ByteArray.empty, ByteArray.empty, ())) x1 < 0)) = true then ((InR .i64 (Int.fdiv (v9 + v10) 2 + 1)) ∧ (R126c32_3 n (Int.fdiv (v9 + v10) 2 + 1) (v10) (x0) (x1) ds)) else (R126c32_3 n (v9) (Int.fdiv (v9 + v10) 2) (x0) (x1) ds))))))) else (if (decide (v9 < (↑(List.length x0) : Int))) = true then ((0 ≤ v9) ∧ (v9 < (↑(List.length x0) : Int)) ∧ (ds = [Dyn.mk (Ty.int .i64) v9, Dyn.mk Ty.bool (g32_0 (List.getD x0 (Int.toNat v9) (ByteArray.empty, ByteArray.empty, ByteArray.empty, ())) x1 == 0)])) else (ds = [Dyn.mk (Ty.int .i64) v9, Dyn.mk Ty.bool false])))
end
theorem snd126c32 : ∀ n, (∀ (x0 : List TyB1) (x1 : ByteArray × ByteArray × ByteArray × Unit) ds, R126c32 n x0 x1 ds → ∀ K q, AtV Tryz.prog 126 (PostR kds126c32 oks126c32 ds [] [] q K) 49 K q [] [.code b126c32] (entE 0 0 sig126c32 (x0, x1, (), ())) (entL sig126c32 (x0, x1, (), ()))) ∧ (∀ (v9 : Int) (v10 : Int) (x0 : List TyB1) (x1 : ByteArray × ByteArray × ByteArray × Unit) ds, R126c32_3 n v9 v10 x0 x1 ds → ∀ K q, AtV Tryz.prog 126 (PostR kds126c32 oks126c32 ds [] [] q K) 49 K q [] (cutAt b126c32 3) (E126c32_3 v9 v10 x0 x1) (L126c32_3 v9 v10 x0 x1)) := by
  intro n
  induction n with
  | zero => exact ⟨fun _ _ _ h => by simp only [R126c32] at h, fun _ _ _ _ _ h => by simp only [R126c32_3] at h⟩
  | succ n ih =>
  obtain ⟨ih, ih3⟩ := ih
  refine ⟨?_, ?_⟩
  · intro x0 x1 ds h K q
    rw [R126c32] at h
    exact AtV.go tabOk ext126c32Ok mixed false [] [] [0, 2, 4, 8, 9, 10] [0] [] trivial (ih3 _ _ _ _ _ h K q) (by kernel_rfl)
  · intro v9 v10 x0 x1 ds h K q
    rw [R126c32_3] at h
    by_cases b0 : (decide (v9 < v10)) = true
    · rw [if_pos b0] at h
      obtain ⟨s0, h⟩ := h
      obtain ⟨s1, h⟩ := h
      obtain ⟨s2, h⟩ := h
      obtain ⟨s3, h⟩ := h
      obtain ⟨s4, s5, h⟩ := h
      by_cases b1 : (decide (g32_0 (List.getD x0 (Int.toNat (Int.fdiv (v9 + v10) 2)) (ByteArray.empty, ByteArray.empty, ByteArray.empty, ())) x1 < 0)) = true
      · rw [if_pos b1] at h
        obtain ⟨s6, h⟩ := h
        exact AtV.go tabOk ext126c32Ok mixed false [] [] [0, 2, 4, 8, 9, 10] [0] [true, true] (a1 b0 (a1 s0 (a1 s1 (a1 ((by decide) : (0 : Int) ≤ (1 : Int)) (a1 s2 (a1 s3 (a1 s4 (a1 s5 (a1 trivial (a1 b1 (a1 s6 trivial))))))))))) (ih3 _ _ _ _ _ h K q) (by kernel_rfl)
      · rw [if_neg b1] at h
        replace b1 := Bool.eq_false_iff.2 b1
        exact AtV.go tabOk ext126c32Ok mixed false [] [] [0, 2, 4, 8, 9, 10] [0] [true, false] (a1 b0 (a1 s0 (a1 s1 (a1 ((by decide) : (0 : Int) ≤ (1 : Int)) (a1 s2 (a1 s3 (a1 s4 (a1 s5 (a1 trivial (a1 b1 trivial)))))))))) (ih3 _ _ _ _ _ h K q) (by kernel_rfl)
    · rw [if_neg b0] at h
      replace b0 := Bool.eq_false_iff.2 b0
      by_cases b1 : (decide (v9 < (↑(List.length x0) : Int))) = true
      · rw [if_pos b1] at h
        obtain ⟨s0, s1, h⟩ := h
        subst h
        exact AtV.ret Tryz.func126 tabOk ext126c32Ok mixed false [] tys126c32 [false, true] (a1 b0 (a1 b1 (a1 s0 (a1 s1 (a1 trivial trivial))))) (by kernel_rfl)
      · rw [if_neg b1] at h
        replace b1 := Bool.eq_false_iff.2 b1
        subst h
        exact AtV.ret Tryz.func126 tabOk ext126c32Ok mixed false [] tys126c32 [false, false] (a1 b0 (a1 b1 trivial)) (by kernel_rfl)
def p126c32 (x0 : List TyB1) (x1 : ByteArray × ByteArray × ByteArray × Unit) (h : Nat) : Bool := decide (g32_0 (x0.getD h (ByteArray.empty, ByteArray.empty, ByteArray.empty, ())) x1 < 0)
def k126c32 (x0 : List TyB1) (x1 : ByteArray × ByteArray × ByteArray × Unit) : Nat := bsearch (p126c32 x0 x1) (x0.length + 1) 0 x0.length
def f126c32 (x0 : List TyB1) (x1 : ByteArray × ByteArray × ByteArray × Unit) (k : Nat) : Bool := if k < x0.length then g32_0 (x0.getD k (ByteArray.empty, ByteArray.empty, ByteArray.empty, ())) x1 == 0 else false
def g126c32_0 (x0 : List TyB1) (x1 : ByteArray × ByteArray × ByteArray × Unit) : Int := (k126c32 x0 x1 : Nat)
def g126c32_1 (x0 : List TyB1) (x1 : ByteArray × ByteArray × ByteArray × Unit) : Bool := f126c32 x0 x1 (k126c32 x0 x1)
def P126c32 (x0 : List TyB1) (x1 : ByteArray × ByteArray × ByteArray × Unit) : Prop := x0.length ≤ 4611686018427387903
theorem u64_iff (n : Int) : InR .u64 n ↔ 0 ≤ n ∧ n ≤ 18446744073709551615 := by
  have e1 : (IntKind.u64).min = 0 := by decide
  have e2 : (IntKind.u64).max = 18446744073709551615 := by decide
  simp only [InR, e1, e2]
theorem run126c32 (x0 : List TyB1) (x1 : ByteArray × ByteArray × ByteArray × Unit) (hm : x0.length ≤ 4611686018427387903) : ∀ (k i j : Nat), j - i < k → i ≤ j → j ≤ x0.length →
    R126c32_3 k (i : Int) (j : Int) x0 x1 [⟨.int .i64, ((bsearch (p126c32 x0 x1) k i j : Nat) : Int)⟩, ⟨.bool, f126c32 x0 x1 (bsearch (p126c32 x0 x1) k i j)⟩] := by
  intro k
  induction k with
  | zero => intro i j h; omega
  | succ k ih =>
    intro i j h hij hj
    rw [R126c32_3]
    by_cases hlt : i < j
    · rw [if_pos (by simpa using hlt)]
      have e : Int.fdiv ((i : Int) + (j : Int)) 2 = (((i + j) / 2 : Nat) : Int) := by
        rw [Int.fdiv_eq_ediv_of_nonneg _ (by omega)]
        omega
      rw [e]
      simp only [Int.toNat_natCast, i64_iff, u64_iff]
      refine ⟨by omega, by omega, by omega, by omega, by omega, by omega, ?_⟩
      simp only [bsearch, if_pos hlt]
      by_cases hp : p126c32 x0 x1 ((i + j) / 2) = true
      · rw [if_pos hp, if_pos (by exact hp)]
        refine ⟨by omega, ?_⟩
        exact ih ((i + j) / 2 + 1) j (by omega) (by omega) hj
      · rw [if_neg hp, if_neg (by exact hp)]
        exact ih i ((i + j) / 2) (by omega) (by omega) (by omega)
    · rw [if_neg (by simpa using hlt)]
      simp only [bsearch, if_neg hlt, f126c32]
      by_cases hl : i < x0.length
      · rw [if_pos (by simpa using hl)]
        refine ⟨by omega, by omega, ?_⟩
        simp [hl]
      · rw [if_neg (by simpa using hl)]
        simp [hl]
def S126c32 : Am.Spec := { sig := sig126c32, pre := fun ⟨x0, x1, _⟩ => P126c32 x0 x1, res := fun ⟨x0, x1, _⟩ => [⟨Ty.int .i64, g126c32_0 x0 x1⟩, ⟨Ty.bool, g126c32_1 x0 x1⟩] }
theorem con126c32 : Contract Tryz.prog 126 S126c32 := contract_of Tryz.func126 hb126c32 (Nat.le_of_ble_eq_true (by kernel_rfl)) (fun ⟨x0, x1, _⟩ h hwf K q =>
  (snd126c32 (x0.length + 1 + 1)).1 x0 x1 _ (by rw [R126c32]; exact run126c32 x0 x1 h (x0.length + 1) 0 x0.length (by omega) (by omega) (Nat.le_refl _)) K q)
end
noncomputable section
def ext96 : Ext := [(126, S126c32)]
theorem ext96Ok : ExtOk Tryz.prog ext96 := ⟨⟨ca126, con126c32⟩, trivial⟩
noncomputable def b96 : Code := bodyOf Tryz.f96
theorem hb96 : Tryz.f96.body = some b96 := by kernel_rfl
def sig96 : List AT := [AT.v (Ty.sl YA3), AT.v YA3]
def tys96 : List Ty := [Ty.int .i64, Ty.bool]
def kds96 : List RK := []
def oks96 : List AT := owns sig96
def P96 (x0 : List TyB1) (x1 : ByteArray × ByteArray × ByteArray × Unit) : Prop := ((P126c32 x0 x1) ∧ True)
def g96_0 (x0 : List TyB1) (x1 : ByteArray × ByteArray × ByteArray × Unit) : Int := g126c32_0 x0 x1
def g96_1 (x0 : List TyB1) (x1 : ByteArray × ByteArray × ByteArray × Unit) : Bool := g126c32_1 x0 x1
theorem at96 (x0 : List TyB1) (x1 : ByteArray × ByteArray × ByteArray × Unit) (h : P96 x0 x1) (K : Ctx) (q : Nat → Value) : AtV Tryz.prog 96 (PostR kds96 oks96 [⟨Ty.int .i64, g96_0 x0 x1⟩, ⟨Ty.bool, g96_1 x0 x1⟩] [] [] q K) 11 K q [] [.code b96] (entE 0 0 sig96 (x0, x1, ())) (entL sig96 (x0, x1, ())) := by
  unfold P96 at h
  unfold g96_0 g96_1
  obtain ⟨s0, h⟩ := h
  exact AtV.ret Tryz.func96 tabOk ext96Ok mixed false [] tys96 [] (a1 s0 trivial) (by kernel_rfl)
def S96 : Am.Spec := { sig := sig96, pre := fun ⟨x0, x1, _⟩ => P96 x0 x1, res := fun ⟨x0, x1, _⟩ => [⟨Ty.int .i64, g96_0 x0 x1⟩, ⟨Ty.bool, g96_1 x0 x1⟩], kds := kds96 }
theorem con96 : Contract Tryz.prog 96 S96 := contract_of Tryz.func96 hb96 (Nat.le_of_ble_eq_true (by kernel_rfl)) (fun ⟨x0, x1, _⟩ h _ K q => at96 x0 x1 h K q)
end
open Go.RowKit in
theorem wpcp97 {P : Program} (w : World) {o : Oper} {a : Act} {K : Act → World → Prop} {Q : Exit → Act → World → Prop} (d s : Operand) (t t' : TypeId)
    (ho : o.op = .call { callee := .builtin .copy, args := #[d, s], argTypes := #[t, t'] }) (v u : Value) (hd : a.eval d = v) (hs : a.eval s = u) {v' : Value} {w' : World}
    (hr : (Builtin.copy_ #[t, t'] o.type #[v, u]).run P w = .ok v' w') (h : K (a.put o.dst v') w') : o.wp P a w K Q := by
  unfold Oper.wp execOp
  simp only [ho, resolve, invoke, builtin, Sem.run_bind, Sem.run_pure, Result.andThen_ok, List.map_toArray, List.map_cons, List.map_nil, hd, hs, hr]
  exact h
theorem lcp97 {P : Program} (w : World) {ops : Array Oper} {rest : List Oper} {o : Oper} {a : Act} {Q : Exit → Act → World → Prop} (hgd : o.guard = none) (d s : Operand) (t t' : TypeId)
    (ho : o.op = .call { callee := .builtin .copy, args := #[d, s], argTypes := #[t, t'] }) (v u : Value) (hd : a.eval d = v) (hs : a.eval s = u) {v' : Value} {w' : World}
    (hr : (Builtin.copy_ #[t, t'] o.type #[v, u]).run P w = .ok v' w') (h : wpList P ops Q rest (a.put o.dst v') w') : wpList P ops Q (o :: rest) a w :=
  wpList_plain hgd fun _ hK => wpcp97 w d s t t' ho v u hd hs hr (hK _ _ h)
theorem scp97 {P : Program} {ops : Array Oper} {o : Oper} {a : Act} {w : World} {K : Act → World → Prop} {Q : Exit → Act → World → Prop} {E : Prop}
    (hg : o.guard = none) (d x : Operand) (dT sT : TypeId) (hop : o.op = Op.call { callee := Callee.builtin Builtin.copy, args := #[d, x], argTypes := #[dT, sT] })
    (v u : Value) (hd : a.eval d = v) (hx : a.eval x = u) {v' : Value} {w' : World} (hr : (Builtin.copy_ #[dT, sT] o.type #[v, u]).run P w = .ok v' w') (hK : K (a.put o.dst v') w') :
    if Region.wanted o (yielded ops a.tmps) = true then Oper.wp P o a w K Q else E := by
  have hw : Region.wanted o (yielded ops a.tmps) = true := by simp [Region.wanted, hg]
  rw [if_pos hw]
  unfold Oper.wp
  simp [execOp, hop, resolve, invoke, builtin, hd, hx, hr, Result.andThen]
  exact hK
theorem frozen_end97 {w : World} {ys : List TyB1} {b off cap : Nat} {cur : Array Value} {ty : TypeId} {fz : Nat × Nat} (h : OwnAt w YA3 ys b off cap cur ty fz) : w.frozen? ⟨b, cur.size, none⟩ = false := by
  have h2 := (h.free.2.resolve_left (by decide)) cur.size (by omega)
  simp only [World.frozen?, h.blk]
  rw [Bool.eq_false_iff]
  intro hh
  simp only [Bool.and_eq_true, decide_eq_true_eq] at hh
  exact h2 hh
theorem info97 : ∃ (i0 : TypeInfo) (z : Value), Tryz.prog.info? 58 = some i0 ∧ i0.size = 3 ∧ i0.zero = some z ∧ z.cells = (dcells YA3).toArray ∧ (Tryz.prog.info? 58).map (·.size) = some 3 ∧ ∃ by', i0.bytes = by' ∧ by' ≤ 256 ∧ i0.bytes * 1048577 ≤ 140737488355328 := by
  have hinfo : TIOk Tryz.prog 24 (tabGet tab 24) := tabOk 24
  obtain ⟨_, _, ⟨_, ⟨i0, hi0, hz1, z, hz0, hzs, hzv⟩⟩, hby⟩ := hinfo
  rw [hi0] at hby
  simp only [Option.map_some, Option.some.injEq] at hby
  refine ⟨i0, z, hi0, hz1, hz0, Array.toList_inj.1 (by rw [hzs]), by rw [hi0]; exact congrArg some hz1, _, rfl, ?_, ?_⟩
  · rw [hby]; decide
  · rw [hby]; decide
open Go.RowKit in
set_option maxHeartbeats 8000000 in
theorem end97 (w : World) (xs ys : List TyB1) (b off cap : Nat) (cur : Array Value) (ty : TypeId) (fz : Nat × Nat) (vb voff vcap : Nat) (vcur : Array Value) (vty : TypeId) (vfz : Nat × Nat) (hA : OwnAt w YA3 xs b off cap cur ty fz) (hB : OwnAt w YA3 ys vb voff vcap vcur vty vfz) (h1 : ys.length = 1) (hvb : vb ≠ b) (hroom : xs.length + 1 ≤ cap) :
      Calls Tryz.prog 97 #[.slice (some ⟨b, off, none⟩) xs.length cap, .int .i64 xs.length, .slice (some ⟨vb, voff, none⟩) 1 vcap] w fun r w' => r = .returned (.slice (some ⟨b, off, none⟩) (xs.length + 1) cap) ∧
        ∃ q, w' = (w.drewN q).setCells b (off + xs.length * Ty.size YA3) (fcs YA3 ys) := by
  have mixed := mixed
  obtain ⟨i0, z, hi0, hz1, hz0, hzc, hzm, _⟩ := info97
  have hlen := hA.len
  have hcapm := hA.capm
  have hvl : (fcs YA3 ys).length = 1 * 3 := by
    have := fcs_length (t := YA3) rfl (xs := ys) hB.wf
    rw [this, h1]; rfl
  obtain ⟨vs, hvs⟩ : ∃ vs, vs = fcs YA3 ys := ⟨_, rfl⟩
  have hvc : ∀ (j : Nat) (u : Value), vs[j]? = some u → w.cell? ⟨vb, voff + j, none⟩ = some u := fun j u hj => hB.cell j u (by rw [← hvs]; exact hj)
  rw [← hvs] at hvl ⊢
  have hle : (xs.length + 1) * 3 ≤ cap * 3 := Nat.mul_le_mul_right _ hroom
  have s2 : ∀ u ∈ vs, u.oneCell' = true := by rw [hvs]; exact fcells_ones rfl _
  have hsrc : Src Tryz.prog i0.size 24 (.slice (some ⟨vb, voff, none⟩) 1 vcap) 1 vs w := by
    rw [hz1]
    exact Src.ofSlice w Tryz.underlying24 ⟨vb, voff, none⟩ 1 vcap vs hvl (fun j u hj => by rw [Addr.add_lit]; exact hvc j u hj) s2
  have A0 : ∀ k, k < cap * 3 → (w.cell? ⟨b, off + k, none⟩).isSome = true ∧ w.frozen? ⟨b, off + k, none⟩ = false := fun k hk => ⟨hA.some' k hk, hA.unfrozen k hk⟩
  have r1 : ∀ j, j < vs.length → (w.cell? ⟨b, off + xs.length * i0.size + j, none⟩).isSome = true := fun j hj => by rw [hz1, Nat.add_assoc]; exact (A0 _ (by omega)).1
  have r2 : ∀ j, j < vs.length → w.frozen? ⟨b, off + xs.length * i0.size + j, none⟩ = false := fun j hj => by rw [hz1, Nat.add_assoc]; exact (A0 _ (by omega)).2
  have R1 : Aside (∀ j, j < vs.length → (w.cell? ⟨b, off + xs.length * i0.size + j, none⟩).isSome = true) := r1
  have R2 : Aside (∀ j, j < vs.length → w.frozen? ⟨b, off + xs.length * i0.size + j, none⟩ = false) := r2
  have N : Aside (i0.size = 3) := hz1
  clear r1 r2 A0 s2 hvc hvs hzc hz0 hzm hA hB
  go_enter Tryz.func97, Tryz.ntmps97
  go_wp2_with (at_builtin; refine wpList_append_room_src _ rfl _ _ 24 24 rfl 58 i0 Tryz.underlying24 hi0 b off xs.length cap rfl _ rfl 1 vs hsrc hroom R1.out R2.out ?_)
  go_ret
  exact ⟨rfl, 0, rfl⟩
open Go.RowKit in
set_option maxHeartbeats 8000000 in
theorem last97 (w : World) (xs ys : List TyB1) (ad : Option Addr) (cap : Nat) (vb voff vcap : Nat) (vcur : Array Value) (vty : TypeId) (vfz : Nat × Nat) (hw : ∀ x ∈ xs, Wf YA3 x) (hlen : xs.length ≤ cap) (hnil : ad = none → xs = []) (hcs : ∀ a, ad = some a → ∀ (j : Nat) (u : Value), (fcs YA3 xs)[j]? = some u → w.cell? (a.add j) = some u) (hB : OwnAt w YA3 ys vb voff vcap vcur vty vfz) (h1 : ys.length = 1) (hroom : cap < xs.length + 1) (hmax : xs.length ≤ 1048576) :
      Calls Tryz.prog 97 #[.slice ad xs.length cap, .int .i64 xs.length, .slice (some ⟨vb, voff, none⟩) 1 vcap] w fun r w' => ∃ v', r = .returned v' ∧ w'.ownsRow w.heap.size 58 (Ty.size YA3) v' (xs.length + 1) (fcs YA3 (xs ++ ys)) ∧ Below w.heap.size w w' := by
  have mixed := mixed
  obtain ⟨i0, z, hi0, hz1, hz0, hzc, hzm, by', hb1, hb2, hb3⟩ := info97
  have hvl : (fcs YA3 ys).length = 1 * 3 := by
    have := fcs_length (t := YA3) rfl (xs := ys) hB.wf
    rw [this, h1]; rfl
  have hcl : (fcs YA3 xs).length = xs.length * 3 := fcs_length (t := YA3) rfl hw
  obtain ⟨vs, hvs⟩ : ∃ vs, vs = fcs YA3 ys := ⟨_, rfl⟩
  obtain ⟨cs, hcss⟩ : ∃ cs, cs = fcs YA3 xs := ⟨_, rfl⟩
  have hvc : ∀ (j : Nat) (u : Value), vs[j]? = some u → w.cell? ⟨vb, voff + j, none⟩ = some u := fun j u hj => hB.cell j u (by rw [← hvs]; exact hj)
  rw [fcs_append, ← hvs, ← hcss]
  rw [← hvs] at hvl
  rw [← hcss] at hcl hcs
  have s2 : ∀ u ∈ vs, u.oneCell' = true := by rw [hvs]; exact fcells_ones rfl _
  have hsrc : Src Tryz.prog i0.size 24 (.slice (some ⟨vb, voff, none⟩) 1 vcap) 1 vs w := by
    rw [hz1]
    exact Src.ofSlice w Tryz.underlying24 ⟨vb, voff, none⟩ 1 vcap vs hvl (fun j u hj => by rw [Addr.add_lit]; exact hvc j u hj) s2
  have hold : (Builtin.firstCells i0.size xs.length (.slice ad xs.length cap)).run Tryz.prog w.drew = .ok cs.toArray w.drew := by
    rw [hz1]
    cases ad with
    | none =>
      have h0 := hnil rfl
      subst h0
      rw [List.length_eq_zero_iff.1 (show cs.length = 0 by rw [hcl]; simp)]
      exact run_firstCells_none w.drew 3 0 0 cap
    | some a => exact run_firstCells_some w.drew 3 xs.length a xs.length cap cs hcl (fun j v hj => hcs a rfl j v hj)
  have hbig : (xs.length + 1) * i0.bytes ≤ 140737488355328 := by
    have : (xs.length + 1) * i0.bytes ≤ 1048577 * i0.bytes := Nat.mul_le_mul_right _ (by omega)
    rw [Nat.mul_comm 1048577] at this
    omega
  have hrun : ∀ ty, (Builtin.append_ #[24, 24] ty #[.slice ad xs.length cap, .slice (some ⟨vb, voff, none⟩) 1 vcap]).run Tryz.prog w = _ := fun ty =>
    run_append_grow_src w 24 24 ty 58 i0 z Tryz.underlying24 hi0 hz0 ad xs.length cap cs hold _ 1 vs hsrc hroom (by omega) (growslice_fits hroom hbig)
  have hge := grownCap_ge w (xs.length + 1) cap 58
  have hgm := grownCap_le_maxLen w (xs.length + 1) cap 58 (by unfold maxLen; omega)
  have fin : ∀ G, xs.length + 1 ≤ G → G ≤ maxLen → (w.drew.alloc (.cells ((cs ++ vs).toArray ++ Builtin.zeroCells z.cells (G - (xs.length + 1))) 58)).ownsRow w.heap.size 58 (Ty.size YA3) (.slice (some ⟨w.heap.size, 0, none⟩) (xs.length + 1) G) (xs.length + 1) (cs ++ vs) ∧ Below w.heap.size w (w.drew.alloc (.cells ((cs ++ vs).toArray ++ Builtin.zeroCells z.cells (G - (xs.length + 1))) 58)) := fun G g1 g2 => by
    have el : (cs ++ vs).length = (xs.length + 1) * 3 := by rw [List.length_append, hcl, hvl, Nat.add_mul]
    refine ⟨⟨el, .inr ⟨w.heap.size, G, _, rfl, Nat.le_refl _, heap_alloc_new w.drew _, g1, g2, ?_, ?_⟩⟩, ((Below.refl w.heap.size w).drew).alloc (Nat.le_refl _) _⟩
    · have hz : (Builtin.zeroCells z.cells (G - (xs.length + 1))).size = (G - (xs.length + 1)) * 3 := by
        rw [← Array.length_toList, hzc, zeroCells_k]; simp [dcells]
      rw [Array.size_append, List.size_toArray, el, hz]
      show _ = G * 3
      rw [← Nat.add_mul]; congr 1; omega
    · rw [Array.toList_append]
      have : ((cs ++ vs).toArray.toList ++ (Builtin.zeroCells z.cells (G - (xs.length + 1))).toList).take ((cs ++ vs).length) = cs ++ vs := List.take_left
      rw [el] at this
      exact this
  obtain ⟨G, hG⟩ : ∃ G, G = grownCap w (xs.length + 1) cap 58 := ⟨_, rfl⟩
  rw [← hG] at hrun hge hgm
  have fin := fin G hge hgm
  have F : Aside (_ ∧ _) := fin
  obtain ⟨ROW, hROW⟩ : ∃ ROW, ROW = (cs ++ vs).toArray ++ Builtin.zeroCells z.cells (G - (xs.length + 1)) := ⟨_, rfl⟩
  rw [← hROW] at hrun F
  clear fin hold hROW hG hcs hsrc hvc hvs hcss s2 hz0 hzc hzm hB
  go_enter Tryz.func97, Tryz.ntmps97
  cases ad with
  | none =>
    have h0 := hnil rfl
    subst h0
    go_wp2_with (at_builtin; refine Lib.wpList_append_run _ rfl _ _ _ _ rfl _ _ rfl rfl _ _ (hrun _) ?_)
    go_ret
    exact ⟨_, rfl, F.out.1, F.out.2⟩
  | some a =>
    obtain ⟨ab, ao, asp⟩ := a
    go_wp2_with (at_builtin; refine Lib.wpList_append_run _ rfl _ _ _ _ rfl _ _ rfl rfl _ _ (hrun _) ?_)
    all_goals (go_ret; exact ⟨_, rfl, F.out.1, F.out.2⟩)
open Go.RowKit in
set_option maxHeartbeats 8000000 in
theorem shift97 (w : World) (xs ys : List TyB1) (b off cap : Nat) (cur : Array Value) (ty : TypeId) (fz : Nat × Nat) (vb voff vcap : Nat) (vcur : Array Value) (vty : TypeId) (vfz : Nat × Nat) (i : Nat) (hA : OwnAt w YA3 xs b off cap cur ty fz) (hB : OwnAt w YA3 ys vb voff vcap vcur vty vfz) (h1 : ys.length = 1) (hvb : vb ≠ b) (hi : i < xs.length) (hroom : xs.length + 1 ≤ cap) :
      Calls Tryz.prog 97 #[.slice (some ⟨b, off, none⟩) xs.length cap, .int .i64 i, .slice (some ⟨vb, voff, none⟩) 1 vcap] w fun r w' => r = .returned (.slice (some ⟨b, off, none⟩) (xs.length + 1) cap) ∧
        ∃ q, w' = ((w.drewN q).setCells b (off + (i + 1) * Ty.size YA3) (fcs YA3 (xs.drop i))).setCells b (off + i * Ty.size YA3) (fcs YA3 ys) := by
  have mixed := mixed
  obtain ⟨i0, z, hi0, hz1, hz0, hzc, hzm, _⟩ := info97
  have hlen := hA.len
  have hcapm := hA.capm
  have hvl : (fcs YA3 ys).length = 1 * 3 := by
    have := fcs_length (t := YA3) rfl (xs := ys) hB.wf
    rw [this, h1]; rfl
  have hdl : (fcs YA3 (xs.drop i)).length = (xs.length - i) * 3 := by
    have := fcs_length (t := YA3) rfl (xs := xs.drop i) (fun x hx => hA.wf x (List.mem_of_mem_drop hx))
    rw [this, List.length_drop]; rfl
  have hdc : ∀ (k : Nat) (u : Value), (fcs YA3 (xs.drop i))[k]? = some u → w.cell? ⟨b, off + i * 3 + k, none⟩ = some u := fun k u hk => by
    have := hA.cell _ _ (fcs_drop rfl hA.wf i (by omega) k u hk)
    rwa [Nat.add_assoc]
  obtain ⟨vs, hvs⟩ : ∃ vs, vs = fcs YA3 ys := ⟨_, rfl⟩
  obtain ⟨ds, hds⟩ : ∃ ds, ds = fcs YA3 (xs.drop i) := ⟨_, rfl⟩
  have hvc : ∀ (j : Nat) (u : Value), vs[j]? = some u → w.cell? ⟨vb, voff + j, none⟩ = some u := fun j u hj => hB.cell j u (by rw [← hvs]; exact hj)
  have s1 : ∀ u ∈ ds, u.oneCell' = true := by rw [hds]; exact fcells_ones rfl _
  have s2 : ∀ u ∈ vs, u.oneCell' = true := by rw [hvs]; exact fcells_ones rfl _
  rw [← hvs] at hvl ⊢
  rw [← hds] at hdl hdc ⊢
  have hle : (xs.length + 1) * 3 ≤ cap * 3 := Nat.mul_le_mul_right _ hroom
  have A0 : ∀ k, k < cap * 3 → (w.cell? ⟨b, off + k, none⟩).isSome = true ∧ w.frozen? ⟨b, off + k, none⟩ = false := fun k hk => ⟨hA.some' k hk, hA.unfrozen k hk⟩
  have hsb : w.shape? b = some (ty, cur.size) := by simp only [World.shape?, hA.blk]
  have hsa : w.shape? vb = some (vty, vcur.size) := by simp only [World.shape?, hB.blk]
  have hkB : cur.size ≠ 0 := by have := hA.fit; simp only [show Ty.size YA3 = 3 from rfl] at this; omega
  have hfa : w.frozen? ⟨vb, voff, none⟩ = false := by have := hB.unfrozen 0 (by have := hB.len; simp only [show Ty.size YA3 = 3 from rfl]; omega); exact this
  have hfe : w.frozen? ⟨vb, vcur.size, none⟩ = false := frozen_end97 hB
  have hov : ∀ lb cb, (callFunc 127 #[.slice (some ⟨vb, voff, none⟩) 1 vcap, .slice (some ⟨b, off + (i + 1) * 3, none⟩) lb cb]).run Tryz.prog w = .ok (.value (.bool false)) w := fun lb cb => by
    rw [run_callFunc_extern Tryz.func127 (by kernel_rfl) (by kernel_rfl) (by kernel_rfl) (e := Extern.SlicesOverlaps.overlaps #[24, 24] #[4]) (by kernel_rfl),
      Lib.run_overlaps_apart w 24 4 58 Tryz.underlying24 3 (fun w => by simp [Go.sizeOf, typeInfo, hi0, hz1]) ⟨vb, voff, none⟩ ⟨b, off + (i + 1) * 3, none⟩ 1 vcap lb cb hvb vty ty vcur.size cur.size hsa hsb hkB hfa hfe]
    rfl
  have e1 : (i + 1) * 3 + (xs.length - i) * 3 = xs.length * 3 + 3 := by rw [← Nat.add_mul, ← Nat.succ_mul]; congr 1; omega
  have e2 : (i + 1) * 3 = i * 3 + 3 := Nat.succ_mul _ _
  have hcp1 : ∀ ty dc sc, (Builtin.copy_ #[24, 24] ty #[.slice (some ⟨b, off + (i + 1) * 3, none⟩) (xs.length - i) dc, .slice (some ⟨b, off + i * 3, none⟩) (xs.length + 1 - i) sc]).run Tryz.prog w.drew = .ok (goInt (Nat.min (xs.length + 1 - i) (xs.length - i))) (w.drew.setCells b (off + (i + 1) * 3) ds) := fun ty dc sc =>
    run_copy_k w.drew _ _ ty 58 3 b (off + (i + 1) * 3) (xs.length - i) dc ⟨b, off + i * 3, none⟩ (xs.length + 1 - i) sc ds Tryz.underlying24 hzm (by rw [hdl]; congr 1; simp only [Nat.min_def]; split <;> omega)
      (fun j v hj => by rw [Addr.add_lit]; exact hdc j v hj)
      (fun j hj => by rw [Nat.add_assoc]; exact (A0 _ (by omega)).1) (fun j hj => by rw [Nat.add_assoc]; exact (A0 _ (by omega)).2) s1
  obtain ⟨W1, hW1⟩ : ∃ W1, W1 = w.drew.setCells b (off + (i + 1) * 3) ds := ⟨_, rfl⟩
  have hcp2 : ∀ (W : World), (∀ x, W.cell? x = W1.cell? x) → (∀ x, W.frozen? x = W1.frozen? x) → ∀ ty dc, (Builtin.copy_ #[24, 24] ty #[.slice (some ⟨b, off + i * 3, none⟩) (xs.length + 1 - i) dc, .slice (some ⟨vb, voff, none⟩) 1 vcap]).run Tryz.prog W = .ok (goInt (Nat.min 1 (xs.length + 1 - i))) (W.setCells b (off + i * 3) vs) := fun W hWc hWf ty dc =>
    run_copy_k W _ _ ty 58 3 b (off + i * 3) (xs.length + 1 - i) dc ⟨vb, voff, none⟩ 1 vcap vs Tryz.underlying24 hzm (by rw [hvl]; congr 1; simp only [Nat.min_def]; split <;> omega)
      (fun j v hj => by
        rw [Addr.add_lit, hWc, hW1, World.cell?_setCells_out b _ _ _ _ (fun h _ => absurd h hvb)]
        exact hvc j v hj)
      (fun j hj => by rw [hWc, hW1]; exact isSome_put _ _ _ _ _ (by rw [Nat.add_assoc]; exact (A0 _ (by omega)).1)) (fun j hj => by rw [hWf, hW1, World.frozen?_setCells, Nat.add_assoc]; exact (A0 _ (by omega)).2) s2
  have N : Aside (W1 = w.drew.setCells b (off + (i + 1) * 3) ds) := hW1
  rw [← hW1] at hcp1
  have hz2 : ¬ ((i : Int) = (xs.length : Int)) := by omega
  have hw1 : IntKind.i64.wrap ((i : Int) + 1) = (i : Int) + 1 := by unfold maxLen at hcapm; rw [IntKind.wrap_i64]; omega
  have hw2 : IntKind.i64.wrap ((xs.length : Int) + 1) = (xs.length : Int) + 1 := by unfold maxLen at hcapm; rw [IntKind.wrap_i64]; omega
  have hb1 : (0 : Int) ≤ (i : Int) + 1 := by omega
  have hin : i ≤ xs.length := by omega
  have htn : ((i : Int) + 1).toNat = i + 1 := by omega
  have htn2 : ((xs.length : Int) + 1).toNat = xs.length + 1 := by omega
  have hb2 : ¬ (cap = i + 1) := by omega
  have hb3 : (i : Int) ≤ (xs.length : Int) + 1 := by omega
  have hb4 : ¬ (cap = i) := by omega
  have hb5 : ¬ ((cap : Int) < (xs.length : Int) + 1) := by omega
  clear hW1 s1 s2 hvc hvs hds hdc hdl hvl A0 hsb hsa hkB hfa hfe hzc hz0 hA hB e1 e2
  go_enter Tryz.func97, Tryz.ntmps97
  go_wp2_with (simp only [hov])
  go_region_law_o (refine scp97 rfl _ _ 24 24 rfl _ _ (by simp [Act.eval, Act.put]) (by simp [Act.eval, Act.put]) (hcp1 _ _ _) ?_)
  go_wp2_with (at_builtin; refine lcp97 _ rfl _ _ 24 24 rfl _ _ rfl rfl (hcp2 _ (fun _ => rfl) (fun _ => rfl) _ _) ?_)
  go_ret
  exact ⟨rfl, 1, by rw [N.out]; rfl⟩
open Go.RowKit in
set_option maxHeartbeats 8000000 in
theorem grow97 (w : World) (xs ys : List TyB1) (b off cap : Nat) (cur : Array Value) (ty : TypeId) (fz : Nat × Nat) (vb voff vcap : Nat) (vcur : Array Value) (vty : TypeId) (vfz : Nat × Nat) (i : Nat) (hA : OwnAt w YA3 xs b off cap cur ty fz) (hB : OwnAt w YA3 ys vb voff vcap vcur vty vfz) (h1 : ys.length = 1) (hvb : vb ≠ b) (hi : i < xs.length) (hroom : cap < xs.length + 1) (hmax : xs.length ≤ 1048576) :
      Calls Tryz.prog 97 #[.slice (some ⟨b, off, none⟩) xs.length cap, .int .i64 i, .slice (some ⟨vb, voff, none⟩) 1 vcap] w fun r w' => ∃ v', r = .returned v' ∧ w'.ownsRow w.heap.size 58 (Ty.size YA3) v' (xs.length + 1) (fcs YA3 (xs.take i ++ (ys ++ xs.drop i))) ∧ Below w.heap.size w w' := by
  have mixed := mixed
  obtain ⟨i0, z, hi0, hz1, hz0, hzc, hzm, by', hb1, hb2, hb3⟩ := info97
  have hlen := hA.len
  have hcapm := hA.capm
  have hvl : (fcs YA3 ys).length = 1 * 3 := by
    have := fcs_length (t := YA3) rfl (xs := ys) hB.wf
    rw [this, h1]; rfl
  have hdl : (fcs YA3 (xs.drop i)).length = (xs.length - i) * 3 := by
    have := fcs_length (t := YA3) rfl (xs := xs.drop i) (fun x hx => hA.wf x (List.mem_of_mem_drop hx))
    rw [this, List.length_drop]; rfl
  have htl : (fcs YA3 (xs.take i)).length = i * 3 := by
    have := fcs_length (t := YA3) rfl (xs := xs.take i) (fun x hx => hA.wf x (List.mem_of_mem_take hx))
    rw [this, List.length_take, Nat.min_eq_left (by omega)]; rfl
  have hdc : ∀ (k : Nat) (u : Value), (fcs YA3 (xs.drop i))[k]? = some u → w.cell? ⟨b, off + i * 3 + k, none⟩ = some u := fun k u hk => by
    have := hA.cell _ _ (fcs_drop rfl hA.wf i (by omega) k u hk)
    rwa [Nat.add_assoc]
  have htc : ∀ (k : Nat) (u : Value), (fcs YA3 (xs.take i))[k]? = some u → w.cell? ⟨b, off + k, none⟩ = some u := fun k u hk => hA.cell _ _ (fcs_take rfl hA.wf i k u hk)
  have hbw := hA.lt
  have hvw := hB.lt
  obtain ⟨vs, hvs⟩ : ∃ vs, vs = fcs YA3 ys := ⟨_, rfl⟩
  obtain ⟨ds, hds⟩ : ∃ ds, ds = fcs YA3 (xs.drop i) := ⟨_, rfl⟩
  obtain ⟨ts, hts⟩ : ∃ ts, ts = fcs YA3 (xs.take i) := ⟨_, rfl⟩
  have hvc : ∀ (j : Nat) (u : Value), vs[j]? = some u → w.cell? ⟨vb, voff + j, none⟩ = some u := fun j u hj => hB.cell j u (by rw [← hvs]; exact hj)
  have s1 : ∀ u ∈ ds, u.oneCell' = true := by rw [hds]; exact fcells_ones rfl _
  have s2 : ∀ u ∈ vs, u.oneCell' = true := by rw [hvs]; exact fcells_ones rfl _
  rw [fcs_append, fcs_append, ← hvs, ← hds, ← hts]
  rw [← hvs] at hvl
  rw [← hds] at hdl hdc
  rw [← hts] at htl htc
  have hbig : (xs.length + 1) * i0.bytes ≤ 140737488355328 := by
    have : (xs.length + 1) * i0.bytes ≤ 1048577 * i0.bytes := Nat.mul_le_mul_right _ (by omega)
    rw [Nat.mul_comm 1048577] at this
    omega
  have hkk : (xs.length : Int) + 1 - (i : Int) = ((xs.length + 1 - i : Nat) : Int) := by omega
  have hik : i + (xs.length + 1 - i) = xs.length + 1 := by omega
  have hold : (Builtin.firstCells i0.size i (.slice (some ⟨b, off, none⟩) i cap)).run Tryz.prog w.drew = .ok ts.toArray w.drew := by
    rw [hz1]
    exact run_firstCells_some w.drew 3 i ⟨b, off, none⟩ i cap ts htl (fun j v hj => by rw [Addr.add_lit]; exact htc j v hj)
  have h48 : (xs.length + 1 - i) * i0.bytes ≤ 281474976710656 := by
    have : (xs.length + 1 - i) * i0.bytes ≤ (xs.length + 1) * i0.bytes := Nat.mul_le_mul_right _ (by omega)
    omega
  have hrz : ∀ ty, (Builtin.append_ #[24, 3] ty #[.slice (some ⟨b, off, none⟩) i cap, .int .i64 ((xs.length : Int) + 1 - (i : Int))]).run Tryz.prog w =
      .ok (.slice (some ⟨w.heap.size, 0, none⟩) (xs.length + 1) (grownCap w (xs.length + 1) cap 58)) (w.drew.alloc (.cells (ts.toArray ++ Builtin.zeroCells z.cells (xs.length + 1 - i) ++ Builtin.zeroCells z.cells (grownCap w (xs.length + 1) cap 58 - (xs.length + 1))) 58)) := fun ty => by
    have h := Lib.run_append_grow_zeros w 24 3 ty 58 i0 z .i64 .i64 Tryz.underlying24 Tryz.underlying3 hi0 hz0 (some ⟨b, off, none⟩) i cap ts hold (xs.length + 1 - i) (by omega) (by omega) (by omega) (by omega) h48 (by rw [hik]; exact growslice_fits hroom hbig)
    rw [hik] at h
    rw [hkk]
    exact h
  have hge := grownCap_ge w (xs.length + 1) cap 58
  have hgm := grownCap_le_maxLen w (xs.length + 1) cap 58 (by unfold maxLen; omega)
  obtain ⟨G, hG⟩ : ∃ G, G = grownCap w (xs.length + 1) cap 58 := ⟨_, rfl⟩
  rw [← hG] at hrz hge hgm
  obtain ⟨ROW, hROW⟩ : ∃ ROW : Array Value, ROW = ts.toArray ++ Builtin.zeroCells z.cells (xs.length + 1 - i) ++ Builtin.zeroCells z.cells (G - (xs.length + 1)) := ⟨_, rfl⟩
  rw [← hROW] at hrz
  have hzs : ∀ k, (Builtin.zeroCells z.cells k).size = k * 3 := fun k => by
    rw [← Array.length_toList, hzc, zeroCells_k]; simp [dcells]
  have hRs : ROW.size = G * 3 := by
    rw [hROW, Array.size_append, Array.size_append, List.size_toArray, htl, hzs, hzs, ← Nat.add_mul, hik, ← Nat.add_mul]
    congr 1; omega
  have hRt : ∀ (k : Nat) (u : Value), ts[k]? = some u → ROW[k]? = some u := fun k u hk => by
    have hlt := (List.getElem?_eq_some_iff.1 hk).1
    rw [hROW, Array.append_assoc, Array.getElem?_append_left (by simpa using hlt)]
    simpa using hk
  have hmul : (xs.length + 1) * 3 ≤ G * 3 := Nat.mul_le_mul_right _ hge
  obtain ⟨W1, hW1⟩ : ∃ W1, W1 = w.drew.alloc (.cells ROW 58) := ⟨_, rfl⟩
  rw [← hW1] at hrz
  have hblk : W1.heap[w.heap.size]? = some (.cells ROW 58 (0, 0)) := by rw [hW1]; exact heap_alloc_new w.drew _
  have hN : ∀ j, j < G * 3 → (W1.cell? ⟨w.heap.size, j, none⟩).isSome = true := fun j hj => by
    simp only [World.cell?, hblk]; rw [Array.getElem?_eq_getElem (by omega)]; rfl
  have hNf : ∀ j, W1.frozen? ⟨w.heap.size, j, none⟩ = false := fun j => by
    simp only [World.frozen?, hblk]; simp
  have hOld : ∀ k, k < w.heap.size → W1.heap[k]? = w.heap[k]? := fun k hk => by rw [hW1]; exact heap_alloc_old w.drew _ hk
  have hOb : ∀ j v, w.cell? ⟨b, j, none⟩ = some v → W1.cell? ⟨b, j, none⟩ = some v := fun j v h => by simp only [World.cell?] at h ⊢; rw [hOld b hbw]; exact h
  have hOv : ∀ j v, w.cell? ⟨vb, j, none⟩ = some v → W1.cell? ⟨vb, j, none⟩ = some v := fun j v h => by simp only [World.cell?] at h ⊢; rw [hOld vb hvw]; exact h
  have hbN : b ≠ w.heap.size := by omega
  have e2 : (i + 1) * 3 = i * 3 + 3 := Nat.succ_mul _ _
  have e1 : (i + 1) * 3 + (xs.length - i) * 3 = (xs.length + 1) * 3 := by rw [← Nat.add_mul]; congr 1; omega
  have hcpA : ∀ (W : World), (∀ x, W.cell? x = W1.cell? x) → (∀ x, W.frozen? x = W1.frozen? x) → ∀ ty dc, (Builtin.copy_ #[24, 24] ty #[.slice (some ⟨w.heap.size, i * 3, none⟩) (xs.length + 1 - i) dc, .slice (some ⟨vb, voff, none⟩) 1 vcap]).run Tryz.prog W = .ok (goInt (Nat.min 1 (xs.length + 1 - i))) (W.setCells w.heap.size (i * 3) vs) := fun W hWc hWf ty dc =>
    run_copy_k W _ _ ty 58 3 w.heap.size (i * 3) (xs.length + 1 - i) dc ⟨vb, voff, none⟩ 1 vcap vs Tryz.underlying24 hzm (by rw [hvl]; congr 1; simp only [Nat.min_def]; split <;> omega)
      (fun j v hj => by rw [Addr.add_lit, hWc]; exact hOv _ v (hvc j v hj))
      (fun j hj => by rw [hWc]; exact hN _ (by omega)) (fun j hj => by rw [hWf]; exact hNf _) s2
  have hcpB : ∀ (W : World), (∀ x, W.cell? x = (W1.setCells w.heap.size (i * 3) vs).cell? x) → (∀ x, W.frozen? x = (W1.setCells w.heap.size (i * 3) vs).frozen? x) → ∀ ty dc sc, (Builtin.copy_ #[24, 24] ty #[.slice (some ⟨w.heap.size, (i + 1) * 3, none⟩) (xs.length - i) dc, .slice (some ⟨b, off + i * 3, none⟩) (xs.length - i) sc]).run Tryz.prog W = .ok (goInt (Nat.min (xs.length - i) (xs.length - i))) (W.setCells w.heap.size ((i + 1) * 3) ds) := fun W hWc hWf ty dc sc =>
    run_copy_k W _ _ ty 58 3 w.heap.size ((i + 1) * 3) (xs.length - i) dc ⟨b, off + i * 3, none⟩ (xs.length - i) sc ds Tryz.underlying24 hzm (by rw [hdl]; congr 1; simp only [Nat.min_def]; split <;> omega)
      (fun j v hj => by
        rw [Addr.add_lit, hWc, World.cell?_setCells_out _ _ _ _ _ (fun h _ => absurd h hbN)]
        exact hOb _ v (hdc j v hj))
      (fun j hj => by rw [hWc]; exact isSome_put _ _ _ _ _ (hN _ (by omega)))
      (fun j hj => by rw [hWf, World.frozen?_setCells]; exact hNf _) s1
  -- what the new row holds at the end
  have fin : ∀ q1 q2 : Nat, (((W1.drewN q1).setCells w.heap.size (i * 3) vs).drewN q2 |>.setCells w.heap.size ((i + 1) * 3) ds).ownsRow w.heap.size 58 (Ty.size YA3) (.slice (some ⟨w.heap.size, 0, none⟩) (xs.length + 1) G) (xs.length + 1) (ts ++ (vs ++ ds)) ∧
      Below w.heap.size w (((W1.drewN q1).setCells w.heap.size (i * 3) vs).drewN q2 |>.setCells w.heap.size ((i + 1) * 3) ds) := fun q1 q2 => by
    have el : (ts ++ (vs ++ ds)).length = (xs.length + 1) * 3 := by
      rw [List.length_append, List.length_append, htl, hvl, hdl, ← Nat.add_mul, ← Nat.add_mul]; congr 1; omega
    have l1 : i * 3 + vs.length ≤ ROW.size := by rw [hvl, hRs]; omega
    obtain ⟨c1, g1, g2, g3, g4, g5, g6⟩ := setCells_block vs (show (W1.drewN q1).heap[w.heap.size]? = some (.cells ROW 58 (0, 0)) from hblk) l1
    have l2 : (i + 1) * 3 + ds.length ≤ c1.size := by rw [hdl, g2, hRs]; omega
    obtain ⟨c2, k1, k2, k3, k4, k5, k6⟩ := setCells_block ds (show (((W1.drewN q1).setCells w.heap.size (i * 3) vs).drewN q2).heap[w.heap.size]? = some (.cells c1 58 (0, 0)) from g1) l2
    have kA := setCells_kept vs (show (W1.drewN q1).heap[w.heap.size]? = some (.cells ROW 58 (0, 0)) from hblk) l1
    have kB := setCells_kept ds (show (((W1.drewN q1).setCells w.heap.size (i * 3) vs).drewN q2).heap[w.heap.size]? = some (.cells c1 58 (0, 0)) from g1) l2
    have kAll : Kept [w.heap.size] w (((W1.drewN q1).setCells w.heap.size (i * 3) vs).drewN q2 |>.setCells w.heap.size ((i + 1) * 3) ds) := by
      have k0 : Kept [w.heap.size] w W1 := by rw [hW1]; exact ((Kept.refl _ w).drew).alloc _
      have k1 : Kept [w.heap.size] W1 (W1.drewN q1) := ⟨rfl, rfl, rfl, Nat.le_refl _, fun _ _ _ => rfl⟩
      have k2 : Kept [w.heap.size] ((W1.drewN q1).setCells w.heap.size (i * 3) vs) (((W1.drewN q1).setCells w.heap.size (i * 3) vs).drewN q2) := ⟨rfl, rfl, rfl, Nat.le_refl _, fun _ _ _ => rfl⟩
      exact ((k0.trans k1).trans (kA.trans k2)).trans kB
    refine ⟨⟨el, .inr ⟨w.heap.size, G, c2, rfl, Nat.le_refl _, k1, hge, hgm, by rw [k2, g2, hRs]; rfl, ?_⟩⟩, ⟨kAll.os, kAll.tape, kAll.output, kAll.size, fun k hk => kAll.block k hk (by simp; omega)⟩⟩
    apply List.ext_getElem?
    intro k
    rw [List.getElem?_take]
    by_cases hk : k < (xs.length + 1) * 3
    · rw [if_pos (show k < (xs.length + 1) * Ty.size YA3 from hk), Array.getElem?_toList]
      have hk' : k < (ts ++ (vs ++ ds)).length := by rw [el]; exact hk
      obtain ⟨u, hu⟩ : ∃ u, (ts ++ (vs ++ ds))[k]? = some u := ⟨_, List.getElem?_eq_getElem hk'⟩
      rw [hu]
      by_cases h1 : k < i * 3
      · rw [List.getElem?_append_left (by omega)] at hu
        rw [k4 _ (.inl (by omega)), g4 _ (.inl (by omega))]
        exact hRt k u hu
      · rw [List.getElem?_append_right (by omega), htl] at hu
        by_cases h2 : k < i * 3 + 3
        · rw [List.getElem?_append_left (by omega)] at hu
          have := g3 _ u hu
          rw [k4 _ (.inl (by omega))]
          rwa [show i * 3 + (k - i * 3) = k by omega] at this
        · rw [List.getElem?_append_right (by omega), hvl] at hu
          have := k3 _ u hu
          rwa [show (i + 1) * 3 + (k - i * 3 - 1 * 3) = k by omega] at this
    · rw [if_neg (show ¬ k < (xs.length + 1) * Ty.size YA3 from hk), List.getElem?_eq_none (by rw [el]; omega)]
  have F : Aside (∀ q1 q2 : Nat, (((W1.drewN q1).setCells w.heap.size (i * 3) vs).drewN q2 |>.setCells w.heap.size ((i + 1) * 3) ds).ownsRow w.heap.size 58 (Ty.size YA3) (.slice (some ⟨w.heap.size, 0, none⟩) (xs.length + 1) G) (xs.length + 1) (ts ++ (vs ++ ds)) ∧
      Below w.heap.size w (((W1.drewN q1).setCells w.heap.size (i * 3) vs).drewN q2 |>.setCells w.heap.size ((i + 1) * 3) ds)) := fin
  subst hW1
  have hE1 : ∀ x, ((w.alloc (.cells ROW 58)).drew).cell? x = (w.drew.alloc (.cells ROW 58)).cell? x := fun x => rfl
  have hE2 : ∀ x, ((w.alloc (.cells ROW 58)).drew).frozen? x = (w.drew.alloc (.cells ROW 58)).frozen? x := fun x => rfl
  have hF1 : ∀ x, (((w.alloc (.cells ROW 58)).drew.setCells w.heap.size (i * 3) vs).drew).cell? x = ((w.drew.alloc (.cells ROW 58)).setCells w.heap.size (i * 3) vs).cell? x := fun x => rfl
  have hF2 : ∀ x, (((w.alloc (.cells ROW 58)).drew.setCells w.heap.size (i * 3) vs).drew).frozen? x = ((w.drew.alloc (.cells ROW 58)).setCells w.heap.size (i * 3) vs).frozen? x := fun x => rfl
  have hz2 : ¬ ((i : Int) = (xs.length : Int)) := by omega
  have hw1 : IntKind.i64.wrap ((i : Int) + 1) = (i : Int) + 1 := by rw [IntKind.wrap_i64]; omega
  have hw2 : IntKind.i64.wrap ((xs.length : Int) + 1) = (xs.length : Int) + 1 := by rw [IntKind.wrap_i64]; omega
  have hw3 : IntKind.i64.wrap ((xs.length : Int) + 1 - (i : Int)) = (xs.length : Int) + 1 - (i : Int) := by rw [IntKind.wrap_i64]; omega
  have hb1 : (0 : Int) ≤ (i : Int) + 1 := by omega
  have hin : i ≤ xs.length := by omega
  have htn : ((i : Int) + 1).toNat = i + 1 := by omega
  have hGi : ¬ (G = i) := by omega
  have hGim : ¬ (G = i + 1) := by omega
  have hci : ¬ (cap = i) := by omega
  have hb3 : (i : Int) ≤ (xs.length : Int) := by omega
  have hb5 : (cap : Int) < (xs.length : Int) + 1 := by omega
  have hG63 : G ≤ 9223372036854775807 := by unfold maxLen at hgm; exact hgm
  clear hkk hik hold hROW hG hRs hRt hzs hN hNf hOld hOb hOv fin s1 s2 hvc hvs hds hts hdc htc hdl htl hvl hzc hz0 hA hB e1 e2 hmul hblk
  go_enter Tryz.func97, Tryz.ntmps97
  go_wp2_with (first
    | (at_builtin; refine Lib.wpList_append_run _ rfl _ _ _ _ rfl _ _ rfl rfl _ _ (hrz _) ?_)
    | (at_builtin; refine lcp97 _ rfl _ _ 24 24 rfl _ _ rfl rfl (hcpA _ hE1 hE2 _ _) ?_)
    | (at_builtin; refine lcp97 _ rfl _ _ 24 24 rfl _ _ rfl rfl (hcpB _ (fun _ => rfl) (fun _ => rfl) _ _ _) ?_))
  go_region_law_o (refine scp97 rfl _ _ 24 24 rfl (.slice (some ⟨w.heap.size, (i + 1) * 3, none⟩) (xs.length - i) (G - (i + 1))) (.slice (some ⟨b, off + i * 3, none⟩) (xs.length - i) (cap - i)) (by simp [Act.eval, Act.put]) (by simp [Act.eval, Act.put]) (hcpB _ hF1 hF2 3 (G - (i + 1)) (cap - i)) ?_)
  go_wp2
  go_ret
  exact ⟨_, rfl, (F.out 0 1).1, (F.out 0 1).2⟩
def sig97 : List AT := [AT.own YA3, AT.v (Ty.int .i64), AT.own YA3]
def g97_0 (x0 : List TyB1) (x1 : Int) (x2 : List TyB1) : List TyB1 := x0.take x1.toNat ++ (x2 ++ x0.drop x1.toNat)
def P97 (x0 : List TyB1) (x1 : Int) (x2 : List TyB1) : Prop := 0 ≤ x1 ∧ x1 ≤ x0.length ∧ x2.length = 1 ∧ x0.length ≤ 1048576
def S97 : Am.Spec := { sig := sig97, pre := fun ⟨x0, x1, x2, _⟩ => P97 x0 x1 x2, upd := fun _ => [none, none], res := fun ⟨x0, x1, x2, _⟩ => [⟨Ty.sl YA3, g97_0 x0 x1 x2⟩] }
theorem con97 : Contract Tryz.prog 97 S97 := insert_contract (t := YA3) (e := 58) rfl shift97 grow97 end97 last97
noncomputable section
def ext61 : Ext := [(95, S95), (96, S96), (97, S97)]
theorem ext61Ok : ExtOk Tryz.prog ext61 := ⟨⟨ca95, con95⟩, ⟨ca96, con96⟩, ⟨ca97, con97⟩, trivial⟩
noncomputable def b61 : Code := bodyOf Tryz.f61
theorem hb61 : Tryz.f61.body = some b61 := by kernel_rfl
def sig61 : List AT := [AT.v (Ty.sl YA3), AT.v YA3]
def tys61 : List Ty := [Ty.sl YA3]
def kds61 : List RK := []
def oks61 : List AT := owns sig61
def P61 (x0 : List TyB1) (x1 : ByteArray × ByteArray × ByteArray × Unit) : Prop := ((P95 x0) ∧ ((P96 (g95_0 x0) x1) ∧ (if (g96_1 (g95_0 x0) x1) = true then ((0 ≤ g96_0 (g95_0 x0) x1) ∧ (g96_0 (g95_0 x0) x1 < (↑(List.length (g95_0 x0)) : Int)) ∧ True) else ((P97 (g95_0 x0) (g96_0 (g95_0 x0) x1) [x1]) ∧ True))))
def g61_0 (x0 : List TyB1) (x1 : ByteArray × ByteArray × ByteArray × Unit) : List TyB1 := (if (g96_1 (g95_0 x0) x1) = true then List.set (g95_0 x0) (Int.toNat (g96_0 (g95_0 x0) x1)) x1 else g97_0 (g95_0 x0) (g96_0 (g95_0 x0) x1) [x1])
theorem at61 (x0 : List TyB1) (x1 : ByteArray × ByteArray × ByteArray × Unit) (h : P61 x0 x1) (K : Ctx) (q : Nat → Value) : AtV Tryz.prog 61 (PostR kds61 oks61 [⟨Ty.sl YA3, g61_0 x0 x1⟩] [] [] q K) 27 K q [] [.code b61] (entE 0 0 sig61 (x0, x1, ())) (entL sig61 (x0, x1, ())) := by
  unfold P61 at h
  unfold g61_0
  obtain ⟨s0, h⟩ := h
  obtain ⟨s1, h⟩ := h
  by_cases b0 : (g96_1 (g95_0 x0) x1) = true
  · try simp only [if_pos b0] at h ⊢
    obtain ⟨s2, s3, h⟩ := h
    exact AtV.ret Tryz.func61 tabOk ext61Ok mixed false [] tys61 [true] (a1 s0 (a1 s1 (a1 b0 (a1 s2 (a1 s3 trivial))))) (by kernel_rfl)
  · try simp only [if_neg b0] at h ⊢
    replace b0 := Bool.eq_false_iff.2 b0
    obtain ⟨s2, h⟩ := h
    exact AtV.ret Tryz.func61 tabOk ext61Ok mixed false [] tys61 [false] (a1 s0 (a1 s1 (a1 b0 (a1 s2 trivial)))) (by kernel_rfl)
def S61 : Am.Spec := { sig := sig61, pre := fun ⟨x0, x1, _⟩ => P61 x0 x1, res := fun ⟨x0, x1, _⟩ => [⟨Ty.sl YA3, g61_0 x0 x1⟩], kds := kds61 }
theorem con61 : Contract Tryz.prog 61 S61 := contract_of Tryz.func61 hb61 (Nat.le_of_ble_eq_true (by kernel_rfl)) (fun ⟨x0, x1, _⟩ h _ K q => at61 x0 x1 h K q)
theorem bsb61 (p : Nat → Bool) : ∀ (m i j : Nat), i ≤ j → i ≤ bsearch p m i j ∧ bsearch p m i j ≤ j
  | 0, i, j, h => ⟨Nat.le_refl _, h⟩
  | m + 1, i, j, h => by
    simp only [bsearch]
    split
    · split
      · have := bsb61 p m ((i + j) / 2 + 1) j (by omega); omega
      · have := bsb61 p m i ((i + j) / 2) (by omega); omega
    · omega
theorem atk61 (x0 : List TyB1) (x1 : TyB1) : 0 ≤ g96_0 x0 x1 ∧ g96_0 x0 x1 ≤ x0.length ∧ (g96_1 x0 x1 = true → g96_0 x0 x1 < x0.length) := by
  have := bsb61 (p126c32 x0 x1) (x0.length + 1) 0 x0.length (by omega)
  unfold g96_0 g96_1 g126c32_0 g126c32_1 f126c32
  unfold k126c32 at *
  refine ⟨by omega, by omega, fun h => ?_⟩
  split at h
  · omega
  · cases h
theorem pre61 (x0 : List TyB1) (x1 : TyB1) (hl : x0.length ≤ 1048576) : P61 x0 x1 := by
  obtain ⟨a1, a2, a3⟩ := atk61 x0 x1
  have p1 : P95 x0 := hl
  have p2 : P96 x0 x1 := ⟨(show x0.length ≤ 4611686018427387903 from by omega), trivial⟩
  unfold P61
  refine ⟨p1, p2, ?_⟩
  by_cases h : g96_1 (g95_0 x0) x1 = true
  · rw [if_pos h]
    exact ⟨a1, a3 h, trivial⟩
  · rw [if_neg h]
    exact ⟨⟨a1, a2, rfl, hl⟩, trivial⟩
end
noncomputable section
def ext35 : Ext := [(20, S20), (48, S48), (61, S61)]
theorem ext35Ok : ExtOk Tryz.prog ext35 := ⟨⟨ca20, con20⟩, ⟨ca48, con48⟩, ⟨ca61, con61⟩, trivial⟩
noncomputable def b35 : Code := bodyOf Tryz.f35
theorem hb35 : Tryz.f35.body = some b35 := by kernel_rfl
def sig35 : List AT := [AT.v (Ty.sl YA3), AT.v YA3]
def tys35 : List Ty := [Ty.sl YA3, Ty.int .i64]
def kds35 : List RK := []
def oks35 : List AT := owns sig35
def P35 (x0 : List TyB1) (x1 : ByteArray × ByteArray × ByteArray × Unit) : Prop := (if (!g20_0 x0) = true then True else ((P48 x1) ∧ (if (!g48_0 x1) = true then True else ((P61 x0 x1) ∧ True))))
def g35_0 (x0 : List TyB1) (x1 : ByteArray × ByteArray × ByteArray × Unit) : List TyB1 := (if (!g20_0 x0) = true then [] else (if (!g48_0 x1) = true then [] else (if (decide ((↑(List.length (g61_0 x0 x1)) : Int) > 32)) = true then [] else g61_0 x0 x1)))
def g35_1 (x0 : List TyB1) (x1 : ByteArray × ByteArray × ByteArray × Unit) : Int := (if (!g20_0 x0) = true then 1 else (if (!g48_0 x1) = true then 1 else (if (decide ((↑(List.length (g61_0 x0 x1)) : Int) > 32)) = true then 5 else 0)))
theorem at35 (x0 : List TyB1) (x1 : ByteArray × ByteArray × ByteArray × Unit) (h : P35 x0 x1) (K : Ctx) (q : Nat → Value) : AtV Tryz.prog 35 (PostR kds35 oks35 [⟨Ty.sl YA3, g35_0 x0 x1⟩, ⟨Ty.int .i64, g35_1 x0 x1⟩] [] [] q K) 22 K q [] [.code b35] (entE 0 0 sig35 (x0, x1, ())) (entL sig35 (x0, x1, ())) := by
  unfold P35 at h
  unfold g35_0 g35_1
  by_cases b0 : (!g20_0 x0) = true
  · try simp only [if_pos b0] at h ⊢
    exact AtV.ret Tryz.func35 tabOk ext35Ok mixed false [] tys35 [true, true] (a1 trivial (a1 b0 (a1 (rfl : true = true) trivial))) (by kernel_rfl)
  · try simp only [if_neg b0] at h ⊢
    replace b0 := Bool.eq_false_iff.2 b0
    obtain ⟨s0, h⟩ := h
    by_cases b1 : (!g48_0 x1) = true
    · try simp only [if_pos b1] at h ⊢
      exact AtV.ret Tryz.func35 tabOk ext35Ok mixed false [] tys35 [false, true] (a1 trivial (a1 b0 (a1 s0 (a1 b1 trivial)))) (by kernel_rfl)
    · try simp only [if_neg b1] at h ⊢
      replace b1 := Bool.eq_false_iff.2 b1
      obtain ⟨s1, h⟩ := h
      by_cases b2 : (decide ((↑(List.length (g61_0 x0 x1)) : Int) > 32)) = true
      · try simp only [if_pos b2] at h ⊢
        exact AtV.ret Tryz.func35 tabOk ext35Ok mixed false [] tys35 [false, false, true] (a1 trivial (a1 b0 (a1 s0 (a1 b1 (a1 s1 (a1 b2 trivial)))))) (by kernel_rfl)
      · try simp only [if_neg b2] at h ⊢
        replace b2 := Bool.eq_false_iff.2 b2
        exact AtV.ret Tryz.func35 tabOk ext35Ok mixed false [] tys35 [false, false, false] (a1 trivial (a1 b0 (a1 s0 (a1 b1 (a1 s1 (a1 b2 trivial)))))) (by kernel_rfl)
def S35 : Am.Spec := { sig := sig35, pre := fun ⟨x0, x1, _⟩ => P35 x0 x1, res := fun ⟨x0, x1, _⟩ => [⟨Ty.sl YA3, g35_0 x0 x1⟩, ⟨Ty.int .i64, g35_1 x0 x1⟩], kds := kds35 }
theorem con35 : Contract Tryz.prog 35 S35 := contract_of Tryz.func35 hb35 (Nat.le_of_ble_eq_true (by kernel_rfl)) (fun ⟨x0, x1, _⟩ h _ K q => at35 x0 x1 h K q)
end
noncomputable section
def ext9 : Ext := [(33, S33), (31, S31), (35, S35)]
theorem ext9Ok : ExtOk Tryz.prog ext9 := ⟨⟨ca33, con33⟩, ⟨ca31, con31⟩, ⟨ca35, con35⟩, trivial⟩
noncomputable def b9 : Code := bodyOf Tryz.f9
theorem hb9 : Tryz.f9.body = some b9 := by kernel_rfl
def sig9 : List AT := [AT.v (Ty.str)]
def tys9 : List Ty := [Ty.sl YA3]
def kds9 : List RK := []
def oks9 : List AT := owns sig9
def E9_4 (v19 : Int) (h0 : List TyB1) (x0 : ByteArray) : Env := [(5, PV.a (Atom.osl 0 Option.none)), (17, PV.a (Atom.osl 1 Option.none)), (18, PV.a (Atom.val (Value.int .i64 (↑(List.length (g33_0 x0)) : Int)))), (19, PV.a (Atom.val (Value.int .i64 v19)))]
def L9_4 (v19 : Int) (h0 : List TyB1) (x0 : ByteArray) : Heap := [Option.some (Arr.mk YA3 h0 false Option.none Option.none), Option.some (Arr.mk Ty.str (g33_0 x0) false Option.none Option.none)]
mutual
def R9 : Nat → ByteArray → List Dyn → Prop
  | 0, _, _ => False
  | n + 1, x0, ds => ((P33 x0) ∧ (R9_4 n (0) ([]) (x0) ds))
def R9_4 : Nat → Int → List TyB1 → ByteArray → List Dyn → Prop
  | 0, _, _, _, _ => False
  | n + 1, v19, h0, x0, ds => (if (decide (v19 < (↑(List.length (g33_0 x0)) : Int))) = true then ((0 ≤ v19) ∧ (v19 < (↑(List.length (g33_0 x0)) : Int)) ∧ ((P31 (List.getD (g33_0 x0) (Int.toNat v19) ByteArray.empty)) ∧ (if (v19 == 0) = true then ((InR .i64 (v19 + 1)) ∧ (R9_4 n (v19 + 1) (h0) (x0) ds)) else (if (g31_1 (List.getD (g33_0 x0) (Int.toNat v19) ByteArray.empty) != 0) = true then ((InR .i64 (v19 + 1)) ∧ (R9_4 n (v19 + 1) (h0) (x0) ds)) else ((P35 h0 (g31_0 (List.getD (g33_0 x0) (Int.toNat v19) ByteArray.empty))) ∧ (if (g35_1 h0 (g31_0 (List.getD (g33_0 x0) (Int.toNat v19) ByteArray.empty)) == 0) = true then ((InR .i64 (v19 + 1)) ∧ (R9_4 n (v19 + 1) (g35_0 h0 (g31_0 (List.getD (g33_0 x0) (Int.toNat v19) ByteArray.empty))) (x0) ds)) else ((InR .i64 (v19 + 1)) ∧ (R9_4 n (v19 + 1) (h0) (x0) ds)))))))) else (ds = [Dyn.mk (Ty.sl YA3) h0]))
end
theorem snd9 : ∀ n, (∀ (x0 : ByteArray) ds, R9 n x0 ds → ∀ K q, AtV Tryz.prog 9 (PostR kds9 oks9 ds [] [] q K) 46 K q [] [.code b9] (entE 0 0 sig9 (x0, ())) (entL sig9 (x0, ()))) ∧ (∀ (v19 : Int) (h0 : List TyB1) (x0 : ByteArray) ds, R9_4 n v19 h0 x0 ds → ∀ K q, AtV Tryz.prog 9 (PostR kds9 oks9 ds [] [] q K) 46 K q [] (cutAt b9 4) (E9_4 v19 h0 x0) (L9_4 v19 h0 x0)) := by
  intro n
  induction n with
  | zero => exact ⟨fun _ _ h => by simp only [R9] at h, fun _ _ _ _ h => by simp only [R9_4] at h⟩
  | succ n ih =>
  obtain ⟨ih, ih4⟩ := ih
  refine ⟨?_, ?_⟩
  · intro x0 ds h K q
    rw [R9] at h
    obtain ⟨s0, h⟩ := h
    exact AtV.go tabOk ext9Ok mixed false [] [(5, Ty.cons Ty.str YA5)] [5, 17, 18, 19] [1, 0] [] (a1 s0 trivial) (ih4 _ _ _ _ h K q) (by kernel_rfl)
  · intro v19 h0 x0 ds h K q
    rw [R9_4] at h
    by_cases b0 : (decide (v19 < (↑(List.length (g33_0 x0)) : Int))) = true
    · rw [if_pos b0] at h
      obtain ⟨s0, s1, h⟩ := h
      obtain ⟨s2, h⟩ := h
      by_cases b1 : (v19 == 0) = true
      · rw [if_pos b1] at h
        obtain ⟨s3, h⟩ := h
        exact AtV.go tabOk ext9Ok mixed false [] [(5, Ty.cons Ty.str YA5)] [5, 17, 18, 19] [0, 1] [true, true, true] (a1 b0 (a1 s0 (a1 s1 (a1 s2 (a1 b1 (a1 (rfl : true = true) (a1 s3 trivial))))))) (ih4 _ _ _ _ h K q) (by kernel_rfl)
      · rw [if_neg b1] at h
        replace b1 := Bool.eq_false_iff.2 b1
        by_cases b2 : (g31_1 (List.getD (g33_0 x0) (Int.toNat v19) ByteArray.empty) != 0) = true
        · rw [if_pos b2] at h
          obtain ⟨s3, h⟩ := h
          exact AtV.go tabOk ext9Ok mixed false [] [(5, Ty.cons Ty.str YA5)] [5, 17, 18, 19] [0, 1] [true, false, true] (a1 b0 (a1 s0 (a1 s1 (a1 s2 (a1 b1 (a1 b2 (a1 s3 trivial))))))) (ih4 _ _ _ _ h K q) (by kernel_rfl)
        · rw [if_neg b2] at h
          replace b2 := Bool.eq_false_iff.2 b2
          obtain ⟨s3, h⟩ := h
          by_cases b3 : (g35_1 h0 (g31_0 (List.getD (g33_0 x0) (Int.toNat v19) ByteArray.empty)) == 0) = true
          · rw [if_pos b3] at h
            obtain ⟨s4, h⟩ := h
            exact AtV.go tabOk ext9Ok mixed false [] [(5, Ty.cons Ty.str YA5)] [5, 17, 18, 19] [3, 1] [true, false, false, true] (a1 b0 (a1 s0 (a1 s1 (a1 s2 (a1 b1 (a1 b2 (a1 s3 (a1 b3 (a1 s4 trivial))))))))) (ih4 _ _ _ _ h K q) (by kernel_rfl)
          · rw [if_neg b3] at h
            replace b3 := Bool.eq_false_iff.2 b3
            obtain ⟨s4, h⟩ := h
            exact AtV.go tabOk ext9Ok mixed false [] [(5, Ty.cons Ty.str YA5)] [5, 17, 18, 19] [0, 1] [true, false, false, false] (a1 b0 (a1 s0 (a1 s1 (a1 s2 (a1 b1 (a1 b2 (a1 s3 (a1 b3 (a1 s4 trivial))))))))) (ih4 _ _ _ _ h K q) (by kernel_rfl)
    · rw [if_neg b0] at h
      replace b0 := Bool.eq_false_iff.2 b0
      subst h
      exact AtV.ret Tryz.func9 tabOk ext9Ok mixed false [] tys9 [false] (a1 b0 trivial) (by kernel_rfl)
def ls9 (x0 : ByteArray) : List ByteArray := g33_0 x0
def st9 (h : List TyB1) (w : ByteArray) : List TyB1 := if g31_1 w ≠ 0 then h else if g35_1 h (g31_0 w) = 0 then g35_0 h (g31_0 w) else h
def g9_0 (x0 : ByteArray) : List TyB1 := ((ls9 x0).drop 1).foldl st9 []
def P9 (x0 : ByteArray) : Prop := P33 x0 ∧ (ls9 x0).length ≤ 1048577 ∧ ∀ w ∈ ls9 x0, P31 w
theorem put9 (h : List TyB1) (b : TyB1) : P35 h b := by
  unfold P35
  cases hv : g20_0 h with
  | false => rw [if_pos (show (!false) = true from rfl)]; trivial
  | true =>
    have hl : h.length ≤ 32 := by
      unfold g20_0 at hv
      rw [Bool.and_eq_true] at hv
      exact of_decide_eq_true hv.2
    rw [if_neg (show ¬ (!true) = true by decide)]
    refine ⟨pre48 b, ?_⟩
    split
    · trivial
    · exact ⟨pre61 h b (by omega), trivial⟩
theorem run9 (x0 : ByteArray) (hl : (ls9 x0).length ≤ 1048577) (hP : ∀ w ∈ ls9 x0, P31 w) : ∀ (k i : Nat) (h : List TyB1), i + k = (ls9 x0).length → 1 ≤ i →
    R9_4 (k + 1) (i : Int) h x0 [⟨.sl (.cons .str (.cons .str (.cons .str .unit))), ((ls9 x0).drop i).foldl st9 h⟩] := by
  have ew : g33_0 x0 = ls9 x0 := rfl
  intro k
  induction k with
  | zero =>
    intro i h hi h1
    rw [R9_4, ew, if_neg (by simp only [decide_eq_true_eq]; omega), List.drop_of_length_le (by omega)]
    rfl
  | succ k ih =>
    intro i h hi h1
    have hlt : i < (ls9 x0).length := by omega
    have hup : InR .i64 ((i : Int) + 1) := by rw [i64_iff]; omega
    have e1 : (i : Int) + 1 = ((i + 1 : Nat) : Int) := by omega
    have hb := hP _ (mem_getD (ls9 x0) i ByteArray.empty hlt)
    obtain ⟨w, hw⟩ : ∃ w, (ls9 x0).getD i ByteArray.empty = w := ⟨_, rfl⟩
    have hd : (ls9 x0).drop i = w :: (ls9 x0).drop (i + 1) := by rw [drop_get (ls9 x0) i ByteArray.empty hlt, hw]
    rw [hw] at hb
    rw [hd, List.foldl_cons, R9_4, ew, if_pos (by simp only [decide_eq_true_eq]; omega)]
    simp only [Int.toNat_natCast, hw]
    refine ⟨by omega, by omega, hb, ?_⟩
    have hi0 : ((i : Int) == 0) = false := by rw [Bool.eq_false_iff, ne_eq, beq_iff_eq]; omega
    rw [hi0, if_neg (show ¬ false = true by decide)]
    have nx := ih (i + 1) (st9 h w) (by omega) (by omega)
    unfold st9 at nx ⊢
    by_cases hc : g31_1 w = 0
    · have hb0 : (g31_1 w != 0) = false := by rw [hc]; rfl
      rw [hb0, if_neg (show ¬ false = true by decide)]
      rw [if_neg (show ¬ (g31_1 w ≠ 0) from fun hx => hx hc)] at nx ⊢
      refine ⟨put9 h _, ?_⟩
      by_cases hp : g35_1 h (g31_0 w) = 0
      · rw [if_pos (show (g35_1 h (g31_0 w) == 0) = true from by rw [hp]; rfl)]
        rw [if_pos hp] at nx ⊢
        exact ⟨hup, by rw [e1]; exact nx⟩
      · rw [if_neg (show ¬ (g35_1 h (g31_0 w) == 0) = true from fun hh => hp (beq_iff_eq.1 hh))]
        rw [if_neg hp] at nx ⊢
        exact ⟨hup, by rw [e1]; exact nx⟩
    · have hb0 : (g31_1 w != 0) = true := by simpa using hc
      rw [hb0, if_pos rfl]
      rw [if_pos (show g31_1 w ≠ 0 from hc)] at nx ⊢
      exact ⟨hup, by rw [e1]; exact nx⟩
theorem top9 (x0 : ByteArray) (hp : P9 x0) : ∃ n, R9 n x0 [⟨.sl (.cons .str (.cons .str (.cons .str .unit))), g9_0 x0⟩] := by
  obtain ⟨p1, p2, p3⟩ := hp
  have ew : g33_0 x0 = ls9 x0 := rfl
  refine ⟨((ls9 x0).length + 1) + 1, ?_⟩
  rw [R9]
  refine ⟨p1, ?_⟩
  rw [R9_4, ew]
  by_cases h0 : (ls9 x0).length = 0
  · rw [if_neg (by simp only [decide_eq_true_eq]; omega)]
    have : ls9 x0 = [] := List.eq_nil_of_length_eq_zero h0
    unfold g9_0
    rw [this]
    rfl
  · rw [if_pos (by simp only [decide_eq_true_eq]; omega)]
    have hz : Int.toNat 0 = 0 := rfl
    rw [hz]
    refine ⟨by omega, by omega, p3 _ (mem_getD (ls9 x0) 0 ByteArray.empty (by omega)), ?_⟩
    rw [if_pos (show ((0 : Int) == 0) = true from rfl)]
    refine ⟨by rw [i64_iff]; omega, ?_⟩
    have := run9 x0 p2 p3 ((ls9 x0).length - 1) 1 [] (by omega) (by omega)
    rw [show (ls9 x0).length - 1 + 1 = (ls9 x0).length by omega] at this
    exact this
def S9 : Am.Spec := { sig := sig9, pre := fun ⟨x0, _⟩ => P9 x0, res := fun ⟨x0, _⟩ => [⟨.sl (.cons .str (.cons .str (.cons .str .unit))), g9_0 x0⟩] }
theorem con9 : Contract Tryz.prog 9 S9 := contract_of Tryz.func9 hb9 (Nat.le_of_ble_eq_true (by kernel_rfl)) (fun ⟨x0, _⟩ h hwf K q => by
  obtain ⟨n, hn⟩ := top9 x0 h
  exact (snd9 n).1 x0 _ hn K q)
end
noncomputable section
def ext36 : Ext := []
theorem ext36Ok : ExtOk Tryz.prog ext36 := trivial
noncomputable def b36 : Code := bodyOf Tryz.f36
theorem hb36 : Tryz.f36.body = some b36 := by kernel_rfl
def sig36 : List AT := [AT.v (Ty.sl YA3), AT.v (Ty.sl YA3)]
def tys36 : List Ty := [Ty.bool]
def kds36 : List RK := []
def oks36 : List AT := owns sig36
def E36_4 (v5 : Int) (x0 : List TyB1) (x1 : List TyB1) : Env := [(0, PV.a (Atom.sl YA3 x0)), (1, PV.a (Atom.sl YA3 x1)), (5, PV.a (Atom.val (Value.int .i64 v5)))]
def L36_4 (v5 : Int) (x0 : List TyB1) (x1 : List TyB1) : Heap := []
mutual
def R36 : Nat → List TyB1 → List TyB1 → List Dyn → Prop
  | 0, _, _, _ => False
  | n + 1, x0, x1, ds => (if ((↑(List.length x0) : Int) != (↑(List.length x1) : Int)) = true then (ds = [Dyn.mk Ty.bool false]) else (R36_4 n (0) (x0) (x1) ds))
def R36_4 : Nat → Int → List TyB1 → List TyB1 → List Dyn → Prop
  | 0, _, _, _, _ => False
  | n + 1, v5, x0, x1, ds => (if (decide (v5 < (↑(List.length x0) : Int))) = true then ((0 ≤ v5) ∧ (v5 < (↑(List.length x0) : Int)) ∧ ((0 ≤ v5) ∧ (v5 < (↑(List.length x1) : Int)) ∧ (if (!eqD YA3 (List.getD x0 (Int.toNat v5) (ByteArray.empty, ByteArray.empty, ByteArray.empty, ())) (List.getD x1 (Int.toNat v5) (ByteArray.empty, ByteArray.empty, ByteArray.empty, ()))) = true then (ds = [Dyn.mk Ty.bool false]) else ((InR .i64 (v5 + 1)) ∧ (R36_4 n (v5 + 1) (x0) (x1) ds))))) else (ds = [Dyn.mk Ty.bool true]))
end
theorem snd36 : ∀ n, (∀ (x0 : List TyB1) (x1 : List TyB1) ds, R36 n x0 x1 ds → ∀ K q, AtV Tryz.prog 36 (PostR kds36 oks36 ds [] [] q K) 26 K q [] [.code b36] (entE 0 0 sig36 (x0, x1, ())) (entL sig36 (x0, x1, ()))) ∧ (∀ (v5 : Int) (x0 : List TyB1) (x1 : List TyB1) ds, R36_4 n v5 x0 x1 ds → ∀ K q, AtV Tryz.prog 36 (PostR kds36 oks36 ds [] [] q K) 26 K q [] (cutAt b36 4) (E36_4 v5 x0 x1) (L36_4 v5 x0 x1)) := by
  intro n
  induction n with
  | zero => exact ⟨fun _ _ _ h => by simp only [R36] at h, fun _ _ _ _ h => by simp only [R36_4] at h⟩
  | succ n ih =>
  obtain ⟨ih, ih4⟩ := ih
  refine ⟨?_, ?_⟩
  · intro x0 x1 ds h K q
    rw [R36] at h
    by_cases b0 : ((↑(List.length x0) : Int) != (↑(List.length x1) : Int)) = true
    · rw [if_pos b0] at h
      subst h
      exact AtV.ret Tryz.func36 tabOk ext36Ok mixed false [] tys36 [true] (a1 b0 trivial) (by kernel_rfl)
    · rw [if_neg b0] at h
      replace b0 := Bool.eq_false_iff.2 b0
      exact AtV.go tabOk ext36Ok mixed false [] [] [0, 1, 5] [] [false] (a1 b0 trivial) (ih4 _ _ _ _ h K q) (by kernel_rfl)
  · intro v5 x0 x1 ds h K q
    rw [R36_4] at h
    by_cases b0 : (decide (v5 < (↑(List.length x0) : Int))) = true
    · rw [if_pos b0] at h
      obtain ⟨s0, s1, h⟩ := h
      obtain ⟨s2, s3, h⟩ := h
      by_cases b1 : (!eqD YA3 (List.getD x0 (Int.toNat v5) (ByteArray.empty, ByteArray.empty, ByteArray.empty, ())) (List.getD x1 (Int.toNat v5) (ByteArray.empty, ByteArray.empty, ByteArray.empty, ()))) = true
      · rw [if_pos b1] at h
        subst h
        exact AtV.ret Tryz.func36 tabOk ext36Ok mixed false [] tys36 [true, true] (a1 b0 (a1 s0 (a1 s1 (a1 s2 (a1 s3 (a1 b1 trivial)))))) (by kernel_rfl)
      · rw [if_neg b1] at h
        replace b1 := Bool.eq_false_iff.2 b1
        obtain ⟨s4, h⟩ := h
        exact AtV.go tabOk ext36Ok mixed false [] [] [0, 1, 5] [] [true, false] (a1 b0 (a1 s0 (a1 s1 (a1 s2 (a1 s3 (a1 b1 (a1 s4 trivial))))))) (ih4 _ _ _ _ h K q) (by kernel_rfl)
    · rw [if_neg b0] at h
      replace b0 := Bool.eq_false_iff.2 b0
      subst h
      exact AtV.ret Tryz.func36 tabOk ext36Ok mixed false [] tys36 [false] (a1 b0 trivial) (by kernel_rfl)
theorem eq36 (x0 x1 : List TyB1) (hl : x0.length = x1.length) (hm : x0.length ≤ maxLen) : ∀ k i : Nat, i + k = x0.length → R36_4 (k + 1) (i : Int) x0 x1 [⟨.bool, decide (x0.drop i = x1.drop i)⟩] := by
  intro k
  induction k with
  | zero =>
    intro i hi
    have h1 : ¬ (i : Int) < (x0.length : Int) := by omega
    rw [R36_4, if_neg (by simpa using h1), drop_end x0 i (by omega), drop_end x1 i (by omega)]
    simp
  | succ k ih =>
    intro i hi
    have h1 : (i : Int) < (x0.length : Int) := by omega
    rw [R36_4, if_pos (by simpa using h1)]
    refine ⟨by omega, h1, by omega, by omega, ?_⟩
    simp only [Int.toNat_natCast]
    rw [drop_get x0 i (ByteArray.empty, ByteArray.empty, ByteArray.empty, ()) (by omega), drop_get x1 i (ByteArray.empty, ByteArray.empty, ByteArray.empty, ()) (by omega)]
    by_cases he : x0.getD i (ByteArray.empty, ByteArray.empty, ByteArray.empty, ()) = x1.getD i (ByteArray.empty, ByteArray.empty, ByteArray.empty, ())
    · have hd := (eqD_eq (t := (.cons .str (.cons .str (.cons .str .unit)))) rfl).2 he
      rw [if_neg (by rw [hd]; simp)]
      refine ⟨inR_up hm (by omega), ?_⟩
      have := ih (i + 1) (by omega)
      simp only [he, List.cons.injEq, true_and]
      exact this
    · have hd : eqD (.cons .str (.cons .str (.cons .str .unit))) (x0.getD i (ByteArray.empty, ByteArray.empty, ByteArray.empty, ())) (x1.getD i (ByteArray.empty, ByteArray.empty, ByteArray.empty, ())) = false :=
        Bool.eq_false_iff.2 fun h => he ((eqD_eq (t := (.cons .str (.cons .str (.cons .str .unit)))) rfl).1 h)
      rw [if_pos (by rw [hd]; rfl)]
      simp only [he, List.cons.injEq, false_and, decide_false]
def g36_0 (x0 x1 : List TyB1) : Bool := decide (x0 = x1)
def P36 (x0 x1 : List TyB1) : Prop := True
def S36 : Am.Spec := { sig := sig36, pre := fun ⟨x0, x1, _⟩ => P36 x0 x1, res := fun ⟨x0, x1, _⟩ => [⟨Ty.bool, g36_0 x0 x1⟩] }
theorem con36 : Contract Tryz.prog 36 S36 := contract_of Tryz.func36 hb36 (Nat.le_of_ble_eq_true (by kernel_rfl)) (fun ⟨x0, x1, _⟩ h hwf K q => by
  refine (snd36 (x0.length + 2)).1 x0 x1 _ ?_ K q
  show R36 (x0.length + 1 + 1) x0 x1 [⟨Ty.bool, decide (x0 = x1)⟩]
  rw [R36]
  by_cases hl : x0.length = x1.length
  · rw [if_neg (by simp [hl])]
    have := eq36 x0 x1 hl hwf.1.1 x0.length 0 (by omega)
    simpa using this
  · rw [if_pos (by simp; omega)]
    have : x0 ≠ x1 := fun h => hl (by rw [h])
    simp [this])
end
noncomputable section
def ext10 : Ext := [(36, S36)]
theorem ext10Ok : ExtOk Tryz.prog ext10 := ⟨⟨ca36, con36⟩, trivial⟩
noncomputable def b10 : Code := bodyOf Tryz.f10
theorem hb10 : Tryz.f10.body = some b10 := by kernel_rfl
def sig10 : List AT := [AT.v (Ty.sl YA3), AT.v (Ty.sl YA3)]
def tys10 : List Ty := [Ty.bool]
def kds10 : List RK := []
def oks10 : List AT := owns sig10
def P10 (x0 : List TyB1) (x1 : List TyB1) : Prop := True
def g10_0 (x0 : List TyB1) (x1 : List TyB1) : Bool := g36_0 x0 x1
theorem at10 (x0 : List TyB1) (x1 : List TyB1) (h : P10 x0 x1) (K : Ctx) (q : Nat → Value) : AtV Tryz.prog 10 (PostR kds10 oks10 [⟨Ty.bool, g10_0 x0 x1⟩] [] [] q K) 8 K q [] [.code b10] (entE 0 0 sig10 (x0, x1, ())) (entL sig10 (x0, x1, ())) := by
  unfold P10 at h
  unfold g10_0
  exact AtV.ret Tryz.func10 tabOk ext10Ok mixed false [] tys10 [] (a1 trivial trivial) (by kernel_rfl)
def S10 : Am.Spec := { sig := sig10, pre := fun ⟨x0, x1, _⟩ => P10 x0 x1, res := fun ⟨x0, x1, _⟩ => [⟨Ty.bool, g10_0 x0 x1⟩], kds := kds10 }
theorem con10 : Contract Tryz.prog 10 S10 := contract_of Tryz.func10 hb10 (Nat.le_of_ble_eq_true (by kernel_rfl)) (fun ⟨x0, x1, _⟩ h _ K q => at10 x0 x1 h K q)
end
noncomputable section
def ext99 : Ext := []
theorem ext99Ok : ExtOk Tryz.prog ext99 := trivial
noncomputable def b99 : Code := bodyOf Tryz.f99
theorem hb99 : Tryz.f99.body = some b99 := by kernel_rfl
def sig99 : List AT := [AT.v (Ty.str), AT.v (Ty.int .i64)]
def tys99 : List Ty := [Ty.int .i64]
def kds99 : List RK := []
def oks99 : List AT := owns sig99
def E99_2 (v5 : Int) (x0 : ByteArray) (x1 : Int) : Env := [(0, PV.a (Atom.val (Value.string x0))), (1, PV.a (Atom.val (Value.int .i64 x1))), (5, PV.a (Atom.val (Value.int .i64 v5)))]
def L99_2 (v5 : Int) (x0 : ByteArray) (x1 : Int) : Heap := []
def E99_6 (v1 : Int) (v6 : Int) (x0 : ByteArray) (v5 : Int) : Env := [(0, PV.a (Atom.val (Value.string x0))), (1, PV.a (Atom.val (Value.int .i64 v1))), (5, PV.a (Atom.val (Value.int .i64 v5))), (6, PV.a (Atom.val (Value.int .i64 v6)))]
def L99_6 (v1 : Int) (v6 : Int) (x0 : ByteArray) (v5 : Int) : Heap := []
mutual
def R99 : Nat → ByteArray → Int → List Dyn → Prop
  | 0, _, _, _ => False
  | n + 1, x0, x1, ds => (R99_2 n (0) (x0) (x1) ds)
def R99_2 : Nat → Int → ByteArray → Int → List Dyn → Prop
  | 0, _, _, _, _ => False
  | n + 1, v5, x0, x1, ds => (if (decide (v5 < (↑(ByteArray.size x0) : Int))) = true then ((0 ≤ v5) ∧ (v5 < (↑(ByteArray.size x0) : Int)) ∧ ((InR .i64 (↑(UInt8.toNat (List.getD (Array.toList (ByteArray.data x0)) (Int.toNat v5) 0)) : Int)) ∧ (R99_6 n (IntKind.wrap IntKind.i64 (↑(BitVec.toNat (BitVec.ofInt 64 x1 ^^^ BitVec.ofInt 64 (IntKind.wrap IntKind.i64 ((↑(UInt8.toNat (List.getD (Array.toList (ByteArray.data x0)) (Int.toNat v5) 0)) : Int) * 256)))) : Int)) (0) (x0) (v5) ds))) else (ds = [Dyn.mk (Ty.int .i64) x1]))
def R99_6 : Nat → Int → Int → ByteArray → Int → List Dyn → Prop
  | 0, _, _, _, _, _ => False
  | n + 1, v1, v6, x0, v5, ds => (if (decide (v6 < 8)) = true then (if (decide (IntKind.wrap IntKind.i64 (v1 * 2) > 65535)) = true then ((InR .i64 (v6 + 1)) ∧ (R99_6 n (IntKind.wrap IntKind.i64 (↑(BitVec.toNat (BitVec.ofInt 64 (IntKind.wrap IntKind.i64 (↑(BitVec.toNat (BitVec.ofInt 64 (IntKind.wrap IntKind.i64 (v1 * 2)) &&& BitVec.ofInt 64 65535)) : Int)) ^^^ BitVec.ofInt 64 4129)) : Int)) (v6 + 1) (x0) (v5) ds)) else ((InR .i64 (v6 + 1)) ∧ (R99_6 n (IntKind.wrap IntKind.i64 (v1 * 2)) (v6 + 1) (x0) (v5) ds))) else ((InR .i64 (v5 + 1)) ∧ (R99_2 n (v5 + 1) (x0) (v1) ds)))
end
theorem snd99 : ∀ n, (∀ (x0 : ByteArray) (x1 : Int) ds, R99 n x0 x1 ds → ∀ K q, AtV Tryz.prog 99 (PostR kds99 oks99 ds [] [] q K) 32 K q [] [.code b99] (entE 0 0 sig99 (x0, x1, ())) (entL sig99 (x0, x1, ()))) ∧ (∀ (v5 : Int) (x0 : ByteArray) (x1 : Int) ds, R99_2 n v5 x0 x1 ds → ∀ K q, AtV Tryz.prog 99 (PostR kds99 oks99 ds [] [] q K) 32 K q [] (cutAt b99 2) (E99_2 v5 x0 x1) (L99_2 v5 x0 x1)) ∧ (∀ (v1 : Int) (v6 : Int) (x0 : ByteArray) (v5 : Int) ds, R99_6 n v1 v6 x0 v5 ds → ∀ K q, AtV Tryz.prog 99 (PostR kds99 oks99 ds [] [] q K) 32 K q [] (cutAt b99 6) (E99_6 v1 v6 x0 v5) (L99_6 v1 v6 x0 v5)) := by
  intro n
  induction n with
  | zero => exact ⟨fun _ _ _ h => by simp only [R99] at h, fun _ _ _ _ h => by simp only [R99_2] at h, fun _ _ _ _ _ h => by simp only [R99_6] at h⟩
  | succ n ih =>
  obtain ⟨ih, ih2, ih6⟩ := ih
  refine ⟨?_, ?_, ?_⟩
  · intro x0 x1 ds h K q
    rw [R99] at h
    exact AtV.go tabOk ext99Ok mixed false [] [] [0, 1, 5] [] [] trivial (ih2 _ _ _ _ h K q) (by kernel_rfl)
  · intro v5 x0 x1 ds h K q
    rw [R99_2] at h
    by_cases b0 : (decide (v5 < (↑(ByteArray.size x0) : Int))) = true
    · rw [if_pos b0] at h
      obtain ⟨s0, s1, h⟩ := h
      obtain ⟨s2, h⟩ := h
      exact AtV.go tabOk ext99Ok mixed false [] [] [0, 1, 5, 6] [] [true] (a1 b0 (a1 s0 (a1 s1 (a1 s2 (a1 ((by decide) : (0 : Int) ≤ (8 : Int)) trivial))))) (ih6 _ _ _ _ _ h K q) (by kernel_rfl)
    · rw [if_neg b0] at h
      replace b0 := Bool.eq_false_iff.2 b0
      subst h
      exact AtV.ret Tryz.func99 tabOk ext99Ok mixed false [] tys99 [false] (a1 b0 trivial) (by kernel_rfl)
  · intro v1 v6 x0 v5 ds h K q
    rw [R99_6] at h
    by_cases b0 : (decide (v6 < 8)) = true
    · rw [if_pos b0] at h
      by_cases b1 : (decide (IntKind.wrap IntKind.i64 (v1 * 2) > 65535)) = true
      · rw [if_pos b1] at h
        obtain ⟨s0, h⟩ := h
        exact AtV.go tabOk ext99Ok mixed false [] [] [0, 1, 5, 6] [] [true, true] (a1 b0 (a1 ((by decide) : (0 : Int) ≤ (1 : Int)) (a1 b1 (a1 s0 trivial)))) (ih6 _ _ _ _ _ h K q) (by kernel_rfl)
      · rw [if_neg b1] at h
        replace b1 := Bool.eq_false_iff.2 b1
        obtain ⟨s0, h⟩ := h
        exact AtV.go tabOk ext99Ok mixed false [] [] [0, 1, 5, 6] [] [true, false] (a1 b0 (a1 ((by decide) : (0 : Int) ≤ (1 : Int)) (a1 b1 (a1 s0 trivial)))) (ih6 _ _ _ _ _ h K q) (by kernel_rfl)
    · rw [if_neg b0] at h
      replace b0 := Bool.eq_false_iff.2 b0
      obtain ⟨s0, h⟩ := h
      exact AtV.go tabOk ext99Ok mixed false [] [] [0, 1, 5] [] [false] (a1 b0 (a1 s0 trivial)) (ih2 _ _ _ _ h K q) (by kernel_rfl)
def bit99 (s : Int) : Int := if (decide (IntKind.wrap IntKind.i64 (s * 2) > 65535)) = true then (IntKind.wrap IntKind.i64 (↑(BitVec.toNat (BitVec.ofInt 64 (IntKind.wrap IntKind.i64 (↑(BitVec.toNat (BitVec.ofInt 64 (IntKind.wrap IntKind.i64 (s * 2)) &&& BitVec.ofInt 64 65535)) : Int)) ^^^ BitVec.ofInt 64 4129)) : Int)) else (IntKind.wrap IntKind.i64 (s * 2))
def bits99 : Nat → Int → Int
  | 0, s => s
  | k + 1, s => bits99 k (bit99 s)
def byte99 (s c : Int) : Int := bits99 8 (IntKind.wrap IntKind.i64 (↑(BitVec.toNat (BitVec.ofInt 64 s ^^^ BitVec.ofInt 64 (IntKind.wrap IntKind.i64 (c * 256)))) : Int))
def g99_0 (x0 : ByteArray) (x1 : Int) : Int := (bytesOf x0).foldl byte99 x1
def P99 (x0 : ByteArray) (x1 : Int) : Prop := True
theorem inner99 (x0 : ByteArray) (hm : (bytesOf x0).length ≤ maxLen) (i n : Nat) (hi : i < (bytesOf x0).length) (ds : List Dyn) : ∀ (k j : Nat) (s : Int), j + k = 8 → R99_2 n ((i : Int) + 1) x0 (bits99 k s) ds → R99_6 (n + 1 + k) s (j : Int) x0 (i : Int) ds := by
  intro k
  induction k with
  | zero =>
    intro j s hj hr
    rw [R99_6, if_neg (by simp; omega)]
    exact ⟨inR_up hm hi, hr⟩
  | succ k ih =>
    intro j s hj hr
    have e2 : (j : Int) + 1 = ((j + 1 : Nat) : Int) := by omega
    rw [show n + 1 + (k + 1) = (n + 1 + k) + 1 by omega, R99_6, if_pos (by simp; omega)]
    unfold bits99 bit99 at hr
    by_cases hc : (decide (IntKind.wrap IntKind.i64 (s * 2) > 65535)) = true
    · rw [if_pos hc] at hr ⊢
      rw [e2]
      exact ⟨by rw [i64_iff]; omega, ih (j + 1) _ (by omega) hr⟩
    · rw [if_neg hc] at hr ⊢
      rw [e2]
      exact ⟨by rw [i64_iff]; omega, ih (j + 1) _ (by omega) hr⟩
theorem run99 (x0 : ByteArray) (hm : x0.size ≤ maxLen) : ∀ (k i : Nat) (s : Int), i + k = x0.size → ∃ n, R99_2 n (i : Int) x0 s [⟨.int .i64, ((bytesOf x0).drop i).foldl byte99 s⟩] := by
  intro k
  have hl := bytesOf_length x0
  induction k with
  | zero =>
    intro i s hi
    refine ⟨1, ?_⟩
    rw [R99_2, if_neg (by simp; omega), List.drop_of_length_le (by omega)]
    rfl
  | succ k ih =>
    intro i s hi
    have hlt : i < (bytesOf x0).length := by omega
    have hcons := drop_get (bytesOf x0) i 0 hlt
    obtain ⟨n, hn⟩ := ih (i + 1) (byte99 s ((bytesOf x0).getD i 0)) (by omega)
    refine ⟨n + 1 + 8 + 1, ?_⟩
    have hb := bytesOf_range x0 _ (mem_getD (bytesOf x0) i 0 hlt)
    rw [R99_2, if_pos (by simp; omega)]
    simp only [Int.toNat_natCast, byte_get]
    rw [hcons, List.foldl_cons]
    exact ⟨by omega, by omega, by rw [i64_iff]; omega, inner99 x0 (by rw [hl]; exact hm) i n hlt _ 8 0 _ (by omega) hn⟩
theorem top99 (x0 : ByteArray) (x1 : Int) (hm : x0.size ≤ maxLen) : ∃ n, R99 n x0 x1 [⟨.int .i64, g99_0 x0 x1⟩] := by
  obtain ⟨n, hn⟩ := run99 x0 hm x0.size 0 x1 (by omega)
  refine ⟨n + 1, ?_⟩
  rw [R99]
  exact hn
def S99 : Am.Spec := { sig := sig99, pre := fun ⟨x0, x1, _⟩ => P99 x0 x1, res := fun ⟨x0, x1, _⟩ => [⟨Ty.int .i64, g99_0 x0 x1⟩] }
theorem con99 : Contract Tryz.prog 99 S99 := contract_of Tryz.func99 hb99 (Nat.le_of_ble_eq_true (by kernel_rfl)) (fun ⟨x0, x1, _⟩ h hwf K q =>
  let ⟨n, hn⟩ := top99 x0 x1 hwf.1
  (snd99 n).1 x0 x1 _ hn K q)
end
noncomputable section
def ext98 : Ext := [(64, S64)]
theorem ext98Ok : ExtOk Tryz.prog ext98 := ⟨⟨ca64, con64⟩, trivial⟩
noncomputable def b98 : Code := bodyOf Tryz.f98
theorem hb98 : Tryz.f98.body = some b98 := by kernel_rfl
def sig98 : List AT := [AT.v (Ty.int .i64)]
def tys98 : List Ty := [Ty.str]
def kds98 : List RK := []
def oks98 : List AT := owns sig98
def E98_2 (v3 : ByteArray) : Env := [(3, PV.a (Atom.val (Value.string v3)))]
def L98_2 (v3 : ByteArray) : Heap := []
mutual
def R98 : Nat → Int → List Dyn → Prop
  | 0, _, _ => False
  | n + 1, x0, ds => (R98_2 n (g64_0 x0) ds)
def R98_2 : Nat → ByteArray → List Dyn → Prop
  | 0, _, _ => False
  | n + 1, v3, ds => (if (decide ((↑(ByteArray.size v3) : Int) < 5)) = true then ((1 + ByteArray.size v3 ≤ 9223372036854775807) ∧ (R98_2 n (ByteArray.mk #[48] ++ v3) ds)) else (ds = [Dyn.mk Ty.str v3]))
end
theorem snd98 : ∀ n, (∀ (x0 : Int) ds, R98 n x0 ds → ∀ K q, AtV Tryz.prog 98 (PostR kds98 oks98 ds [] [] q K) 12 K q [] [.code b98] (entE 0 0 sig98 (x0, ())) (entL sig98 (x0, ()))) ∧ (∀ (v3 : ByteArray) ds, R98_2 n v3 ds → ∀ K q, AtV Tryz.prog 98 (PostR kds98 oks98 ds [] [] q K) 12 K q [] (cutAt b98 2) (E98_2 v3) (L98_2 v3)) := by
  intro n
  induction n with
  | zero => exact ⟨fun _ _ h => by simp only [R98] at h, fun _ _ h => by simp only [R98_2] at h⟩
  | succ n ih =>
  obtain ⟨ih, ih2⟩ := ih
  refine ⟨?_, ?_⟩
  · intro x0 ds h K q
    rw [R98] at h
    exact AtV.go tabOk ext98Ok mixed false [] [] [3] [] [] (a1 trivial trivial) (ih2 _ _ h K q) (by kernel_rfl)
  · intro v3 ds h K q
    rw [R98_2] at h
    by_cases b0 : (decide ((↑(ByteArray.size v3) : Int) < 5)) = true
    · rw [if_pos b0] at h
      obtain ⟨s0, h⟩ := h
      exact AtV.go tabOk ext98Ok mixed false [] [] [3] [] [true] (a1 b0 (a1 s0 trivial)) (ih2 _ _ h K q) (by kernel_rfl)
    · rw [if_neg b0] at h
      replace b0 := Bool.eq_false_iff.2 b0
      subst h
      exact AtV.ret Tryz.func98 tabOk ext98Ok mixed false [] tys98 [false] (a1 b0 trivial) (by kernel_rfl)
def f598 : Nat → ByteArray → ByteArray
  | 0, s => s
  | k + 1, s => if s.size < 5 then f598 k (ByteArray.mk #[48] ++ s) else s
def g98_0 (x0 : Int) : ByteArray := f598 5 (g64_0 x0)
def P98 (x0 : Int) : Prop := True
theorem run98 : ∀ (k : Nat) (s : ByteArray), 5 ≤ s.size + k → R98_2 (k + 1) s [⟨.str, f598 k s⟩] := by
  intro k
  have i48 : (ByteArray.mk #[48]).size = 1 := rfl
  induction k with
  | zero =>
    intro s h
    rw [R98_2, if_neg (by simp; omega)]
    rfl
  | succ k ih =>
    intro s h
    rw [R98_2]
    unfold f598
    by_cases hc : s.size < 5
    · rw [if_pos (by simp; omega), if_pos hc]
      exact ⟨by omega, ih _ (by rw [ByteArray.size_append, i48]; omega)⟩
    · rw [if_neg (by simp; omega), if_neg hc]
theorem top98 (x0 : Int) : R98 7 x0 [⟨.str, g98_0 x0⟩] := by
  rw [R98]
  exact run98 5 _ (by omega)
def S98 : Am.Spec := { sig := sig98, pre := fun ⟨x0, _⟩ => P98 x0, res := fun ⟨x0, _⟩ => [⟨Ty.str, g98_0 x0⟩] }
theorem con98 : Contract Tryz.prog 98 S98 := contract_of Tryz.func98 hb98 (Nat.le_of_ble_eq_true (by kernel_rfl)) (fun ⟨x0, _⟩ h hwf K q =>
  (snd98 _).1 x0 _ (top98 x0) K q)
end
noncomputable section
def ext65 : Ext := [(99, S99), (98, S98)]
theorem ext65Ok : ExtOk Tryz.prog ext65 := ⟨⟨ca99, con99⟩, ⟨ca98, con98⟩, trivial⟩
noncomputable def b65 : Code := bodyOf Tryz.f65
theorem hb65 : Tryz.f65.body = some b65 := by kernel_rfl
def sig65 : List AT := [AT.p YA3]
def tys65 : List Ty := [Ty.str]
def kds65 : List RK := []
def oks65 : List AT := owns sig65
def P65 (x0 : ByteArray × ByteArray × ByteArray × Unit) : Prop := ((ByteArray.size x0.1 + 1 ≤ 9223372036854775807) ∧ ((ByteArray.size (x0.1 ++ ByteArray.mk #[32]) + ByteArray.size x0.2.1 ≤ 9223372036854775807) ∧ ((ByteArray.size (x0.1 ++ ByteArray.mk #[32] ++ x0.2.1) + 1 ≤ 9223372036854775807) ∧ ((ByteArray.size (x0.1 ++ ByteArray.mk #[32] ++ x0.2.1 ++ ByteArray.mk #[32]) + ByteArray.size x0.2.2.1 ≤ 9223372036854775807) ∧ ((ByteArray.size (g98_0 (g99_0 (x0.1 ++ ByteArray.mk #[32] ++ x0.2.1 ++ ByteArray.mk #[32] ++ x0.2.2.1) 65535)) + 1 ≤ 9223372036854775807) ∧ ((ByteArray.size (g98_0 (g99_0 (x0.1 ++ ByteArray.mk #[32] ++ x0.2.1 ++ ByteArray.mk #[32] ++ x0.2.2.1) 65535) ++ ByteArray.mk #[32]) + ByteArray.size (x0.1 ++ ByteArray.mk #[32] ++ x0.2.1 ++ ByteArray.mk #[32] ++ x0.2.2.1) ≤ 9223372036854775807) ∧ ((ByteArray.size (g98_0 (g99_0 (x0.1 ++ ByteArray.mk #[32] ++ x0.2.1 ++ ByteArray.mk #[32] ++ x0.2.2.1) 65535) ++ ByteArray.mk #[32] ++ (x0.1 ++ ByteArray.mk #[32] ++ x0.2.1 ++ ByteArray.mk #[32] ++ x0.2.2.1)) + 1 ≤ 9223372036854775807) ∧ True)))))))
def g65_0 (x0 : ByteArray × ByteArray × ByteArray × Unit) : ByteArray := g98_0 (g99_0 (x0.1 ++ ByteArray.mk #[32] ++ x0.2.1 ++ ByteArray.mk #[32] ++ x0.2.2.1) 65535) ++ ByteArray.mk #[32] ++ (x0.1 ++ ByteArray.mk #[32] ++ x0.2.1 ++ ByteArray.mk #[32] ++ x0.2.2.1) ++ ByteArray.mk #[10]
theorem at65 (x0 : ByteArray × ByteArray × ByteArray × Unit) (h : P65 x0) (K : Ctx) (q : Nat → Value) : AtV Tryz.prog 65 (PostR kds65 oks65 [⟨Ty.str, g65_0 x0⟩] [] [] q K) 27 K q [] [.code b65] (entE 0 0 sig65 (x0, ())) (entL sig65 (x0, ())) := by
  unfold P65 at h
  unfold g65_0
  obtain ⟨s0, h⟩ := h
  obtain ⟨s1, h⟩ := h
  obtain ⟨s2, h⟩ := h
  obtain ⟨s3, h⟩ := h
  obtain ⟨s4, h⟩ := h
  obtain ⟨s5, h⟩ := h
  obtain ⟨s6, h⟩ := h
  exact AtV.ret Tryz.func65 tabOk ext65Ok mixed false [] tys65 [] (a1 s0 (a1 s1 (a1 s2 (a1 s3 (a1 trivial (a1 trivial (a1 s4 (a1 s5 (a1 s6 trivial))))))))) (by kernel_rfl)
def S65 : Am.Spec := { sig := sig65, pre := fun ⟨x0, _⟩ => P65 x0, res := fun ⟨x0, _⟩ => [⟨Ty.str, g65_0 x0⟩], kds := kds65 }
theorem con65 : Contract Tryz.prog 65 S65 := contract_of Tryz.func65 hb65 (Nat.le_of_ble_eq_true (by kernel_rfl)) (fun ⟨x0, _⟩ h _ K q => at65 x0 h K q)
end
noncomputable section
def ext38 : Ext := [(64, S64), (65, S65)]
theorem ext38Ok : ExtOk Tryz.prog ext38 := ⟨⟨ca64, con64⟩, ⟨ca65, con65⟩, trivial⟩
noncomputable def b38 : Code := bodyOf Tryz.f38
theorem hb38 : Tryz.f38.body = some b38 := by kernel_rfl
def sig38 : List AT := [AT.v (Ty.sl YA3)]
def tys38 : List Ty := [Ty.str]
def kds38 : List RK := []
def oks38 : List AT := owns sig38
def E38_3 (v3 : ByteArray) (v4 : Int) (x0 : List TyB1) : Env := [(0, PV.a (Atom.sl YA3 x0)), (3, PV.a (Atom.val (Value.string v3))), (4, PV.a (Atom.val (Value.int .i64 v4)))]
def L38_3 (v3 : ByteArray) (v4 : Int) (x0 : List TyB1) : Heap := []
mutual
def R38 : Nat → List TyB1 → List Dyn → Prop
  | 0, _, _ => False
  | n + 1, x0, ds => ((8 + ByteArray.size (g64_0 (↑(List.length x0) : Int)) ≤ 9223372036854775807) ∧ ((ByteArray.size (ByteArray.mk #[97, 114, 99, 104, 105, 118, 101, 32] ++ g64_0 (↑(List.length x0) : Int)) + 1 ≤ 9223372036854775807) ∧ (R38_3 n (ByteArray.mk #[97, 114, 99, 104, 105, 118, 101, 32] ++ g64_0 (↑(List.length x0) : Int) ++ ByteArray.mk #[10]) (0) (x0) ds)))
def R38_3 : Nat → ByteArray → Int → List TyB1 → List Dyn → Prop
  | 0, _, _, _, _ => False
  | n + 1, v3, v4, x0, ds => (if (decide (v4 < (↑(List.length x0) : Int))) = true then ((0 ≤ v4) ∧ (v4 < (↑(List.length x0) : Int)) ∧ ((P65 (List.getD x0 (Int.toNat v4) (ByteArray.empty, ByteArray.empty, ByteArray.empty, ()))) ∧ ((ByteArray.size v3 + ByteArray.size (g65_0 (List.getD x0 (Int.toNat v4) (ByteArray.empty, ByteArray.empty, ByteArray.empty, ()))) ≤ 9223372036854775807) ∧ ((InR .i64 (v4 + 1)) ∧ (R38_3 n (v3 ++ g65_0 (List.getD x0 (Int.toNat v4) (ByteArray.empty, ByteArray.empty, ByteArray.empty, ()))) (v4 + 1) (x0) ds))))) else (ds = [Dyn.mk Ty.str v3]))
end
theorem snd38 : ∀ n, (∀ (x0 : List TyB1) ds, R38 n x0 ds → ∀ K q, AtV Tryz.prog 38 (PostR kds38 oks38 ds [] [] q K) 23 K q [] [.code b38] (entE 0 0 sig38 (x0, ())) (entL sig38 (x0, ()))) ∧ (∀ (v3 : ByteArray) (v4 : Int) (x0 : List TyB1) ds, R38_3 n v3 v4 x0 ds → ∀ K q, AtV Tryz.prog 38 (PostR kds38 oks38 ds [] [] q K) 23 K q [] (cutAt b38 3) (E38_3 v3 v4 x0) (L38_3 v3 v4 x0)) := by
  intro n
  induction n with
  | zero => exact ⟨fun _ _ h => by simp only [R38] at h, fun _ _ _ _ h => by simp only [R38_3] at h⟩
  | succ n ih =>
  obtain ⟨ih, ih3⟩ := ih
  refine ⟨?_, ?_⟩
  · intro x0 ds h K q
    rw [R38] at h
    obtain ⟨s0, h⟩ := h
    obtain ⟨s1, h⟩ := h
    exact AtV.go tabOk ext38Ok mixed false [] [] [0, 3, 4] [] [] (a1 trivial (a1 s0 (a1 s1 trivial))) (ih3 _ _ _ _ h K q) (by kernel_rfl)
  · intro v3 v4 x0 ds h K q
    rw [R38_3] at h
    by_cases b0 : (decide (v4 < (↑(List.length x0) : Int))) = true
    · rw [if_pos b0] at h
      obtain ⟨s0, s1, h⟩ := h
      obtain ⟨s2, h⟩ := h
      obtain ⟨s3, h⟩ := h
      obtain ⟨s4, h⟩ := h
      exact AtV.go tabOk ext38Ok mixed false [] [] [0, 3, 4] [] [true] (a1 b0 (a1 s0 (a1 s1 (a1 s2 (a1 s3 (a1 s4 trivial)))))) (ih3 _ _ _ _ h K q) (by kernel_rfl)
    · rw [if_neg b0] at h
      replace b0 := Bool.eq_false_iff.2 b0
      subst h
      exact AtV.ret Tryz.func38 tabOk ext38Ok mixed false [] tys38 [false] (a1 b0 trivial) (by kernel_rfl)
def hd38 (x0 : List TyB1) : ByteArray := ByteArray.mk #[97, 114, 99, 104, 105, 118, 101, 32] ++ g64_0 (x0.length : Int) ++ ByteArray.mk #[10]
def g38_0 (x0 : List TyB1) : ByteArray := x0.foldl (fun o b => o ++ g65_0 b) (hd38 x0)
def P38 (x0 : List TyB1) : Prop := x0.length ≤ 1048576 ∧ ∀ x ∈ x0, P65 x ∧ (g65_0 x).size ≤ 4194304
theorem hsz38 (x0 : List TyB1) (h : x0.length ≤ 1048576) : (g64_0 (x0.length : Int)).size ≤ 21 := numB_size _ (by omega) (by omega)
theorem run38 (x0 : List TyB1) (hp : P38 x0) : ∀ (k i : Nat) (o : ByteArray), i + k = x0.length → o.size ≤ 100 + 4194304 * i →
    R38_3 (k + 1) o (i : Int) x0 [⟨.str, (x0.drop i).foldl (fun o b => o ++ g65_0 b) o⟩] := by
  obtain ⟨hl, hx⟩ := hp
  intro k
  induction k with
  | zero =>
    intro i o hi ho
    rw [R38_3, if_neg (by simp; omega), drop_end x0 i (by omega)]
    rfl
  | succ k ih =>
    intro i o hi ho
    have hlt : i < x0.length := by omega
    obtain ⟨p, q⟩ := hx _ (mem_getD x0 i (ByteArray.empty, ByteArray.empty, ByteArray.empty, ()) hlt)
    rw [R38_3, if_pos (by simp; omega), drop_get x0 i (ByteArray.empty, ByteArray.empty, ByteArray.empty, ()) hlt]
    simp only [Int.toNat_natCast, List.foldl_cons]
    refine ⟨by omega, by omega, p, by omega, inR_up (xs := x0) (by unfold maxLen; omega) hlt, ?_⟩
    exact ih (i + 1) _ (by omega) (by rw [ByteArray.size_append]; omega)
theorem top38 (x0 : List TyB1) (hp : P38 x0) : R38 (x0.length + 1 + 1) x0 [⟨.str, g38_0 x0⟩] := by
  rw [R38]
  have hs := hsz38 x0 hp.1
  have i8 : (ByteArray.mk #[97, 114, 99, 104, 105, 118, 101, 32]).size = 8 := rfl
  have i1 : (ByteArray.mk #[10]).size = 1 := rfl
  refine ⟨by omega, by rw [ByteArray.size_append, i8]; omega, ?_⟩
  have := run38 x0 hp x0.length 0 (hd38 x0) (by omega) (by unfold hd38; simp only [ByteArray.size_append, i8, i1]; omega)
  simpa [g38_0, hd38] using this
def S38 : Am.Spec := { sig := sig38, pre := fun ⟨x0, _⟩ => P38 x0, res := fun ⟨x0, _⟩ => [⟨Ty.str, g38_0 x0⟩] }
theorem con38 : Contract Tryz.prog 38 S38 := contract_of Tryz.func38 hb38 (Nat.le_of_ble_eq_true (by kernel_rfl)) (fun ⟨x0, _⟩ h hwf K q =>
  (snd38 _).1 x0 _ (top38 x0 h) K q)
end
noncomputable section
def ext11 : Ext := [(37, S37), (38, S38)]
theorem ext11Ok : ExtOk Tryz.prog ext11 := ⟨⟨ca37, con37⟩, ⟨ca38, con38⟩, trivial⟩
noncomputable def b11 : Code := bodyOf Tryz.f11
theorem hb11 : Tryz.f11.body = some b11 := by kernel_rfl
def sig11 : List AT := [AT.v (Ty.sl YA3)]
def tys11 : List Ty := [Ty.str, Ty.int .i64]
def kds11 : List RK := []
def oks11 : List AT := owns sig11
def P11 (x0 : List TyB1) : Prop := (if (!g37_0 x0) = true then True else ((P38 x0) ∧ True))
def g11_0 (x0 : List TyB1) : ByteArray := (if (!g37_0 x0) = true then ByteArray.mk #[] else g38_0 x0)
def g11_1 (x0 : List TyB1) : Int := (if (!g37_0 x0) = true then 1 else 0)
theorem at11 (x0 : List TyB1) (h : P11 x0) (K : Ctx) (q : Nat → Value) : AtV Tryz.prog 11 (PostR kds11 oks11 [⟨Ty.str, g11_0 x0⟩, ⟨Ty.int .i64, g11_1 x0⟩] [] [] q K) 9 K q [] [.code b11] (entE 0 0 sig11 (x0, ())) (entL sig11 (x0, ())) := by
  unfold P11 at h
  unfold g11_0 g11_1
  by_cases b0 : (!g37_0 x0) = true
  · try simp only [if_pos b0] at h ⊢
    exact AtV.ret Tryz.func11 tabOk ext11Ok mixed false [] tys11 [true] (a1 trivial (a1 b0 trivial)) (by kernel_rfl)
  · try simp only [if_neg b0] at h ⊢
    replace b0 := Bool.eq_false_iff.2 b0
    obtain ⟨s0, h⟩ := h
    exact AtV.ret Tryz.func11 tabOk ext11Ok mixed false [] tys11 [false] (a1 trivial (a1 b0 (a1 s0 trivial))) (by kernel_rfl)
def S11 : Am.Spec := { sig := sig11, pre := fun ⟨x0, _⟩ => P11 x0, res := fun ⟨x0, _⟩ => [⟨Ty.str, g11_0 x0⟩, ⟨Ty.int .i64, g11_1 x0⟩], kds := kds11 }
theorem con11 : Contract Tryz.prog 11 S11 := contract_of Tryz.func11 hb11 (Nat.le_of_ble_eq_true (by kernel_rfl)) (fun ⟨x0, _⟩ h _ K q => at11 x0 h K q)
end
noncomputable section
def ext13 : Ext := []
theorem ext13Ok : ExtOk Tryz.prog ext13 := trivial
noncomputable def b13 : Code := bodyOf Tryz.f13
theorem hb13 : Tryz.f13.body = some b13 := by kernel_rfl
def sig13 : List AT := [AT.v (Ty.sl (Ty.int .u8)), AT.v (Ty.int .i64), AT.v (Ty.int .i64)]
def tys13 : List Ty := [Ty.int .i64]
def kds13 : List RK := []
def oks13 : List AT := owns sig13
def P13 (x0 : List Int) (x1 : Int) (x2 : Int) : Prop := (if (decide (x2 ≤ 1)) = true then True else (if (decide (x1 ≥ (↑(List.length x0) : Int))) = true then True else ((0 ≤ x1) ∧ (x1 < (↑(List.length x0) : Int)) ∧ ((InR .i64 (List.getD x0 (Int.toNat x1) 0)) ∧ ((x2 ≠ 0) ∧ (InR .i64 (Int.tmod (List.getD x0 (Int.toNat x1) 0) x2)) ∧ True)))))
def g13_0 (x0 : List Int) (x1 : Int) (x2 : Int) : Int := (if (decide (x2 ≤ 1)) = true then 0 else (if (decide (x1 ≥ (↑(List.length x0) : Int))) = true then 0 else Int.tmod (List.getD x0 (Int.toNat x1) 0) x2))
theorem at13 (x0 : List Int) (x1 : Int) (x2 : Int) (h : P13 x0 x1 x2) (K : Ctx) (q : Nat → Value) : AtV Tryz.prog 13 (PostR kds13 oks13 [⟨Ty.int .i64, g13_0 x0 x1 x2⟩] [] [] q K) 22 K q [] [.code b13] (entE 0 0 sig13 (x0, x1, x2, ())) (entL sig13 (x0, x1, x2, ())) := by
  unfold P13 at h
  unfold g13_0
  by_cases b0 : (decide (x2 ≤ 1)) = true
  · try simp only [if_pos b0] at h ⊢
    exact AtV.ret Tryz.func13 tabOk ext13Ok mixed false [] tys13 [true, true] (a1 b0 (a1 (rfl : true = true) trivial)) (by kernel_rfl)
  · try simp only [if_neg b0] at h ⊢
    replace b0 := Bool.eq_false_iff.2 b0
    by_cases b1 : (decide (x1 ≥ (↑(List.length x0) : Int))) = true
    · try simp only [if_pos b1] at h ⊢
      exact AtV.ret Tryz.func13 tabOk ext13Ok mixed false [] tys13 [false, true] (a1 b0 (a1 b1 trivial)) (by kernel_rfl)
    · try simp only [if_neg b1] at h ⊢
      replace b1 := Bool.eq_false_iff.2 b1
      obtain ⟨s0, s1, h⟩ := h
      obtain ⟨s2, h⟩ := h
      obtain ⟨s3, s4, h⟩ := h
      exact AtV.ret Tryz.func13 tabOk ext13Ok mixed false [] tys13 [false, false] (a1 b0 (a1 b1 (a1 s0 (a1 s1 (a1 s2 (a1 s3 (a1 s4 trivial))))))) (by kernel_rfl)
def S13 : Am.Spec := { sig := sig13, pre := fun ⟨x0, x1, x2, _⟩ => P13 x0 x1 x2, res := fun ⟨x0, x1, x2, _⟩ => [⟨Ty.int .i64, g13_0 x0 x1 x2⟩], kds := kds13 }
theorem con13 : Contract Tryz.prog 13 S13 := contract_of Tryz.func13 hb13 (Nat.le_of_ble_eq_true (by kernel_rfl)) (fun ⟨x0, x1, x2, _⟩ h _ K q => at13 x0 x1 x2 h K q)
end
noncomputable section
def ext12 : Ext := [(13, S13)]
theorem ext12Ok : ExtOk Tryz.prog ext12 := ⟨⟨ca13, con13⟩, trivial⟩
noncomputable def b12 : Code := bodyOf Tryz.f12
theorem hb12 : Tryz.f12.body = some b12 := by kernel_rfl
def sig12 : List AT := [AT.v (Ty.sl (Ty.int .u8)), AT.v (Ty.int .i64), AT.v (Ty.int .i64)]
def tys12 : List Ty := [Ty.int .i64]
def kds12 : List RK := []
def oks12 : List AT := owns sig12
def P12 (x0 : List Int) (x1 : Int) (x2 : Int) : Prop := ((P13 x0 x1 256) ∧ ((InR .i64 (256 * g13_0 x0 x1 256)) ∧ ((InR .i64 (x1 + 1)) ∧ ((P13 x0 (x1 + 1) 256) ∧ ((InR .i64 (256 * g13_0 x0 x1 256 + g13_0 x0 (x1 + 1) 256)) ∧ ((x2 ≠ 0) ∧ (InR .i64 (Int.tmod (256 * g13_0 x0 x1 256 + g13_0 x0 (x1 + 1) 256) x2)) ∧ True))))))
def g12_0 (x0 : List Int) (x1 : Int) (x2 : Int) : Int := Int.tmod (256 * g13_0 x0 x1 256 + g13_0 x0 (x1 + 1) 256) x2
theorem at12 (x0 : List Int) (x1 : Int) (x2 : Int) (h : P12 x0 x1 x2) (K : Ctx) (q : Nat → Value) : AtV Tryz.prog 12 (PostR kds12 oks12 [⟨Ty.int .i64, g12_0 x0 x1 x2⟩] [] [] q K) 18 K q [] [.code b12] (entE 0 0 sig12 (x0, x1, x2, ())) (entL sig12 (x0, x1, x2, ())) := by
  unfold P12 at h
  unfold g12_0
  obtain ⟨s0, h⟩ := h
  obtain ⟨s1, h⟩ := h
  obtain ⟨s2, h⟩ := h
  obtain ⟨s3, h⟩ := h
  obtain ⟨s4, h⟩ := h
  obtain ⟨s5, s6, h⟩ := h
  exact AtV.ret Tryz.func12 tabOk ext12Ok mixed false [] tys12 [] (a1 s0 (a1 s1 (a1 s2 (a1 s3 (a1 s4 (a1 s5 (a1 s6 trivial))))))) (by kernel_rfl)
def S12 : Am.Spec := { sig := sig12, pre := fun ⟨x0, x1, x2, _⟩ => P12 x0 x1 x2, res := fun ⟨x0, x1, x2, _⟩ => [⟨Ty.int .i64, g12_0 x0 x1 x2⟩], kds := kds12 }
theorem con12 : Contract Tryz.prog 12 S12 := contract_of Tryz.func12 hb12 (Nat.le_of_ble_eq_true (by kernel_rfl)) (fun ⟨x0, x1, x2, _⟩ h _ K q => at12 x0 x1 x2 h K q)
end
noncomputable section
def ext39 : Ext := [(45, S45), (66, S66)]
theorem ext39Ok : ExtOk Tryz.prog ext39 := ⟨⟨ca45, con45⟩, ⟨ca66, con66⟩, trivial⟩
noncomputable def b39 : Code := bodyOf Tryz.f39
theorem hb39 : Tryz.f39.body = some b39 := by kernel_rfl
def sig39 : List AT := [AT.pb YA2]
def tys39 : List Ty := [Ty.sl YA0]
def kds39 : List RK := []
def oks39 : List AT := owns sig39
def E39_4 (v5 : Int) (h2 : List TyB0) (x0 : List Int × Int × Int × Unit) : Env := [(0, PV.a (Atom.optr 0 0 [])), (3, PV.a (Atom.osl 1 Option.none)), (4, PV.a (Atom.osl 2 Option.none)), (5, PV.a (Atom.val (Value.int .i64 v5)))]
def L39_4 (v5 : Int) (h2 : List TyB0) (x0 : List Int × Int × Int × Unit) : Heap := [Option.some (Arr.mk YA2 [x0] true Option.none (Option.some true)), Option.some (Arr.mk Ty.str [ByteArray.mk #[98, 114, 97, 107, 101], ByteArray.mk #[100, 111, 111, 114], ByteArray.mk #[114, 111, 112, 101], ByteArray.mk #[115, 104, 111, 101], ByteArray.mk #[119, 104, 101, 101, 108]] false Option.none Option.none), Option.some (Arr.mk YA0 h2 false Option.none Option.none)]
mutual
def R39 : Nat → List Int × Int × Int × Unit → List Dyn → List (Option Lst) → Prop
  | 0, _, _, _ => False
  | n + 1, x0, ds, us => (R39_4 n (0) ([]) (x0) ds us)
def R39_4 : Nat → Int → List TyB0 → List Int × Int × Int × Unit → List Dyn → List (Option Lst) → Prop
  | 0, _, _, _, _, _ => False
  | n + 1, v5, h2, x0, ds, us => (if (decide (v5 < 5)) = true then ((P45 x0 3) ∧ (if (decide (g45_0 x0 3 > 0)) = true then ((0 ≤ v5) ∧ (v5 < 5) ∧ ((P66 (u45_0 x0 3) (List.getD [ByteArray.mk #[98, 114, 97, 107, 101], ByteArray.mk #[100, 111, 111, 114], ByteArray.mk #[114, 111, 112, 101], ByteArray.mk #[115, 104, 111, 101], ByteArray.mk #[119, 104, 101, 101, 108]] (Int.toNat v5) ByteArray.empty)) ∧ (((List.length h2 + 1) * 48 ≤ 140737488355328) ∧ ((InR .i64 (v5 + 1)) ∧ (R39_4 n (v5 + 1) (h2 ++ [(List.getD [ByteArray.mk #[98, 114, 97, 107, 101], ByteArray.mk #[100, 111, 111, 114], ByteArray.mk #[114, 111, 112, 101], ByteArray.mk #[115, 104, 111, 101], ByteArray.mk #[119, 104, 101, 101, 108]] (Int.toNat v5) ByteArray.empty, g100_0 (u45_0 x0 3) [1, 7, 30, 365], 50 * (1 + g45_0 (u45_0 (u100_0 (u45_0 x0 3) [1, 7, 30, 365]) 60) 60), g45_0 (u100_0 (u45_0 x0 3) [1, 7, 30, 365]) 60, g45_0 (u45_0 (u45_0 (u100_0 (u45_0 x0 3) [1, 7, 30, 365]) 60) 60) 3000, ())]) (u66_0 (u45_0 x0 3) (List.getD [ByteArray.mk #[98, 114, 97, 107, 101], ByteArray.mk #[100, 111, 111, 114], ByteArray.mk #[114, 111, 112, 101], ByteArray.mk #[115, 104, 111, 101], ByteArray.mk #[119, 104, 101, 101, 108]] (Int.toNat v5) ByteArray.empty)) ds us))))) else ((InR .i64 (v5 + 1)) ∧ (R39_4 n (v5 + 1) (h2) (u45_0 x0 3) ds us)))) else (ds = [Dyn.mk (Ty.sl YA0) h2] ∧ us = [Option.some (Lst.mk YA2 [x0])]))
end
theorem snd39 : ∀ n, (∀ (x0 : List Int × Int × Int × Unit) ds us, R39 n x0 ds us → ∀ K q, AtV Tryz.prog 39 (PostR kds39 oks39 ds us [0] q K) 27 K q [0] [.code b39] (entE 0 0 sig39 (x0, ())) (entL sig39 (x0, ()))) ∧ (∀ (v5 : Int) (h2 : List TyB0) (x0 : List Int × Int × Int × Unit) ds us, R39_4 n v5 h2 x0 ds us → ∀ K q, AtV Tryz.prog 39 (PostR kds39 oks39 ds us [0] q K) 27 K q [0] (cutAt b39 4) (E39_4 v5 h2 x0) (L39_4 v5 h2 x0)) := by
  intro n
  induction n with
  | zero => exact ⟨fun _ _ _ h => by simp only [R39] at h, fun _ _ _ _ _ h => by simp only [R39_4] at h⟩
  | succ n ih =>
  obtain ⟨ih, ih4⟩ := ih
  refine ⟨?_, ?_⟩
  · intro x0 ds us h K q
    rw [R39] at h
    exact AtV.go tabOk ext39Ok mixed false [] [] [0, 3, 4, 5] [0, 1, 2] [] trivial (ih4 _ _ _ _ _ h K q) (by kernel_rfl)
  · intro v5 h2 x0 ds us h K q
    rw [R39_4] at h
    by_cases b0 : (decide (v5 < 5)) = true
    · rw [if_pos b0] at h
      obtain ⟨s0, h⟩ := h
      by_cases b1 : (decide (g45_0 x0 3 > 0)) = true
      · rw [if_pos b1] at h
        obtain ⟨s1, s2, h⟩ := h
        obtain ⟨s3, h⟩ := h
        obtain ⟨s4, h⟩ := h
        obtain ⟨s5, h⟩ := h
        exact AtV.go tabOk ext39Ok mixed false [] [] [0, 3, 4, 5] [0, 1, 2] [true, true] (a1 b0 (a1 s0 (a1 b1 (a1 s1 (a1 s2 (a1 s3 (a1 s4 (a1 s5 trivial)))))))) (ih4 _ _ _ _ _ h K q) (by kernel_rfl)
      · rw [if_neg b1] at h
        replace b1 := Bool.eq_false_iff.2 b1
        obtain ⟨s1, h⟩ := h
        exact AtV.go tabOk ext39Ok mixed false [] [] [0, 3, 4, 5] [0, 1, 2] [true, false] (a1 b0 (a1 s0 (a1 b1 (a1 s1 trivial)))) (ih4 _ _ _ _ _ h K q) (by kernel_rfl)
    · rw [if_neg b0] at h
      replace b0 := Bool.eq_false_iff.2 b0
      obtain ⟨h, h'⟩ := h; subst h; subst h'
      exact AtV.ret Tryz.func39 tabOk ext39Ok mixed false [] tys39 [false] (a1 b0 trivial) (by kernel_rfl)
def NM39 : List ByteArray := [ByteArray.mk #[98, 114, 97, 107, 101], ByteArray.mk #[100, 111, 111, 114], ByteArray.mk #[114, 111, 112, 101], ByteArray.mk #[115, 104, 111, 101], ByteArray.mk #[119, 104, 101, 101, 108]]
def bnd39 (x : TyB0) : Prop := x.2.1 ∈ [1, 7, 30, 365] ∧ (50 ≤ x.2.2.1 ∧ x.2.2.1 ≤ 3000) ∧ (0 ≤ x.2.2.2.1 ∧ x.2.2.2.1 < 60) ∧ (0 ≤ x.2.2.2.2.1 ∧ x.2.2.2.2.1 < 3000)
def P39 (x0 : (List Int × Int × Int × Unit)) : Prop := SrcOk 800000000 x0
def Q39 (x0 : (List Int × Int × Int × Unit)) (y : List TyB0) (s : (List Int × Int × Int × Unit)) : Prop := SrcOk (x0.2.1 + 1000) s ∧ ((y.map fun x => x.1).Sublist NM39 ∧ ∀ x ∈ y, bnd39 x) ∧ ∃ n, R39 n x0 [⟨.sl (.cons .str (.cons (.int .i64) (.cons (.int .i64) (.cons (.int .i64) (.cons (.int .i64) .unit))))), y⟩] [some ⟨(.cons (.sl (.int .u8)) (.cons (.int .i64) (.cons (.int .u64) .unit))), [s]⟩]
theorem run39 : ∀ (k i : Nat) (s : (List Int × Int × Int × Unit)) (h : List TyB0) (m : Int), i + k = 5 → SrcOk m s → m + 20 * (k : Int) ≤ 900000000 → h.length ≤ i → (h.map fun x => x.1).Sublist (NM39.take i) → (∀ x ∈ h, bnd39 x) →
    ∃ (n : Nat) (y : List TyB0) (z : (List Int × Int × Int × Unit)), SrcOk (m + 20 * (k : Int)) z ∧ ((y.map fun x => x.1).Sublist NM39 ∧ ∀ x ∈ y, bnd39 x) ∧ R39_4 n (i : Int) h s [⟨.sl (.cons .str (.cons (.int .i64) (.cons (.int .i64) (.cons (.int .i64) (.cons (.int .i64) .unit))))), y⟩] [some ⟨(.cons (.sl (.int .u8)) (.cons (.int .i64) (.cons (.int .u64) .unit))), [z]⟩] := by
  intro k
  induction k with
  | zero =>
    intro i s h m hi hs hm hl hsub hb
    have : i = 5 := by omega
    subst this
    refine ⟨1, h, s, hs.up (by omega), ⟨hsub, hb⟩, ?_⟩
    rw [R39_4, if_neg (by decide)]
    exact ⟨rfl, rfl⟩
  | succ k ih =>
    intro i s h m hi hs hm hl hsub hb
    have hlt : i < NM39.length := by show i < 5; omega
    have e3 : (i : Int) + 1 = ((i + 1 : Nat) : Int) := by omega
    have et : NM39.take (i + 1) = NM39.take i ++ [NM39.getD i ByteArray.empty] := by
      rw [List.take_add_one, List.getD_eq_getElem?_getD, List.getElem?_eq_getElem hlt]
      rfl
    obtain ⟨p1, s1, _, _, _⟩ := pick_ok hs 3 (by omega)
    by_cases hc : g45_0 s 3 > 0
    · obtain ⟨p2, s2, c1, c2, c3, c4, c5⟩ := draw_check s1 (by omega) (NM39.getD i ByteArray.empty)
      obtain ⟨n, y, z, a1, a2, a3⟩ := ih (i + 1) _ (h ++ [g66_0 (u45_0 s 3) (NM39.getD i ByteArray.empty)]) (m + 2 + 8) (by omega) s2 (by omega) (by rw [List.length_append, List.length_singleton]; omega) (by
        rw [et, List.map_append, List.map_cons, List.map_nil, c1]
        exact List.Sublist.append hsub (List.Sublist.refl _)) (fun x hx => by
        rcases List.mem_append.1 hx with hx | hx
        · exact hb x hx
        · rw [List.mem_singleton.1 hx]; exact ⟨c2, c3, c4, c5⟩)
      refine ⟨n + 1, y, z, a1.up (by omega), a2, ?_⟩
      rw [R39_4, if_pos (by simp only [decide_eq_true_eq]; omega), if_pos (decide_eq_true hc), e3]
      simp only [Int.toNat_natCast]
      exact ⟨p1, by omega, by omega, p2, by omega, by rw [i64_iff]; omega, a3⟩
    · obtain ⟨n, y, z, a1, a2, a3⟩ := ih (i + 1) _ h (m + 2) (by omega) s1 (by omega) (by omega) (by
        rw [et]
        exact hsub.trans (List.sublist_append_left _ _)) hb
      refine ⟨n + 1, y, z, a1.up (by omega), a2, ?_⟩
      rw [R39_4, if_pos (by simp only [decide_eq_true_eq]; omega), if_neg (by simp only [decide_eq_true_eq]; exact hc), e3]
      exact ⟨p1, by rw [i64_iff]; omega, a3⟩
theorem ex39 (x0 : (List Int × Int × Int × Unit)) (h : P39 x0) : ∃ y s, Q39 x0 y s := by
  have h0 : x0.2.1 ≤ 800000000 := h.2.2
  obtain ⟨n, y, t, a1, a2, a3⟩ := run39 5 0 x0 [] _ (by omega) (SrcOk.self h) (by omega) (by simp) (List.Sublist.refl _) (fun x hx => by cases hx)
  exact ⟨y, t, a1.up (by omega), a2, n + 1, by rw [R39]; exact a3⟩
def g39_0 (x0 : (List Int × Int × Int × Unit)) : List TyB0 := (sel2 [] x0 (Q39 x0)).1
def u39_0 (x0 : (List Int × Int × Int × Unit)) : (List Int × Int × Int × Unit) := (sel2 [] x0 (Q39 x0)).2
theorem q39 (x0 : (List Int × Int × Int × Unit)) (h : P39 x0) : Q39 x0 (g39_0 x0) (u39_0 x0) := by
  obtain ⟨y, s, hq⟩ := ex39 x0 h
  exact sel2_spec hq
def S39 : Am.Spec := { sig := sig39, pre := fun ⟨x0, _⟩ => P39 x0, upd := fun ⟨x0, _⟩ => [some ⟨(.cons (.sl (.int .u8)) (.cons (.int .i64) (.cons (.int .u64) .unit))), [u39_0 x0]⟩], res := fun ⟨x0, _⟩ => [⟨.sl (.cons .str (.cons (.int .i64) (.cons (.int .i64) (.cons (.int .i64) (.cons (.int .i64) .unit))))), g39_0 x0⟩], kds := kds39 }
theorem con39 : Contract Tryz.prog 39 S39 := contract_of Tryz.func39 hb39 (Nat.le_of_ble_eq_true (by kernel_rfl)) (fun ⟨x0, _⟩ h hwf K q =>
  let ⟨n, hn⟩ := (q39 x0 h).2.2
  (snd39 n).1 x0 _ _ hn K q)
end
noncomputable section
def ext14 : Ext := [(18, S18), (39, S39)]
theorem ext14Ok : ExtOk Tryz.prog ext14 := ⟨⟨ca18, con18⟩, ⟨ca39, con39⟩, trivial⟩
noncomputable def b14 : Code := bodyOf Tryz.f14
theorem hb14 : Tryz.f14.body = some b14 := by kernel_rfl
def sig14 : List AT := [AT.v (Ty.sl (Ty.int .u8))]
def tys14 : List Ty := [Ty.sl YA0]
def kds14 : List RK := []
def oks14 : List AT := owns sig14
def P14 (x0 : List Int) : Prop := ((P39 (g18_0 x0)) ∧ True)
def g14_0 (x0 : List Int) : List TyB0 := g39_0 (g18_0 x0)
theorem at14 (x0 : List Int) (h : P14 x0) (K : Ctx) (q : Nat → Value) : AtV Tryz.prog 14 (PostR kds14 oks14 [⟨Ty.sl YA0, g14_0 x0⟩] [] [] q K) 8 K q [] [.code b14] (entE 0 0 sig14 (x0, ())) (entL sig14 (x0, ())) := by
  unfold P14 at h
  unfold g14_0
  obtain ⟨s0, h⟩ := h
  exact AtV.ret Tryz.func14 tabOk ext14Ok mixed false [] tys14 [] (a1 trivial (a1 s0 trivial)) (by kernel_rfl)
def S14 : Am.Spec := { sig := sig14, pre := fun ⟨x0, _⟩ => P14 x0, res := fun ⟨x0, _⟩ => [⟨Ty.sl YA0, g14_0 x0⟩], kds := kds14 }
theorem con14 : Contract Tryz.prog 14 S14 := contract_of Tryz.func14 hb14 (Nat.le_of_ble_eq_true (by kernel_rfl)) (fun ⟨x0, _⟩ h _ K q => at14 x0 h K q)
end
noncomputable section
def ext101 : Ext := [(30, S30)]
theorem ext101Ok : ExtOk Tryz.prog ext101 := ⟨⟨ca30, con30⟩, trivial⟩
noncomputable def b101 : Code := bodyOf Tryz.f101
theorem hb101 : Tryz.f101.body = some b101 := by kernel_rfl
def sig101 : List AT := [AT.v (Ty.int .i64)]
def tys101 : List Ty := [Ty.bool]
def kds101 : List RK := []
def oks101 : List AT := owns sig101
def P101 (x0 : Int) : Prop := True
def g101_0 (x0 : Int) : Bool := g30_0 x0 0 100000
theorem at101 (x0 : Int) (h : P101 x0) (K : Ctx) (q : Nat → Value) : AtV Tryz.prog 101 (PostR kds101 oks101 [⟨Ty.bool, g101_0 x0⟩] [] [] q K) 5 K q [] [.code b101] (entE 0 0 sig101 (x0, ())) (entL sig101 (x0, ())) := by
  unfold P101 at h
  unfold g101_0
  exact AtV.ret Tryz.func101 tabOk ext101Ok mixed false [] tys101 [] (a1 trivial trivial) (by kernel_rfl)
def S101 : Am.Spec := { sig := sig101, pre := fun ⟨x0, _⟩ => P101 x0, res := fun ⟨x0, _⟩ => [⟨Ty.bool, g101_0 x0⟩], kds := kds101 }
theorem con101 : Contract Tryz.prog 101 S101 := contract_of Tryz.func101 hb101 (Nat.le_of_ble_eq_true (by kernel_rfl)) (fun ⟨x0, _⟩ h _ K q => at101 x0 h K q)
end
noncomputable section
def ext102 : Ext := [(30, S30)]
theorem ext102Ok : ExtOk Tryz.prog ext102 := ⟨⟨ca30, con30⟩, trivial⟩
noncomputable def b102 : Code := bodyOf Tryz.f102
theorem hb102 : Tryz.f102.body = some b102 := by kernel_rfl
def sig102 : List AT := [AT.v (Ty.int .i64)]
def tys102 : List Ty := [Ty.bool]
def kds102 : List RK := []
def oks102 : List AT := owns sig102
def P102 (x0 : Int) : Prop := True
def g102_0 (x0 : Int) : Bool := g30_0 x0 0 1000000
theorem at102 (x0 : Int) (h : P102 x0) (K : Ctx) (q : Nat → Value) : AtV Tryz.prog 102 (PostR kds102 oks102 [⟨Ty.bool, g102_0 x0⟩] [] [] q K) 5 K q [] [.code b102] (entE 0 0 sig102 (x0, ())) (entL sig102 (x0, ())) := by
  unfold P102 at h
  unfold g102_0
  exact AtV.ret Tryz.func102 tabOk ext102Ok mixed false [] tys102 [] (a1 trivial trivial) (by kernel_rfl)
def S102 : Am.Spec := { sig := sig102, pre := fun ⟨x0, _⟩ => P102 x0, res := fun ⟨x0, _⟩ => [⟨Ty.bool, g102_0 x0⟩], kds := kds102 }
theorem con102 : Contract Tryz.prog 102 S102 := contract_of Tryz.func102 hb102 (Nat.le_of_ble_eq_true (by kernel_rfl)) (fun ⟨x0, _⟩ h _ K q => at102 x0 h K q)
end
noncomputable section
def ext67 : Ext := [(80, S80), (30, S30), (101, S101), (102, S102)]
theorem ext67Ok : ExtOk Tryz.prog ext67 := ⟨⟨ca80, con80⟩, ⟨ca30, con30⟩, ⟨ca101, con101⟩, ⟨ca102, con102⟩, trivial⟩
noncomputable def b67 : Code := bodyOf Tryz.f67
theorem hb67 : Tryz.f67.body = some b67 := by kernel_rfl
def sig67 : List AT := [AT.v YA0]
def tys67 : List Ty := [Ty.bool]
def kds67 : List RK := []
def oks67 : List AT := owns sig67
def P67 (x0 : ByteArray × Int × Int × Int × Int × Unit) : Prop := True
def g67_0 (x0 : ByteArray × Int × Int × Int × Int × Unit) : Bool := (if (g80_0 x0.1) = true then (if (g30_0 x0.2.1 1 100000) = true then (if (g30_0 x0.2.2.1 1 1000000) = true then (if (g101_0 x0.2.2.2.1) = true then g102_0 x0.2.2.2.2.1 else false) else false) else false) else false)
theorem at67 (x0 : ByteArray × Int × Int × Int × Int × Unit) (h : P67 x0) (K : Ctx) (q : Nat → Value) : AtV Tryz.prog 67 (PostR kds67 oks67 [⟨Ty.bool, g67_0 x0⟩] [] [] q K) 26 K q [] [.code b67] (entE 0 0 sig67 (x0, ())) (entL sig67 (x0, ())) := by
  unfold P67 at h
  unfold g67_0
  by_cases b0 : (g80_0 x0.1) = true
  · try simp only [if_pos b0] at h ⊢
    by_cases b1 : (g30_0 x0.2.1 1 100000) = true
    · try simp only [if_pos b1] at h ⊢
      by_cases b2 : (g30_0 x0.2.2.1 1 1000000) = true
      · try simp only [if_pos b2] at h ⊢
        by_cases b3 : (g101_0 x0.2.2.2.1) = true
        · try simp only [if_pos b3] at h ⊢
          exact AtV.ret Tryz.func67 tabOk ext67Ok mixed false [] tys67 [true, true, true, true] (a1 trivial (a1 b0 (a1 trivial (a1 b1 (a1 trivial (a1 b2 (a1 trivial (a1 b3 (a1 trivial trivial))))))))) (by kernel_rfl)
        · try simp only [if_neg b3] at h ⊢
          replace b3 := Bool.eq_false_iff.2 b3
          exact AtV.ret Tryz.func67 tabOk ext67Ok mixed false [] tys67 [true, true, true, false] (a1 trivial (a1 b0 (a1 trivial (a1 b1 (a1 trivial (a1 b2 (a1 trivial (a1 b3 trivial)))))))) (by kernel_rfl)
      · try simp only [if_neg b2] at h ⊢
        replace b2 := Bool.eq_false_iff.2 b2
        exact AtV.ret Tryz.func67 tabOk ext67Ok mixed false [] tys67 [true, true, false, false] (a1 trivial (a1 b0 (a1 trivial (a1 b1 (a1 trivial (a1 b2 (a1 (rfl : false = false) trivial))))))) (by kernel_rfl)
    · try simp only [if_neg b1] at h ⊢
      replace b1 := Bool.eq_false_iff.2 b1
      exact AtV.ret Tryz.func67 tabOk ext67Ok mixed false [] tys67 [true, false, false, false] (a1 trivial (a1 b0 (a1 trivial (a1 b1 (a1 (rfl : false = false) (a1 (rfl : false = false) trivial)))))) (by kernel_rfl)
  · try simp only [if_neg b0] at h ⊢
    replace b0 := Bool.eq_false_iff.2 b0
    exact AtV.ret Tryz.func67 tabOk ext67Ok mixed false [] tys67 [false, false, false, false] (a1 trivial (a1 b0 (a1 (rfl : false = false) (a1 (rfl : false = false) (a1 (rfl : false = false) trivial))))) (by kernel_rfl)
def S67 : Am.Spec := { sig := sig67, pre := fun ⟨x0, _⟩ => P67 x0, res := fun ⟨x0, _⟩ => [⟨Ty.bool, g67_0 x0⟩], kds := kds67 }
theorem con67 : Contract Tryz.prog 67 S67 := contract_of Tryz.func67 hb67 (Nat.le_of_ble_eq_true (by kernel_rfl)) (fun ⟨x0, _⟩ h _ K q => at67 x0 h K q)
end
noncomputable section
def ext40 : Ext := [(67, S67)]
theorem ext40Ok : ExtOk Tryz.prog ext40 := ⟨⟨ca67, con67⟩, trivial⟩
noncomputable def b40 : Code := bodyOf Tryz.f40
theorem hb40 : Tryz.f40.body = some b40 := by kernel_rfl
def sig40 : List AT := [AT.v (Ty.sl YA0)]
def tys40 : List Ty := [Ty.bool]
def kds40 : List RK := []
def oks40 : List AT := owns sig40
def E40_2 (v7 : Int) (x0 : List TyB0) : Env := [(0, PV.a (Atom.sl YA0 x0)), (5, PV.a (Atom.sl YA0 x0)), (6, PV.a (Atom.val (Value.int .i64 (↑(List.length x0) : Int)))), (7, PV.a (Atom.val (Value.int .i64 v7)))]
def L40_2 (v7 : Int) (x0 : List TyB0) : Heap := []
mutual
def R40 : Nat → List TyB0 → List Dyn → Prop
  | 0, _, _ => False
  | n + 1, x0, ds => (R40_2 n (0) (x0) ds)
def R40_2 : Nat → Int → List TyB0 → List Dyn → Prop
  | 0, _, _, _ => False
  | n + 1, v7, x0, ds => (if (decide (v7 < (↑(List.length x0) : Int))) = true then ((0 ≤ v7) ∧ (v7 < (↑(List.length x0) : Int)) ∧ (if (!g67_0 (List.getD x0 (Int.toNat v7) (ByteArray.empty, 0, 0, 0, 0, ()))) = true then (ds = [Dyn.mk Ty.bool false]) else (if (decide (v7 > 0)) = true then ((InR .i64 (v7 - 1)) ∧ ((0 ≤ v7 - 1) ∧ (v7 - 1 < (↑(List.length x0) : Int)) ∧ (if (Op.bytesLess (ByteArray.toList (List.getD x0 (Int.toNat v7) (ByteArray.empty, 0, 0, 0, 0, ())).1) (ByteArray.toList (List.getD x0 (Int.toNat (v7 - 1)) (ByteArray.empty, 0, 0, 0, 0, ())).1) || ByteArray.toList (List.getD x0 (Int.toNat v7) (ByteArray.empty, 0, 0, 0, 0, ())).1 == ByteArray.toList (List.getD x0 (Int.toNat (v7 - 1)) (ByteArray.empty, 0, 0, 0, 0, ())).1) = true then (ds = [Dyn.mk Ty.bool false]) else ((InR .i64 (v7 + 1)) ∧ (R40_2 n (v7 + 1) (x0) ds))))) else ((InR .i64 (v7 + 1)) ∧ (R40_2 n (v7 + 1) (x0) ds))))) else (ds = [Dyn.mk Ty.bool (decide ((↑(List.length x0) : Int) ≤ 16))]))
end
theorem snd40 : ∀ n, (∀ (x0 : List TyB0) ds, R40 n x0 ds → ∀ K q, AtV Tryz.prog 40 (PostR kds40 oks40 ds [] [] q K) 34 K q [] [.code b40] (entE 0 0 sig40 (x0, ())) (entL sig40 (x0, ()))) ∧ (∀ (v7 : Int) (x0 : List TyB0) ds, R40_2 n v7 x0 ds → ∀ K q, AtV Tryz.prog 40 (PostR kds40 oks40 ds [] [] q K) 34 K q [] (cutAt b40 2) (E40_2 v7 x0) (L40_2 v7 x0)) := by
  intro n
  induction n with
  | zero => exact ⟨fun _ _ h => by simp only [R40] at h, fun _ _ _ h => by simp only [R40_2] at h⟩
  | succ n ih =>
  obtain ⟨ih, ih2⟩ := ih
  refine ⟨?_, ?_⟩
  · intro x0 ds h K q
    rw [R40] at h
    exact AtV.go tabOk ext40Ok mixed false [] [] [0, 5, 6, 7] [] [] trivial (ih2 _ _ _ h K q) (by kernel_rfl)
  · intro v7 x0 ds h K q
    rw [R40_2] at h
    by_cases b0 : (decide (v7 < (↑(List.length x0) : Int))) = true
    · rw [if_pos b0] at h
      obtain ⟨s0, s1, h⟩ := h
      by_cases b1 : (!g67_0 (List.getD x0 (Int.toNat v7) (ByteArray.empty, 0, 0, 0, 0, ()))) = true
      · rw [if_pos b1] at h
        subst h
        exact AtV.ret Tryz.func40 tabOk ext40Ok mixed false [] tys40 [true, true, true] (a1 b0 (a1 s0 (a1 s1 (a1 trivial (a1 b1 (a1 (rfl : true = true) trivial)))))) (by kernel_rfl)
      · rw [if_neg b1] at h
        replace b1 := Bool.eq_false_iff.2 b1
        by_cases b2 : (decide (v7 > 0)) = true
        · rw [if_pos b2] at h
          obtain ⟨s2, h⟩ := h
          obtain ⟨s3, s4, h⟩ := h
          by_cases b3 : (Op.bytesLess (ByteArray.toList (List.getD x0 (Int.toNat v7) (ByteArray.empty, 0, 0, 0, 0, ())).1) (ByteArray.toList (List.getD x0 (Int.toNat (v7 - 1)) (ByteArray.empty, 0, 0, 0, 0, ())).1) || ByteArray.toList (List.getD x0 (Int.toNat v7) (ByteArray.empty, 0, 0, 0, 0, ())).1 == ByteArray.toList (List.getD x0 (Int.toNat (v7 - 1)) (ByteArray.empty, 0, 0, 0, 0, ())).1) = true
          · rw [if_pos b3] at h
            subst h
            exact AtV.ret Tryz.func40 tabOk ext40Ok mixed false [] tys40 [true, false, true, true] (a1 b0 (a1 s0 (a1 s1 (a1 trivial (a1 b1 (a1 b2 (a1 s2 (a1 s3 (a1 s4 (a1 b3 trivial)))))))))) (by kernel_rfl)
          · rw [if_neg b3] at h
            replace b3 := Bool.eq_false_iff.2 b3
            obtain ⟨s5, h⟩ := h
            exact AtV.go tabOk ext40Ok mixed false [] [] [0, 5, 6, 7] [] [true, false, true, false] (a1 b0 (a1 s0 (a1 s1 (a1 trivial (a1 b1 (a1 b2 (a1 s2 (a1 s3 (a1 s4 (a1 b3 (a1 s5 trivial))))))))))) (ih2 _ _ _ h K q) (by kernel_rfl)
        · rw [if_neg b2] at h
          replace b2 := Bool.eq_false_iff.2 b2
          obtain ⟨s2, h⟩ := h
          exact AtV.go tabOk ext40Ok mixed false [] [] [0, 5, 6, 7] [] [true, false, false, false] (a1 b0 (a1 s0 (a1 s1 (a1 trivial (a1 b1 (a1 b2 (a1 (rfl : false = false) (a1 s2 trivial)))))))) (ih2 _ _ _ h K q) (by kernel_rfl)
    · rw [if_neg b0] at h
      replace b0 := Bool.eq_false_iff.2 b0
      subst h
      exact AtV.ret Tryz.func40 tabOk ext40Ok mixed false [] tys40 [false] (a1 b0 trivial) (by kernel_rfl)
def ok40 (x0 : List TyB0) (i : Nat) (x : TyB0) : Bool :=
  g67_0 x && (i == 0 || !(Op.bytesLess (ByteArray.toList x.1) (ByteArray.toList (x0.getD (i - 1) (ByteArray.empty, (0 : Int), (0 : Int), (0 : Int), (0 : Int), ())).1) || ByteArray.toList x.1 == ByteArray.toList (x0.getD (i - 1) (ByteArray.empty, (0 : Int), (0 : Int), (0 : Int), (0 : Int), ())).1))
def g40_0 (x0 : List TyB0) : Bool := allI (ok40 x0) 0 x0 && decide (x0.length ≤ 16)
def P40 (x0 : List TyB0) : Prop := True
theorem step40 (n i : Nat) (x0 : List TyB0) (hm : x0.length ≤ maxLen) (hi : i < x0.length) (ds : List Dyn) :
    (if ok40 x0 i (x0.getD i (ByteArray.empty, (0 : Int), (0 : Int), (0 : Int), (0 : Int), ())) = true then R40_2 n ((i : Int) + 1) x0 ds else ds = [⟨.bool, false⟩]) → R40_2 (n + 1) (i : Int) x0 ds := by
  intro h
  have hu := inR_up hm hi
  rw [R40_2, if_pos (by simp; omega)]
  refine ⟨by omega, by omega, ?_⟩
  simp only [Int.toNat_natCast]
  unfold ok40 at h
  by_cases h1 : g67_0 (x0.getD i (ByteArray.empty, (0 : Int), (0 : Int), (0 : Int), (0 : Int), ())) = true
  case neg =>
    have h1 := Bool.eq_false_iff.2 h1
    rw [h1] at h
    rw [if_pos (by rw [h1]; rfl)]
    simpa using h
  case pos =>
    rw [h1] at h
    rw [if_neg (by rw [h1]; simp)]
    by_cases h0 : (i : Int) > 0
    · rw [if_pos (by simpa using h0)]
      have hi0 : (i == 0) = false := by simp; omega
      have e : ((i : Int) - 1).toNat = i - 1 := by omega
      refine ⟨by rw [i64_iff]; have : maxLen ≤ 9223372036854775807 := by decide
                 omega, by omega, by omega, ?_⟩
      rw [e]
      by_cases h2 : (Op.bytesLess (ByteArray.toList (x0.getD i (ByteArray.empty, (0 : Int), (0 : Int), (0 : Int), (0 : Int), ())).1) (ByteArray.toList (x0.getD (i - 1) (ByteArray.empty, (0 : Int), (0 : Int), (0 : Int), (0 : Int), ())).1) || ByteArray.toList (x0.getD i (ByteArray.empty, (0 : Int), (0 : Int), (0 : Int), (0 : Int), ())).1 == ByteArray.toList (x0.getD (i - 1) (ByteArray.empty, (0 : Int), (0 : Int), (0 : Int), (0 : Int), ())).1) = true
      · rw [if_pos h2]
        rw [hi0, h2] at h
        simpa using h
      · rw [if_neg h2]
        rw [hi0, Bool.eq_false_iff.2 h2] at h
        exact ⟨hu, by simpa using h⟩
    · rw [if_neg (by simpa using h0)]
      have hi0 : (i == 0) = true := by simp; omega
      rw [hi0] at h
      exact ⟨hu, by simpa using h⟩
theorem top40 (x0 : List TyB0) (hw : x0.length ≤ maxLen) : R40 (x0.length + 1 + 1) x0 [⟨.bool, g40_0 x0⟩] := by
  rw [R40]
  have key := loop_testI x0 (ByteArray.empty, (0 : Int), (0 : Int), (0 : Int), (0 : Int), ()) (ok40 x0) [(⟨.bool, false⟩ : Dyn)] [⟨.bool, decide (x0.length ≤ 16)⟩] (fun n i ds => R40_2 n i x0 ds) (fun n => ?_) (fun n i hi hok ds hr => ?_) (fun n i hi hok => ?_)
  · unfold g40_0
    cases h : allI (ok40 x0) 0 x0 with
    | true => rw [if_pos h] at key; simpa using key
    | false => rw [if_neg (by rw [h]; simp)] at key; simpa using key
  · rw [R40_2, if_neg (by simp)]
    have hc : decide ((x0.length : Int) ≤ 16) = decide (x0.length ≤ 16) := by
      congr 1; exact propext ⟨fun h => by omega, fun h => by omega⟩
    rw [hc]
  · exact step40 n i x0 hw hi ds (by rw [if_pos hok]; exact hr)
  · exact step40 n i x0 hw hi _ (by rw [if_neg (by rw [hok]; simp)])
def S40 : Am.Spec := { sig := sig40, pre := fun ⟨x0, _⟩ => P40 x0, res := fun ⟨x0, _⟩ => [⟨Ty.bool, g40_0 x0⟩] }
theorem con40 : Contract Tryz.prog 40 S40 := contract_of Tryz.func40 hb40 (Nat.le_of_ble_eq_true (by kernel_rfl)) (fun ⟨x0, _⟩ h hwf K q =>
  (snd40 _).1 x0 _ (top40 x0 hwf.1.1) K q)
end
noncomputable section
def ext41 : Ext := [(67, S67), (68, S68)]
theorem ext41Ok : ExtOk Tryz.prog ext41 := ⟨⟨ca67, con67⟩, ⟨ca68, con68⟩, trivial⟩
noncomputable def b41 : Code := bodyOf Tryz.f41
theorem hb41 : Tryz.f41.body = some b41 := by kernel_rfl
def sig41 : List AT := [AT.v YA0]
def tys41 : List Ty := [Ty.str]
def kds41 : List RK := []
def oks41 : List AT := owns sig41
def P41 (x0 : ByteArray × Int × Int × Int × Int × Unit) : Prop := (if (!g67_0 x0) = true then True else ((ByteArray.size x0.1 + 1 ≤ 9223372036854775807) ∧ ((ByteArray.size (x0.1 ++ ByteArray.mk #[32]) + ByteArray.size (g68_0 [x0.2.1, x0.2.2.1, x0.2.2.2.1, x0.2.2.2.2.1]) ≤ 9223372036854775807) ∧ True)))
def g41_0 (x0 : ByteArray × Int × Int × Int × Int × Unit) : ByteArray := (if (!g67_0 x0) = true then ByteArray.mk #[] else x0.1 ++ ByteArray.mk #[32] ++ g68_0 [x0.2.1, x0.2.2.1, x0.2.2.2.1, x0.2.2.2.2.1])
theorem at41 (x0 : ByteArray × Int × Int × Int × Int × Unit) (h : P41 x0) (K : Ctx) (q : Nat → Value) : AtV Tryz.prog 41 (PostR kds41 oks41 [⟨Ty.str, g41_0 x0⟩] [] [] q K) 20 K q [] [.code b41] (entE 0 0 sig41 (x0, ())) (entL sig41 (x0, ())) := by
  unfold P41 at h
  unfold g41_0
  by_cases b0 : (!g67_0 x0) = true
  · try simp only [if_pos b0] at h ⊢
    exact AtV.ret Tryz.func41 tabOk ext41Ok mixed false [] tys41 [true] (a1 trivial (a1 b0 trivial)) (by kernel_rfl)
  · try simp only [if_neg b0] at h ⊢
    replace b0 := Bool.eq_false_iff.2 b0
    obtain ⟨s0, h⟩ := h
    obtain ⟨s1, h⟩ := h
    exact AtV.ret Tryz.func41 tabOk ext41Ok mixed false [] tys41 [false] (a1 trivial (a1 b0 (a1 s0 (a1 trivial (a1 s1 trivial))))) (by kernel_rfl)
def S41 : Am.Spec := { sig := sig41, pre := fun ⟨x0, _⟩ => P41 x0, res := fun ⟨x0, _⟩ => [⟨Ty.str, g41_0 x0⟩], kds := kds41 }
theorem con41 : Contract Tryz.prog 41 S41 := contract_of Tryz.func41 hb41 (Nat.le_of_ble_eq_true (by kernel_rfl)) (fun ⟨x0, _⟩ h _ K q => at41 x0 h K q)
end
noncomputable section
def ext15 : Ext := [(40, S40), (41, S41)]
theorem ext15Ok : ExtOk Tryz.prog ext15 := ⟨⟨ca40, con40⟩, ⟨ca41, con41⟩, trivial⟩
noncomputable def b15 : Code := bodyOf Tryz.f15
theorem hb15 : Tryz.f15.body = some b15 := by kernel_rfl
def sig15 : List AT := [AT.v (Ty.sl YA0)]
def tys15 : List Ty := [Ty.sl YA3, Ty.int .i64]
def kds15 : List RK := []
def oks15 : List AT := owns sig15
def E15_5 (v12 : Int) (h0 : List TyB1) (x0 : List TyB0) : Env := [(4, PV.a (Atom.osl 0 Option.none)), (10, PV.a (Atom.sl YA0 x0)), (11, PV.a (Atom.val (Value.int .i64 (↑(List.length x0) : Int)))), (12, PV.a (Atom.val (Value.int .i64 v12)))]
def L15_5 (v12 : Int) (h0 : List TyB1) (x0 : List TyB0) : Heap := [Option.some (Arr.mk YA3 h0 false Option.none Option.none)]
mutual
def R15 : Nat → List TyB0 → List Dyn → Prop
  | 0, _, _ => False
  | n + 1, x0, ds => (if (!g40_0 x0) = true then (ds = [Dyn.mk (Ty.sl YA3) [], Dyn.mk (Ty.int .i64) 1]) else (R15_5 n (0) ([]) (x0) ds))
def R15_5 : Nat → Int → List TyB1 → List TyB0 → List Dyn → Prop
  | 0, _, _, _, _ => False
  | n + 1, v12, h0, x0, ds => (if (decide (v12 < (↑(List.length x0) : Int))) = true then ((0 ≤ v12) ∧ (v12 < (↑(List.length x0) : Int)) ∧ ((P41 (List.getD x0 (Int.toNat v12) (ByteArray.empty, 0, 0, 0, 0, ()))) ∧ (((List.length h0 + 1) * 48 ≤ 140737488355328) ∧ ((InR .i64 (v12 + 1)) ∧ (R15_5 n (v12 + 1) (h0 ++ [(ByteArray.mk #[99, 104, 101, 99, 107], (List.getD x0 (Int.toNat v12) (ByteArray.empty, 0, 0, 0, 0, ())).1, g41_0 (List.getD x0 (Int.toNat v12) (ByteArray.empty, 0, 0, 0, 0, ())), ())]) (x0) ds))))) else (ds = [Dyn.mk (Ty.sl YA3) h0, Dyn.mk (Ty.int .i64) 0]))
end
theorem snd15 : ∀ n, (∀ (x0 : List TyB0) ds, R15 n x0 ds → ∀ K q, AtV Tryz.prog 15 (PostR kds15 oks15 ds [] [] q K) 26 K q [] [.code b15] (entE 0 0 sig15 (x0, ())) (entL sig15 (x0, ()))) ∧ (∀ (v12 : Int) (h0 : List TyB1) (x0 : List TyB0) ds, R15_5 n v12 h0 x0 ds → ∀ K q, AtV Tryz.prog 15 (PostR kds15 oks15 ds [] [] q K) 26 K q [] (cutAt b15 5) (E15_5 v12 h0 x0) (L15_5 v12 h0 x0)) := by
  intro n
  induction n with
  | zero => exact ⟨fun _ _ h => by simp only [R15] at h, fun _ _ _ _ h => by simp only [R15_5] at h⟩
  | succ n ih =>
  obtain ⟨ih, ih5⟩ := ih
  refine ⟨?_, ?_⟩
  · intro x0 ds h K q
    rw [R15] at h
    by_cases b0 : (!g40_0 x0) = true
    · rw [if_pos b0] at h
      subst h
      exact AtV.ret Tryz.func15 tabOk ext15Ok mixed false [] tys15 [true] (a1 trivial (a1 b0 trivial)) (by kernel_rfl)
    · rw [if_neg b0] at h
      replace b0 := Bool.eq_false_iff.2 b0
      exact AtV.go tabOk ext15Ok mixed false [] [(4, Ty.cons Ty.str YA5)] [4, 10, 11, 12] [0] [false] (a1 trivial (a1 b0 trivial)) (ih5 _ _ _ _ h K q) (by kernel_rfl)
  · intro v12 h0 x0 ds h K q
    rw [R15_5] at h
    by_cases b0 : (decide (v12 < (↑(List.length x0) : Int))) = true
    · rw [if_pos b0] at h
      obtain ⟨s0, s1, h⟩ := h
      obtain ⟨s2, h⟩ := h
      obtain ⟨s3, h⟩ := h
      obtain ⟨s4, h⟩ := h
      exact AtV.go tabOk ext15Ok mixed false [] [(4, Ty.cons Ty.str YA5)] [4, 10, 11, 12] [0] [true] (a1 b0 (a1 s0 (a1 s1 (a1 s2 (a1 s3 (a1 s4 trivial)))))) (ih5 _ _ _ _ h K q) (by kernel_rfl)
    · rw [if_neg b0] at h
      replace b0 := Bool.eq_false_iff.2 b0
      subst h
      exact AtV.ret Tryz.func15 tabOk ext15Ok mixed false [] tys15 [false] (a1 b0 trivial) (by kernel_rfl)
def blk15 (x : TyB0) : TyB1 := (ByteArray.mk #[99, 104, 101, 99, 107], x.1, g41_0 x, ())
def g15_0 (x0 : List TyB0) : List TyB1 := if g40_0 x0 = true then x0.map blk15 else []
def g15_1 (x0 : List TyB0) : Int := if g40_0 x0 = true then 0 else 1
def P15 (x0 : List TyB0) : Prop := ∀ x ∈ x0, P41 x
theorem top15 (x0 : List TyB0) (hp : P15 x0) : R15 (x0.length + 1 + 1) x0 [⟨.sl (.cons .str (.cons .str (.cons .str .unit))), g15_0 x0⟩, ⟨.int .i64, g15_1 x0⟩] := by
  rw [R15]
  unfold g15_0 g15_1
  cases hok : g40_0 x0 with
  | false => rw [if_pos (by simp)]; rfl
  | true =>
    rw [if_neg (by simp)]
    have hlen : x0.length ≤ 16 := by
      unfold g40_0 at hok
      simp only [Bool.and_eq_true, decide_eq_true_eq] at hok
      exact hok.2
    have hm : x0.length ≤ maxLen := by unfold maxLen; omega
    have key := loop_fold (b := []) x0 (ByteArray.empty, (0 : Int), (0 : Int), (0 : Int), (0 : Int), ()) (fun (h : List TyB1) b => h ++ [blk15 b]) (fun h => [(⟨.sl (.cons .str (.cons .str (.cons .str .unit))), h⟩ : Dyn), ⟨.int .i64, (0 : Int)⟩]) (fun i h => h.length ≤ i) (fun n i h ds => R15_5 n i h x0 ds) (by simp) (fun n h _ => ?_) (fun n i h hi hl => ⟨len_up hl, fun ds hr => ?_⟩)
    · rw [foldl_snoc] at key
      simpa using key
    · show R15_5 (n + 1) x0.length h x0 _
      rw [R15_5, if_neg (by simp)]
    · rw [R15_5, if_pos (by simp; omega)]
      simp only [Int.toNat_natCast]
      have hP := hp (x0.getD i (ByteArray.empty, (0 : Int), (0 : Int), (0 : Int), (0 : Int), ())) (mem_getD x0 i _ hi)
      exact ⟨by omega, by omega, hP, by omega, inR_up hm hi, hr⟩
def S15 : Am.Spec := { sig := sig15, pre := fun ⟨x0, _⟩ => P15 x0, res := fun ⟨x0, _⟩ => [⟨.sl (.cons .str (.cons .str (.cons .str .unit))), g15_0 x0⟩, ⟨.int .i64, g15_1 x0⟩] }
theorem con15 : Contract Tryz.prog 15 S15 := contract_of Tryz.func15 hb15 (Nat.le_of_ble_eq_true (by kernel_rfl)) (fun ⟨x0, _⟩ h hwf K q =>
  (snd15 _).1 x0 _ (top15 x0 h) K q)
end
noncomputable section
def ext107 : Ext := [(54, S54), (28, S28), (68, S68)]
theorem ext107Ok : ExtOk Tryz.prog ext107 := ⟨⟨ca54, con54⟩, ⟨ca28, con28⟩, ⟨ca68, con68⟩, trivial⟩
noncomputable def b107 : Code := bodyOf Tryz.f107
theorem hb107 : Tryz.f107.body = some b107 := by kernel_rfl
def sig107 : List AT := [AT.v (Ty.str)]
def tys107 : List Ty := [Ty.sl (Ty.int .i64), Ty.bool]
def kds107 : List RK := []
def oks107 : List AT := owns sig107
def E107_5 (v14 : Int) (h0 : List Int) (x0 : ByteArray) : Env := [(0, PV.a (Atom.val (Value.string x0))), (4, PV.a (Atom.osl 0 Option.none)), (12, PV.a (Atom.osl 1 Option.none)), (13, PV.a (Atom.val (Value.int .i64 (↑(List.length (g54_0 x0 (ByteArray.mk #[44]))) : Int)))), (14, PV.a (Atom.val (Value.int .i64 v14)))]
def L107_5 (v14 : Int) (h0 : List Int) (x0 : ByteArray) : Heap := [Option.some (Arr.mk (Ty.int .i64) h0 false Option.none Option.none), Option.some (Arr.mk Ty.str (g54_0 x0 (ByteArray.mk #[44])) false Option.none Option.none)]
mutual
def R107 : Nat → ByteArray → List Dyn → Prop
  | 0, _, _ => False
  | n + 1, x0, ds => (if (ByteArray.toList x0 == ByteArray.toList (ByteArray.mk #[45])) = true then (ds = [Dyn.mk (Ty.sl (Ty.int .i64)) [], Dyn.mk Ty.bool true]) else ((P54 x0 (ByteArray.mk #[44])) ∧ (R107_5 n (0) ([]) (x0) ds)))
def R107_5 : Nat → Int → List Int → ByteArray → List Dyn → Prop
  | 0, _, _, _, _ => False
  | n + 1, v14, h0, x0, ds => (if (decide (v14 < (↑(List.length (g54_0 x0 (ByteArray.mk #[44]))) : Int))) = true then ((0 ≤ v14) ∧ (v14 < (↑(List.length (g54_0 x0 (ByteArray.mk #[44]))) : Int)) ∧ ((P28 (List.getD (g54_0 x0 (ByteArray.mk #[44])) (Int.toNat v14) ByteArray.empty)) ∧ (((List.length h0 + 1) * 8 ≤ 140737488355328) ∧ ((InR .i64 (v14 + 1)) ∧ (R107_5 n (v14 + 1) (h0 ++ [g28_0 (List.getD (g54_0 x0 (ByteArray.mk #[44])) (Int.toNat v14) ByteArray.empty)]) (x0) ds))))) else (if (!ByteArray.toList (g68_0 h0) == ByteArray.toList x0) = true then (ds = [Dyn.mk (Ty.sl (Ty.int .i64)) [], Dyn.mk Ty.bool false]) else (ds = [Dyn.mk (Ty.sl (Ty.int .i64)) h0, Dyn.mk Ty.bool true])))
end
theorem snd107 : ∀ n, (∀ (x0 : ByteArray) ds, R107 n x0 ds → ∀ K q, AtV Tryz.prog 107 (PostR kds107 oks107 ds [] [] q K) 33 K q [] [.code b107] (entE 0 0 sig107 (x0, ())) (entL sig107 (x0, ()))) ∧ (∀ (v14 : Int) (h0 : List Int) (x0 : ByteArray) ds, R107_5 n v14 h0 x0 ds → ∀ K q, AtV Tryz.prog 107 (PostR kds107 oks107 ds [] [] q K) 33 K q [] (cutAt b107 5) (E107_5 v14 h0 x0) (L107_5 v14 h0 x0)) := by
  intro n
  induction n with
  | zero => exact ⟨fun _ _ h => by simp only [R107] at h, fun _ _ _ _ h => by simp only [R107_5] at h⟩
  | succ n ih =>
  obtain ⟨ih, ih5⟩ := ih
  refine ⟨?_, ?_⟩
  · intro x0 ds h K q
    rw [R107] at h
    by_cases b0 : (ByteArray.toList x0 == ByteArray.toList (ByteArray.mk #[45])) = true
    · rw [if_pos b0] at h
      subst h
      exact AtV.ret Tryz.func107 tabOk ext107Ok mixed false [] tys107 [true] (a1 b0 trivial) (by kernel_rfl)
    · rw [if_neg b0] at h
      replace b0 := Bool.eq_false_iff.2 b0
      obtain ⟨s0, h⟩ := h
      exact AtV.go tabOk ext107Ok mixed false [] [(4, Ty.int .i64)] [0, 4, 12, 13, 14] [1, 0] [false] (a1 b0 (a1 s0 trivial)) (ih5 _ _ _ _ h K q) (by kernel_rfl)
  · intro v14 h0 x0 ds h K q
    rw [R107_5] at h
    by_cases b0 : (decide (v14 < (↑(List.length (g54_0 x0 (ByteArray.mk #[44]))) : Int))) = true
    · rw [if_pos b0] at h
      obtain ⟨s0, s1, h⟩ := h
      obtain ⟨s2, h⟩ := h
      obtain ⟨s3, h⟩ := h
      obtain ⟨s4, h⟩ := h
      exact AtV.go tabOk ext107Ok mixed false [] [(4, Ty.int .i64)] [0, 4, 12, 13, 14] [0, 1] [true] (a1 b0 (a1 s0 (a1 s1 (a1 s2 (a1 s3 (a1 s4 trivial)))))) (ih5 _ _ _ _ h K q) (by kernel_rfl)
    · rw [if_neg b0] at h
      replace b0 := Bool.eq_false_iff.2 b0
      by_cases b1 : (!ByteArray.toList (g68_0 h0) == ByteArray.toList x0) = true
      · rw [if_pos b1] at h
        subst h
        exact AtV.ret Tryz.func107 tabOk ext107Ok mixed false [] tys107 [false, true] (a1 b0 (a1 trivial (a1 b1 trivial))) (by kernel_rfl)
      · rw [if_neg b1] at h
        replace b1 := Bool.eq_false_iff.2 b1
        subst h
        exact AtV.ret Tryz.func107 tabOk ext107Ok mixed false [] tys107 [false, false] (a1 b0 (a1 trivial (a1 b1 trivial))) (by kernel_rfl)
def ws107 (x0 : ByteArray) : List ByteArray := g54_0 x0 (ByteArray.mk #[44])
def nums107 (x0 : ByteArray) : List Int := (ws107 x0).map g28_0
def all107 (x0 : ByteArray) : Option (List Int) := if x0 = ByteArray.mk #[45] then some [] else if g68_0 (nums107 x0) = x0 then some (nums107 x0) else none
def g107_0 (x0 : ByteArray) : List Int := (all107 x0).getD []
def g107_1 (x0 : ByteArray) : Bool := (all107 x0).isSome
def P107 (x0 : ByteArray) : Prop := x0.size ≤ 1048576
theorem wl107 (x0 : ByteArray) (hp : P107 x0) : (ws107 x0).length ≤ 1048577 := by
  have hl := Lib.splitB_all (ByteArray.mk #[44]) (Nat.le_refl 1) 0 (Lib.countB x0 (ByteArray.mk #[44])) x0 rfl
  have hc := Lib.countB_le (ByteArray.mk #[44]) (Nat.le_refl 1) x0.size x0 (Nat.le_refl _)
  have hp : x0.size ≤ 1048576 := hp
  have : (ws107 x0).length = Lib.countB x0 (ByteArray.mk #[44]) + 1 := hl
  omega
theorem wz107 (x0 : ByteArray) (hp : P107 x0) : ∀ w ∈ ws107 x0, w.size ≤ 1048576 := fun w hw => by
  have hp : x0.size ≤ 1048576 := hp
  have := splitB_part (ByteArray.mk #[44]) 0 _ _ w hw
  omega
theorem top107 (x0 : ByteArray) (hp : P107 x0) : ∃ n, R107 n x0 [⟨.sl (.int .i64), g107_0 x0⟩, ⟨.bool, g107_1 x0⟩] := by
  have ew : g54_0 x0 (ByteArray.mk #[44]) = ws107 x0 := rfl
  have hp' : x0.size ≤ 1048576 := hp
  have hl := wl107 x0 hp
  have hz := wz107 x0 hp
  refine ⟨((ws107 x0).length + 1) + 1, ?_⟩
  rw [R107]
  unfold g107_0 g107_1 all107
  by_cases h0 : x0 = ByteArray.mk #[45]
  · rw [if_pos ((bytes_eq _ _).2 h0), if_pos h0]; rfl
  · rw [if_neg (fun h => h0 ((bytes_eq _ _).1 h)), if_neg h0]
    refine ⟨⟨by omega, Nat.le_refl 1⟩, ?_⟩
    have hm : (ws107 x0).length ≤ maxLen := by unfold maxLen; omega
    have key := loop_fold (b := []) (ws107 x0) ByteArray.empty (fun (h : List Int) b => h ++ [g28_0 b]) (fun h => if g68_0 h = x0 then [(⟨.sl (.int .i64), h⟩ : Dyn), ⟨.bool, true⟩] else [⟨.sl (.int .i64), []⟩, ⟨.bool, false⟩]) (fun i h => h.length ≤ i) (fun n i h ds => R107_5 n i h x0 ds) (by simp) (fun n h hb => ?_) (fun n i h hi hl => ⟨len_up hl, fun ds hr => ?_⟩)
    · rw [foldl_snoc] at key
      have e : [] ++ (ws107 x0).map g28_0 = nums107 x0 := by simp [nums107]
      simp only [e] at key
      by_cases ht : g68_0 (nums107 x0) = x0
      · rw [if_pos ht] at key ⊢; exact key
      · rw [if_neg ht] at key ⊢; exact key
    · show R107_5 (n + 1) (ws107 x0).length h x0 _
      rw [R107_5, ew, if_neg (by simp)]
      by_cases ht : g68_0 h = x0
      · rw [if_neg (by rw [(bytes_eq _ _).2 ht]; simp), if_pos ht]
      · rw [if_pos (by rw [Bool.not_eq_true', Bool.eq_false_iff]; exact fun hh => ht ((bytes_eq _ _).1 hh)), if_neg ht]
    · show R107_5 (n + 1) (i : Int) h x0 ds
      rw [R107_5, ew, if_pos (by simp only [decide_eq_true_eq]; omega)]
      simp only [Int.toNat_natCast]
      have hw := hz _ (mem_getD (ws107 x0) i ByteArray.empty hi)
      exact ⟨by omega, by omega, (show ((ws107 x0).getD i ByteArray.empty).size ≤ 281474976710656 from by omega), by omega, inR_up hm hi, hr⟩
def S107 : Am.Spec := { sig := sig107, pre := fun ⟨x0, _⟩ => P107 x0, res := fun ⟨x0, _⟩ => [⟨.sl (.int .i64), g107_0 x0⟩, ⟨.bool, g107_1 x0⟩] }
theorem con107 : Contract Tryz.prog 107 S107 := contract_of Tryz.func107 hb107 (Nat.le_of_ble_eq_true (by kernel_rfl)) (fun ⟨x0, _⟩ h hwf K q => by
  obtain ⟨n, hn⟩ := top107 x0 h
  exact (snd107 n).1 x0 _ hn K q)
end
noncomputable section
def ext69 : Ext := [(58, S58), (107, S107)]
theorem ext69Ok : ExtOk Tryz.prog ext69 := ⟨⟨ca58, con58⟩, ⟨ca107, con107⟩, trivial⟩
noncomputable def b69 : Code := bodyOf Tryz.f69
theorem hb69 : Tryz.f69.body = some b69 := by kernel_rfl
def sig69 : List AT := [AT.v (Ty.str), AT.v (Ty.int .i64)]
def tys69 : List Ty := [Ty.str, Ty.sl (Ty.int .i64), Ty.bool]
def kds69 : List RK := []
def oks69 : List AT := owns sig69
def P69 (x0 : ByteArray) (x1 : Int) : Prop := ((P58 x0 (ByteArray.mk #[32])) ∧ ((P107 (g58_1 x0 (ByteArray.mk #[32]))) ∧ True))
def g69_0 (x0 : ByteArray) (x1 : Int) : ByteArray := g58_0 x0 (ByteArray.mk #[32])
def g69_1 (x0 : ByteArray) (x1 : Int) : List Int := g107_0 (g58_1 x0 (ByteArray.mk #[32]))
def g69_2 (x0 : ByteArray) (x1 : Int) : Bool := (↑(List.length (g107_0 (g58_1 x0 (ByteArray.mk #[32])))) : Int) == x1
theorem at69 (x0 : ByteArray) (x1 : Int) (h : P69 x0 x1) (K : Ctx) (q : Nat → Value) : AtV Tryz.prog 69 (PostR kds69 oks69 [⟨Ty.str, g69_0 x0 x1⟩, ⟨Ty.sl (Ty.int .i64), g69_1 x0 x1⟩, ⟨Ty.bool, g69_2 x0 x1⟩] [] [] q K) 29 K q [] [.code b69] (entE 0 0 sig69 (x0, x1, ())) (entL sig69 (x0, x1, ())) := by
  unfold P69 at h
  unfold g69_0 g69_1 g69_2
  obtain ⟨s0, h⟩ := h
  obtain ⟨s1, h⟩ := h
  exact AtV.ret Tryz.func69 tabOk ext69Ok mixed false [] tys69 [] (a1 s0 (a1 s1 trivial)) (by kernel_rfl)
def S69 : Am.Spec := { sig := sig69, pre := fun ⟨x0, x1, _⟩ => P69 x0 x1, res := fun ⟨x0, x1, _⟩ => [⟨Ty.str, g69_0 x0 x1⟩, ⟨Ty.sl (Ty.int .i64), g69_1 x0 x1⟩, ⟨Ty.bool, g69_2 x0 x1⟩], kds := kds69 }
theorem con69 : Contract Tryz.prog 69 S69 := contract_of Tryz.func69 hb69 (Nat.le_of_ble_eq_true (by kernel_rfl)) (fun ⟨x0, x1, _⟩ h _ K q => at69 x0 x1 h K q)
end
noncomputable section
def ext42 : Ext := [(69, S69), (41, S41)]
theorem ext42Ok : ExtOk Tryz.prog ext42 := ⟨⟨ca69, con69⟩, ⟨ca41, con41⟩, trivial⟩
noncomputable def b42 : Code := bodyOf Tryz.f42
theorem hb42 : Tryz.f42.body = some b42 := by kernel_rfl
def sig42 : List AT := [AT.v (Ty.str)]
def tys42 : List Ty := [Ty.cons Ty.str YA1, Ty.bool]
def kds42 : List RK := []
def oks42 : List AT := owns sig42
def P42 (x0 : ByteArray) : Prop := ((P69 x0 4) ∧ (if (!g69_2 x0 4) = true then True else ((0 < (↑(List.length (g69_1 x0 4)) : Int)) ∧ ((1 < (↑(List.length (g69_1 x0 4)) : Int)) ∧ ((2 < (↑(List.length (g69_1 x0 4)) : Int)) ∧ ((3 < (↑(List.length (g69_1 x0 4)) : Int)) ∧ ((P41 (g69_0 x0 4, List.getD (g69_1 x0 4) 0 0, List.getD (g69_1 x0 4) 1 0, List.getD (g69_1 x0 4) 2 0, List.getD (g69_1 x0 4) 3 0, ())) ∧ True)))))))
def g42_0 (x0 : ByteArray) : ByteArray × Int × Int × Int × Int × Unit := (if (!g69_2 x0 4) = true then (ByteArray.empty, 0, 0, 0, 0, ()) else (if (!ByteArray.toList (g41_0 (g69_0 x0 4, List.getD (g69_1 x0 4) 0 0, List.getD (g69_1 x0 4) 1 0, List.getD (g69_1 x0 4) 2 0, List.getD (g69_1 x0 4) 3 0, ())) == ByteArray.toList x0) = true then (ByteArray.empty, 0, 0, 0, 0, ()) else (g69_0 x0 4, List.getD (g69_1 x0 4) 0 0, List.getD (g69_1 x0 4) 1 0, List.getD (g69_1 x0 4) 2 0, List.getD (g69_1 x0 4) 3 0, ())))
def g42_1 (x0 : ByteArray) : Bool := (if (!g69_2 x0 4) = true then false else (if (!ByteArray.toList (g41_0 (g69_0 x0 4, List.getD (g69_1 x0 4) 0 0, List.getD (g69_1 x0 4) 1 0, List.getD (g69_1 x0 4) 2 0, List.getD (g69_1 x0 4) 3 0, ())) == ByteArray.toList x0) = true then false else true))
theorem at42 (x0 : ByteArray) (h : P42 x0) (K : Ctx) (q : Nat → Value) : AtV Tryz.prog 42 (PostR kds42 oks42 [⟨Ty.cons Ty.str YA1, g42_0 x0⟩, ⟨Ty.bool, g42_1 x0⟩] [] [] q K) 37 K q [] [.code b42] (entE 0 0 sig42 (x0, ())) (entL sig42 (x0, ())) := by
  unfold P42 at h
  unfold g42_0 g42_1
  obtain ⟨s0, h⟩ := h
  by_cases b0 : (!g69_2 x0 4) = true
  · try simp only [if_pos b0] at h ⊢
    exact AtV.ret Tryz.func42 tabOk ext42Ok mixed false [] tys42 [true] (a1 s0 (a1 b0 trivial)) (by kernel_rfl)
  · try simp only [if_neg b0] at h ⊢
    replace b0 := Bool.eq_false_iff.2 b0
    obtain ⟨s1, h⟩ := h
    obtain ⟨s2, h⟩ := h
    obtain ⟨s3, h⟩ := h
    obtain ⟨s4, h⟩ := h
    obtain ⟨s5, h⟩ := h
    by_cases b1 : (!ByteArray.toList (g41_0 (g69_0 x0 4, List.getD (g69_1 x0 4) 0 0, List.getD (g69_1 x0 4) 1 0, List.getD (g69_1 x0 4) 2 0, List.getD (g69_1 x0 4) 3 0, ())) == ByteArray.toList x0) = true
    · try simp only [if_pos b1] at h ⊢
      exact AtV.ret Tryz.func42 tabOk ext42Ok mixed false [] tys42 [false, true] (a1 s0 (a1 b0 (a1 ((by decide) : (0 : Int) ≤ (0 : Int)) (a1 s1 (a1 ((by decide) : (0 : Int) ≤ (1 : Int)) (a1 s2 (a1 ((by decide) : (0 : Int) ≤ (2 : Int)) (a1 s3 (a1 ((by decide) : (0 : Int) ≤ (3 : Int)) (a1 s4 (a1 s5 (a1 b1 trivial)))))))))))) (by kernel_rfl)
    · try simp only [if_neg b1] at h ⊢
      replace b1 := Bool.eq_false_iff.2 b1
      exact AtV.ret Tryz.func42 tabOk ext42Ok mixed false [] tys42 [false, false] (a1 s0 (a1 b0 (a1 ((by decide) : (0 : Int) ≤ (0 : Int)) (a1 s1 (a1 ((by decide) : (0 : Int) ≤ (1 : Int)) (a1 s2 (a1 ((by decide) : (0 : Int) ≤ (2 : Int)) (a1 s3 (a1 ((by decide) : (0 : Int) ≤ (3 : Int)) (a1 s4 (a1 s5 (a1 b1 trivial)))))))))))) (by kernel_rfl)
def S42 : Am.Spec := { sig := sig42, pre := fun ⟨x0, _⟩ => P42 x0, res := fun ⟨x0, _⟩ => [⟨Ty.cons Ty.str YA1, g42_0 x0⟩, ⟨Ty.bool, g42_1 x0⟩], kds := kds42 }
theorem con42 : Contract Tryz.prog 42 S42 := contract_of Tryz.func42 hb42 (Nat.le_of_ble_eq_true (by kernel_rfl)) (fun ⟨x0, _⟩ h _ K q => at42 x0 h K q)
end
end Go.Proofs.YtbepbihblhhfkaaGreatDoor
