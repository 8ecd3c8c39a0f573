/- Several texts in one: the functions that this law reaches, and their laws. -/
import Derived.Test.YtohojjcoikkmcaaZ3A
import Derived.Test.YtohojjcoikkmcaaZ3B
import Derived.Test.YtohojjcoikkmcaaZ3C
import Derived.Lib.ItoaNum
import Derived.Shelf.Strings.Search1
import Derived.Shelf.Strings.Search2
import Derived.Shelf.Strings.Search3
import Derived.Shelf.LaysM
import Derived.Shelf.Strings.Shaped
import Derived.Lib.SliceRun
import Derived.Laws.AppendOwn
import Derived.WalkKit
import Derived.Deep.LoopGhost
import Derived.Lib.Walk
import Derived.Shelf.RegionOpenPlain

/- Function 53 (spec.l01Dec): its runs between cut points. Written by a program of this repo (gen). -/
set_option linter.unusedVariables false
set_option linter.unusedSimpArgs false
set_option maxRecDepth 100000
namespace Go.Proofs.Ytohojjcoikkmcaa
open Go Go.Am Go.Proofs
def ext53 : Ext := []
theorem ext53Ok : ExtOk Try.prog ext53 := trivial

noncomputable def b53 : Code := bodyOf Try.f53
theorem hb53 : Try.f53.body = some b53 := by kernel_rfl
def sig53 : List AT := [AT.v (Ty.int IntKind.i64)]
def tys53 : List Ty := [Ty.str]
def kds53 : List RK := []
def oks53 : List AT := owns sig53
def E53_5 (v4 : Int) (h0 : List Int) (x0 : Int) : Env := [(0, PV.a (Atom.val (Value.int IntKind.i64 x0))), (3, PV.a (Atom.osl 0 Option.none)), (4, PV.a (Atom.val (Value.int IntKind.i64 v4)))]
def L53_5 (v4 : Int) (h0 : List Int) (x0 : Int) : Heap := [Option.some (Arr.mk (Ty.int IntKind.u8) h0 Bool.false Option.none Option.none)]
def E53_15 (v7 : Int) (h0 : List Int) (h1 : List Int) : Env := [(3, PV.a (Atom.osl 0 Option.none)), (6, PV.a (Atom.osl 1 Option.none)), (7, PV.a (Atom.val (Value.int IntKind.i64 v7)))]
def L53_15 (v7 : Int) (h0 : List Int) (h1 : List Int) : Heap := [Option.some (Arr.mk (Ty.int IntKind.u8) h0 Bool.false Option.none Option.none), Option.some (Arr.mk (Ty.int IntKind.u8) h1 Bool.false Option.none Option.none)]
mutual
def R53 : Nat → Int → List Dyn → Prop
  | 0, _, _ => False
  | n + 1, x0, ds => (if (x0 == 0) = true then (ds = [Dyn.mk Ty.str (ByteArray.mk #[48])]) else (R53_5 n (x0) ([]) (x0) ds))
def R53_5 : Nat → Int → List Int → Int → List Dyn → Prop
  | 0, _, _, _, _ => False
  | n + 1, v4, h0, x0, ds => (if (v4 != 0) = true then ((InR IntKind.i64 (Int.tmod v4 10)) ∧ (if (Decidable.decide (Int.tmod v4 10 < 0)) = true then ((InR IntKind.i64 (0 - Int.tmod v4 10)) ∧ ((InR IntKind.i64 (48 + (0 - Int.tmod v4 10))) ∧ ((InR IntKind.u8 (48 + (0 - Int.tmod v4 10))) ∧ (((List.length h0 + 1) * 1 ≤ 140737488355328) ∧ ((InR IntKind.i64 (Int.tdiv v4 10)) ∧ (R53_5 n (Int.tdiv v4 10) (h0 ++ [48 + (0 - Int.tmod v4 10)]) (x0) ds)))))) else ((InR IntKind.i64 (48 + Int.tmod v4 10)) ∧ ((InR IntKind.u8 (48 + Int.tmod v4 10)) ∧ (((List.length h0 + 1) * 1 ≤ 140737488355328) ∧ ((InR IntKind.i64 (Int.tdiv v4 10)) ∧ (R53_5 n (Int.tdiv v4 10) (h0 ++ [48 + Int.tmod v4 10]) (x0) ds))))))) else (if (Decidable.decide (x0 < 0)) = true then (((List.length h0 + 1) * 1 ≤ 140737488355328) ∧ ((InR IntKind.i64 ((↑(List.length (h0 ++ [45])) : Int) - 1)) ∧ (R53_15 n ((↑(List.length (h0 ++ [45])) : Int) - 1) (h0 ++ [45]) ([]) ds))) else ((InR IntKind.i64 ((↑(List.length h0) : Int) - 1)) ∧ (R53_15 n ((↑(List.length h0) : Int) - 1) (h0) ([]) ds))))
def R53_15 : Nat → Int → List Int → List Int → List Dyn → Prop
  | 0, _, _, _, _ => False
  | n + 1, v7, h0, h1, ds => (if (Decidable.decide (v7 ≥ 0)) = true then ((0 ≤ v7) ∧ (v7 < (↑(List.length h0) : Int)) ∧ (((List.length h1 + 1) * 1 ≤ 140737488355328) ∧ ((InR IntKind.i64 (v7 - 1)) ∧ (R53_15 n (v7 - 1) (h0) (h1 ++ [List.getD h0 (Int.toNat v7) 0]) ds)))) else (ds = [Dyn.mk Ty.str (bytesStr h1)]))
end
theorem p53_0 (x0 : Int) : runF tab ext53 false 50 [] 2000 [] oks53 kds53 tys53 Try.f53.results [true] [.code b53] (entE 0 0 sig53 (x0, ())) (entL sig53 (x0, ())) = some ([Dyn.mk Ty.str (ByteArray.mk #[48])], [], [(x0 == 0) = Bool.true]) := by kernel_rfl
theorem p53_1 (x0 : Int) : Am.runN tab ext53 false 50 [] 2000 [] [] [0, 3, 4] [0] [false] [.code b53] (entE 0 0 sig53 (x0, ())) (entL sig53 (x0, ())) = some (cutAt b53 5, E53_5 (x0) ([]) (x0), L53_5 (x0) ([]) (x0), [(x0 == 0) = Bool.false]) := by kernel_rfl
theorem p53_2 (v4 : Int) (h0 : List Int) (x0 : Int) : Am.runN tab ext53 false 50 [] 2000 [] [] [0, 3, 4] [0] [true, true] (cutAt b53 5) (E53_5 v4 h0 x0) (L53_5 v4 h0 x0) = some (cutAt b53 5, E53_5 (Int.tdiv v4 10) (h0 ++ [48 + (0 - Int.tmod v4 10)]) (x0), L53_5 (Int.tdiv v4 10) (h0 ++ [48 + (0 - Int.tmod v4 10)]) (x0), [(v4 != 0) = Bool.true, (10 : Int) ≠ (0 : Int), InR IntKind.i64 (Int.tmod v4 10), Decidable.decide (Int.tmod v4 10 < 0) = Bool.true, InR IntKind.i64 (0 - Int.tmod v4 10), InR IntKind.i64 (48 + (0 - Int.tmod v4 10)), InR IntKind.u8 (48 + (0 - Int.tmod v4 10)), (List.length h0 + 1) * 1 ≤ 140737488355328, (10 : Int) ≠ (0 : Int), InR IntKind.i64 (Int.tdiv v4 10)]) := by kernel_rfl
theorem p53_3 (v4 : Int) (h0 : List Int) (x0 : Int) : Am.runN tab ext53 false 50 [] 2000 [] [] [0, 3, 4] [0] [true, false] (cutAt b53 5) (E53_5 v4 h0 x0) (L53_5 v4 h0 x0) = some (cutAt b53 5, E53_5 (Int.tdiv v4 10) (h0 ++ [48 + Int.tmod v4 10]) (x0), L53_5 (Int.tdiv v4 10) (h0 ++ [48 + Int.tmod v4 10]) (x0), [(v4 != 0) = Bool.true, (10 : Int) ≠ (0 : Int), InR IntKind.i64 (Int.tmod v4 10), Decidable.decide (Int.tmod v4 10 < 0) = Bool.false, InR IntKind.i64 (48 + Int.tmod v4 10), InR IntKind.u8 (48 + Int.tmod v4 10), (List.length h0 + 1) * 1 ≤ 140737488355328, (10 : Int) ≠ (0 : Int), InR IntKind.i64 (Int.tdiv v4 10)]) := by kernel_rfl
theorem p53_4 (v4 : Int) (h0 : List Int) (x0 : Int) : Am.runN tab ext53 false 50 [] 2000 [] [] [3, 6, 7] [0, 2] [false, true] (cutAt b53 5) (E53_5 v4 h0 x0) (L53_5 v4 h0 x0) = some (cutAt b53 15, E53_15 ((↑(List.length (h0 ++ [45])) : Int) - 1) (h0 ++ [45]) ([]), L53_15 ((↑(List.length (h0 ++ [45])) : Int) - 1) (h0 ++ [45]) ([]), [(v4 != 0) = Bool.false, Decidable.decide (x0 < 0) = Bool.true, (List.length h0 + 1) * 1 ≤ 140737488355328, InR IntKind.i64 ((↑(List.length (h0 ++ [45])) : Int) - 1)]) := by kernel_rfl
theorem p53_5 (v4 : Int) (h0 : List Int) (x0 : Int) : Am.runN tab ext53 false 50 [] 2000 [] [] [3, 6, 7] [0, 1] [false, false] (cutAt b53 5) (E53_5 v4 h0 x0) (L53_5 v4 h0 x0) = some (cutAt b53 15, E53_15 ((↑(List.length h0) : Int) - 1) (h0) ([]), L53_15 ((↑(List.length h0) : Int) - 1) (h0) ([]), [(v4 != 0) = Bool.false, Decidable.decide (x0 < 0) = Bool.false, InR IntKind.i64 ((↑(List.length h0) : Int) - 1)]) := by kernel_rfl
theorem p53_6 (v7 : Int) (h0 : List Int) (h1 : List Int) : Am.runN tab ext53 false 50 [] 2000 [] [] [3, 6, 7] [0, 1] [true] (cutAt b53 15) (E53_15 v7 h0 h1) (L53_15 v7 h0 h1) = some (cutAt b53 15, E53_15 (v7 - 1) (h0) (h1 ++ [List.getD h0 (Int.toNat v7) 0]), L53_15 (v7 - 1) (h0) (h1 ++ [List.getD h0 (Int.toNat v7) 0]), [Decidable.decide (v7 ≥ 0) = Bool.true, 0 ≤ v7, v7 < (↑(List.length h0) : Int), (List.length h1 + 1) * 1 ≤ 140737488355328, InR IntKind.i64 (v7 - 1)]) := by kernel_rfl
theorem p53_7 (v7 : Int) (h0 : List Int) (h1 : List Int) : runF tab ext53 false 50 [] 2000 [] oks53 kds53 tys53 Try.f53.results [false] (cutAt b53 15) (E53_15 v7 h0 h1) (L53_15 v7 h0 h1) = some ([Dyn.mk Ty.str (bytesStr h1)], [], [Decidable.decide (v7 ≥ 0) = Bool.false]) := by kernel_rfl
theorem snd53 : ∀ n, (∀ (x0 : Int) ds, R53 n x0 ds → ∀ K q, AtV Try.prog 53 (PostR kds53 oks53 ds [] [] q K) 50 K q [] [.code b53] (entE 0 0 sig53 (x0, ())) (entL sig53 (x0, ()))) ∧ (∀ (v4 : Int) (h0 : List Int) (x0 : Int) ds, R53_5 n v4 h0 x0 ds → ∀ K q, AtV Try.prog 53 (PostR kds53 oks53 ds [] [] q K) 50 K q [] (cutAt b53 5) (E53_5 v4 h0 x0) (L53_5 v4 h0 x0)) ∧ (∀ (v7 : Int) (h0 : List Int) (h1 : List Int) ds, R53_15 n v7 h0 h1 ds → ∀ K q, AtV Try.prog 53 (PostR kds53 oks53 ds [] [] q K) 50 K q [] (cutAt b53 15) (E53_15 v7 h0 h1) (L53_15 v7 h0 h1)) := by
  intro n
  induction n with
  | zero => exact ⟨fun _ _ h => by simp only [R53] at h, fun _ _ _ _ h => by simp only [R53_5] at h, fun _ _ _ _ h => by simp only [R53_15] at h⟩
  | succ n ih =>
  obtain ⟨ih, ih5, ih15⟩ := ih
  refine ⟨?_, ?_, ?_⟩
  · intro x0 ds h K q
    rw [R53] at h
    by_cases b0 : (x0 == 0) = true
    · rw [if_pos b0] at h
      subst h
      exact AtV.fin Try.func53 tabOk ext53Ok mixed (p53_0 x0) ⟨b0, trivial⟩
    · rw [if_neg b0] at h
      replace b0 := Bool.eq_false_iff.2 b0
      exact AtV.runN tabOk ext53Ok mixed (p53_1 x0) ⟨b0, trivial⟩ (ih5 _ _ _ _ h K q)

  · intro v4 h0 x0 ds h K q
    rw [R53_5] at h
    by_cases b0 : (v4 != 0) = true
    · rw [if_pos b0] at h
      obtain ⟨s0, h⟩ := h
      by_cases b1 : (Decidable.decide (Int.tmod v4 10 < 0)) = true
      · rw [if_pos b1] at h
        obtain ⟨s1, h⟩ := h
        obtain ⟨s2, h⟩ := h
        obtain ⟨s3, h⟩ := h
        obtain ⟨s4, h⟩ := h
        obtain ⟨s5, h⟩ := h
        exact AtV.runN tabOk ext53Ok mixed (p53_2 v4 h0 x0) ⟨b0, (by decide), s0, b1, s1, s2, s3, s4, (by decide), s5, trivial⟩ (ih5 _ _ _ _ h K q)
      · rw [if_neg b1] at h
        replace b1 := Bool.eq_false_iff.2 b1
        obtain ⟨s1, h⟩ := h
        obtain ⟨s2, h⟩ := h
        obtain ⟨s3, h⟩ := h
        obtain ⟨s4, h⟩ := h
        exact AtV.runN tabOk ext53Ok mixed (p53_3 v4 h0 x0) ⟨b0, (by decide), s0, b1, s1, s2, s3, (by decide), s4, trivial⟩ (ih5 _ _ _ _ h K q)
    · rw [if_neg b0] at h
      replace b0 := Bool.eq_false_iff.2 b0
      by_cases b1 : (Decidable.decide (x0 < 0)) = true
      · rw [if_pos b1] at h
        obtain ⟨s0, h⟩ := h
        obtain ⟨s1, h⟩ := h
        exact AtV.runN tabOk ext53Ok mixed (p53_4 v4 h0 x0) ⟨b0, b1, s0, s1, trivial⟩ (ih15 _ _ _ _ h K q)
      · rw [if_neg b1] at h
        replace b1 := Bool.eq_false_iff.2 b1
        obtain ⟨s0, h⟩ := h
        exact AtV.runN tabOk ext53Ok mixed (p53_5 v4 h0 x0) ⟨b0, b1, s0, trivial⟩ (ih15 _ _ _ _ h K q)

  · intro v7 h0 h1 ds h K q
    rw [R53_15] at h
    by_cases b0 : (Decidable.decide (v7 ≥ 0)) = true
    · rw [if_pos b0] at h
      obtain ⟨s0, s1, h⟩ := h
      obtain ⟨s2, h⟩ := h
      obtain ⟨s3, h⟩ := h
      exact AtV.runN tabOk ext53Ok mixed (p53_6 v7 h0 h1) ⟨b0, s0, s1, s2, s3, trivial⟩ (ih15 _ _ _ _ h K q)
    · rw [if_neg b0] at h
      replace b0 := Bool.eq_false_iff.2 b0
      subst h
      exact AtV.fin Try.func53 tabOk ext53Ok mixed (p53_7 v7 h0 h1) ⟨b0, trivial⟩



def g53_0 (x0 : Int) : ByteArray := numB x0
def P53 (x0 : Int) : Prop := True

theorem bstr53 (xs : List Int) : bytesStr xs = ⟨⟨xs.map fun n => UInt8.ofNat n.toNat⟩⟩ := by
  have key : ∀ (xs : List Int) (s : ByteArray), (xs.foldl (fun r n => r.push (UInt8.ofNat n.toNat)) s).data.toList = s.data.toList ++ xs.map fun n => UInt8.ofNat n.toNat := by
    intro xs
    induction xs with
    | nil => intro s; simp
    | cons a r ih =>
      intro s
      rw [List.foldl_cons, ih]
      show (s.data.push _).toList ++ _ = _
      rw [Array.toList_push]
      simp
  apply ByteArray.ext
  apply Array.ext'
  have := key xs ByteArray.empty
  unfold bytesStr
  rw [this]
  rfl
theorem bstrB53 (l : List UInt8) : bytesStr (l.map fun b => (b.toNat : Int)) = ⟨⟨l⟩⟩ := by
  rw [bstr53, List.map_map]
  congr 2
  conv => rhs; rw [← List.map_id l]
  refine List.map_congr_left fun b _ => ?_
  show UInt8.ofNat ((b.toNat : Int)).toNat = b
  rw [Int.toNat_natCast, UInt8.ofNat_toNat]

def rd53 (m : Nat) : List Int := if h : m = 0 then [] else ((48 + m % 10 : Nat) : Int) :: rd53 (m / 10)
termination_by m
decreasing_by omega
theorem rd053 : rd53 0 = [] := by rw [rd53, dif_pos rfl]
theorem rds53 {m : Nat} (h : m ≠ 0) : rd53 m = ((48 + m % 10 : Nat) : Int) :: rd53 (m / 10) := by rw [rd53, dif_neg h]
theorem rdl53 : ∀ (k m : Nat), m < 10 ^ k → (rd53 m).length ≤ k
  | 0, m, h => by obtain rfl : m = 0 := by simpa using h
                  rw [rd053]; exact Nat.le_refl _
  | k + 1, m, h => by
    by_cases h0 : m = 0
    · rw [h0, rd053]; exact Nat.zero_le _
    · rw [rds53 h0, List.length_cons]
      have := rdl53 k (m / 10) (by rw [Nat.pow_succ] at h; omega)
      omega
theorem rdd53 (m : Nat) (h : m ≠ 0) : bytesStr (rd53 m).reverse = ⟨⟨Lib.decDigits m⟩⟩ := by
  have key : ∀ m : Nat, m ≠ 0 → (rd53 m).reverse = (Lib.decDigits m).map fun b => (b.toNat : Int) := by
    intro m
    induction m using Nat.strongRecOn with
    | _ m ih =>
      intro h
      rw [rds53 h, List.reverse_cons, Lib.decDigits]
      have e : (UInt8.ofNat (48 + m % 10)).toNat = 48 + m % 10 := by rw [UInt8.toNat_ofNat']; omega
      split
      · rename_i hs
        rw [show m / 10 = 0 by omega, rd053]
        have e' : (UInt8.ofNat (48 + m)).toNat = 48 + m % 10 := by rw [UInt8.toNat_ofNat']; omega
        rw [List.map_singleton, e']
        rfl
      · rw [ih (m / 10) (by omega) (by omega), List.map_append, List.map_singleton, e]
  rw [key m h]
  exact bstrB53 _

theorem back53 (h0 : List Int) : ∀ (j : Nat) (h1 : List Int), j ≤ h0.length → h1.length + j ≤ 64 → R53_15 (j + 1) ((j : Int) - 1) h0 h1 [⟨.str, bytesStr (h1 ++ (h0.take j).reverse)⟩]
  | 0, h1, _, _ => by
    rw [R53_15, if_neg (by decide)]
    simp
  | j + 1, h1, hj, hl => by
    have ih := back53 h0 j (h1 ++ [h0.getD j 0]) (by omega) (by rw [List.length_append, List.length_singleton]; omega)
    have e : ((j + 1 : Nat) : Int) - 1 = (j : Int) := by omega
    rw [R53_15, e, if_pos (by simp only [decide_eq_true_eq]; omega), Int.toNat_natCast]
    refine ⟨by omega, by omega, by omega, by rw [i64_iff]; omega, ?_⟩
    have et : (h0.take (j + 1)).reverse = h0.getD j 0 :: (h0.take j).reverse := by
      have hlt : j < h0.length := by omega
      rw [List.take_add_one, List.getElem?_eq_getElem hlt, List.reverse_append, List.getD_eq_getElem?_getD, List.getElem?_eq_getElem hlt]
      rfl
    rw [et]
    rw [List.append_assoc] at ih
    exact ih

theorem last53 (x0 : Int) (h0 : List Int) (hl : h0.length ≤ 20) : R53_5 ((if x0 < 0 then h0.length + 1 else h0.length) + 1 + 1) 0 h0 x0 [⟨.str, bytesStr ((if x0 < 0 then h0 ++ [45] else h0)).reverse⟩] := by
  rw [R53_5, if_neg (by decide)]
  by_cases hx : x0 < 0
  · have b := back53 (h0 ++ [45]) (h0.length + 1) [] (by rw [List.length_append, List.length_singleton]; omega) (by simp; omega)
    have e : (h0 ++ [(45 : Int)]).length = h0.length + 1 := by rw [List.length_append, List.length_singleton]
    rw [List.take_of_length_le (by omega)] at b
    simp only [hx, decide_true, if_true]
    rw [e]
    exact ⟨by omega, by rw [i64_iff]; omega, b⟩
  · have b := back53 h0 h0.length [] (Nat.le_refl _) (by simp; omega)
    rw [List.take_of_length_le (Nat.le_refl _)] at b
    simp only [hx, decide_false, Bool.false_eq_true, if_false]
    exact ⟨by rw [i64_iff]; omega, b⟩

theorem run53 (x0 : Int) (ds : List Dyn) (F : List Int) (K : Nat) (hF : R53_5 K 0 F x0 ds) : ∀ (m : Nat) (v : Int) (h0 : List Int), (v = (m : Int) ∨ v = -(m : Int)) → m ≤ 9223372036854775808 → InR .i64 v → h0.length + (rd53 m).length ≤ 20 → h0 ++ rd53 m = F → R53_5 ((rd53 m).length + K) v h0 x0 ds := by
  intro m
  induction m using Nat.strongRecOn with
  | _ m ih =>
    intro v h0 hv hm hi hl he
    by_cases h : m = 0
    · subst h
      obtain rfl : v = 0 := by omega
      rw [rd053] at he ⊢
      rw [List.append_nil] at he
      rw [he, List.length_nil, Nat.zero_add]
      exact hF
    · have hr := rds53 h
      rw [hr] at he hl ⊢
      rw [List.length_cons] at hl ⊢
      have hne : (v != 0) = true := by
        have : v ≠ 0 := by omega
        simpa using this
      rw [i64_iff] at hi
      have e1 : (rd53 (m / 10)).length + 1 + K = ((rd53 (m / 10)).length + K) + 1 := by omega
      have next : ∀ v', (v' = ((m / 10 : Nat) : Int) ∨ v' = -((m / 10 : Nat) : Int)) → R53_5 ((rd53 (m / 10)).length + K) v' (h0 ++ [((48 + m % 10 : Nat) : Int)]) x0 ds := fun v' hv' =>
        ih (m / 10) (by omega) v' _ hv' (by omega) (by rw [i64_iff]; omega) (by rw [List.length_append, List.length_singleton]; omega) (by rw [List.append_assoc]; exact he)
      rw [e1, R53_5, if_pos hne]
      rcases hv with rfl | rfl
      · have t1 : Int.tmod (m : Int) 10 = ((m % 10 : Nat) : Int) := rfl
        have t2 : Int.tdiv (m : Int) 10 = ((m / 10 : Nat) : Int) := rfl
        rw [t1, t2]
        refine ⟨by rw [i64_iff]; omega, ?_⟩
        rw [if_neg (by simp only [decide_eq_true_eq]; omega)]
        have e2 : 48 + ((m % 10 : Nat) : Int) = ((48 + m % 10 : Nat) : Int) := by omega
        rw [e2]
        exact ⟨by rw [i64_iff]; omega, by rw [u8_iff]; omega, by omega, by rw [i64_iff]; omega, next _ (.inl rfl)⟩
      · have t1 : Int.tmod (-(m : Int)) 10 = -((m % 10 : Nat) : Int) := by rw [Int.neg_tmod]; rfl
        have t2 : Int.tdiv (-(m : Int)) 10 = -((m / 10 : Nat) : Int) := by rw [Int.neg_tdiv]; rfl
        rw [t1, t2]
        refine ⟨by rw [i64_iff]; omega, ?_⟩
        by_cases hz : m % 10 = 0
        · rw [if_neg (by simp only [decide_eq_true_eq]; omega)]
          have e2 : 48 + -((m % 10 : Nat) : Int) = ((48 + m % 10 : Nat) : Int) := by omega
          rw [e2]
          exact ⟨by rw [i64_iff]; omega, by rw [u8_iff]; omega, by omega, by rw [i64_iff]; omega, next _ (.inr rfl)⟩
        · rw [if_pos (by simp only [decide_eq_true_eq]; omega)]
          have e2 : 48 + (0 - -((m % 10 : Nat) : Int)) = ((48 + m % 10 : Nat) : Int) := by omega
          rw [e2]
          exact ⟨by rw [i64_iff]; omega, by rw [i64_iff]; omega, by rw [u8_iff]; omega, by omega, by rw [i64_iff]; omega, next _ (.inr rfl)⟩

theorem top53 (x0 : Int) (hi : InR .i64 x0) : ∃ n, R53 n x0 [⟨.str, g53_0 x0⟩] := by
  unfold g53_0 numB Lib.itoa
  by_cases h : x0 = 0
  · subst h
    refine ⟨1, ?_⟩
    rw [R53, if_pos (by rfl), if_neg (by decide)]
    have e : Lib.decDigits (Int.toNat 0) = [48] := by rw [Lib.decDigits, dif_pos (by decide)]; rfl
    rw [e]
  · have hi' := hi
    rw [i64_iff] at hi'
    have hn : x0.natAbs ≠ 0 := by omega
    have hl := rdl53 19 x0.natAbs (by omega)
    refine ⟨(rd53 x0.natAbs).length + ((if x0 < 0 then (rd53 x0.natAbs).length + 1 else (rd53 x0.natAbs).length) + 1 + 1) + 1, ?_⟩
    rw [R53, if_neg (by simpa using h)]
    have hlast := last53 x0 (rd53 x0.natAbs) (by omega)
    have hrun := run53 x0 _ (rd53 x0.natAbs) _ hlast x0.natAbs x0 [] (by omega) (by omega) hi (by simp; omega) rfl
    have e : bytesStr (if x0 < 0 then rd53 x0.natAbs ++ [45] else rd53 x0.natAbs).reverse = ⟨(if x0 < 0 then 45 :: Lib.decDigits x0.natAbs else Lib.decDigits x0.toNat).toArray⟩ := by
      by_cases hx : x0 < 0
      · rw [if_pos hx, if_pos hx, List.reverse_append]
        show bytesStr ((45 : Int) :: (rd53 x0.natAbs).reverse) = _
        have := rdd53 x0.natAbs hn
        have e0 : bytesStr ((45 : Int) :: (rd53 x0.natAbs).reverse) = ⟨⟨45 :: (bytesStr (rd53 x0.natAbs).reverse).data.toList⟩⟩ := by rw [bstr53, bstr53]; rfl
        rw [e0, this]
      · rw [if_neg hx, if_neg hx, rdd53 x0.natAbs hn, show x0.natAbs = x0.toNat by omega]
    rw [e] at hrun
    exact hrun

def S53 : Am.Spec := { sig := sig53, pre := fun ⟨x0, _⟩ => P53 x0, res := fun ⟨x0, _⟩ => [⟨.str, g53_0 x0⟩] }
theorem con53 : Contract Try.prog 53 S53 := contract_of Try.func53 hb53 (Nat.le_of_ble_eq_true (by kernel_rfl)) (fun ⟨x0, _⟩ h hwf K q => by
  obtain ⟨n, hn⟩ := top53 x0 hwf.1
  exact (snd53 n).1 x0 _ hn K q)

end Go.Proofs.Ytohojjcoikkmcaa

/- Function 47 (spec.l01List): its runs between cut points. Written by a program of this repo (gen). -/
set_option linter.unusedVariables false
set_option linter.unusedSimpArgs false
set_option maxRecDepth 100000
namespace Go.Proofs.Ytohojjcoikkmcaa
open Go Go.Am Go.Proofs
def ext47 : Ext := [(53, S53)]
theorem call47_53 : Callable Try.prog 53 := ⟨Try.f53, Try.func53, by kernel_rfl, by kernel_rfl⟩
theorem ext47Ok : ExtOk Try.prog ext47 := ⟨⟨call47_53, con53⟩, trivial⟩

noncomputable def b47 : Code := bodyOf Try.f47
theorem hb47 : Try.f47.body = some b47 := by kernel_rfl
def sig47 : List AT := [AT.v (Ty.sl (Ty.int IntKind.i64))]
def tys47 : List Ty := [Ty.str]
def kds47 : List RK := []
def oks47 : List AT := owns sig47
def E47_5 (v3 : ByteArray) (v4 : Int) (x0 : List Int) : Env := [(0, PV.a (Atom.sl (Ty.int IntKind.i64) x0)), (3, PV.a (Atom.val (Value.string v3))), (4, PV.a (Atom.val (Value.int IntKind.i64 v4)))]
def L47_5 (v3 : ByteArray) (v4 : Int) (x0 : List Int) : Heap := []
mutual
def R47 : Nat → List Int → List Dyn → Prop
  | 0, _, _ => False
  | n + 1, x0, ds => (if ((↑(List.length x0) : Int) == 0) = true then (ds = [Dyn.mk Ty.str (ByteArray.mk #[45])]) else (R47_5 n (ByteArray.mk #[]) (0) (x0) ds))
def R47_5 : Nat → ByteArray → Int → List Int → List Dyn → Prop
  | 0, _, _, _, _ => False
  | n + 1, v3, v4, x0, ds => (if (Decidable.decide (v4 < (↑(List.length x0) : Int))) = true then (if (Decidable.decide (v4 > 0)) = true then ((ByteArray.size v3 + 1 ≤ 9223372036854775807) ∧ ((0 ≤ v4) ∧ (v4 < (↑(List.length x0) : Int)) ∧ ((ByteArray.size (v3 ++ ByteArray.mk #[44]) + ByteArray.size (g53_0 (List.getD x0 (Int.toNat v4) 0)) ≤ 9223372036854775807) ∧ ((InR IntKind.i64 (v4 + 1)) ∧ (R47_5 n (v3 ++ ByteArray.mk #[44] ++ g53_0 (List.getD x0 (Int.toNat v4) 0)) (v4 + 1) (x0) ds))))) else ((0 ≤ v4) ∧ (v4 < (↑(List.length x0) : Int)) ∧ ((ByteArray.size v3 + ByteArray.size (g53_0 (List.getD x0 (Int.toNat v4) 0)) ≤ 9223372036854775807) ∧ ((InR IntKind.i64 (v4 + 1)) ∧ (R47_5 n (v3 ++ g53_0 (List.getD x0 (Int.toNat v4) 0)) (v4 + 1) (x0) ds))))) else (ds = [Dyn.mk Ty.str v3]))
end
theorem p47_0 (x0 : List Int) : runF tab ext47 false 26 [] 2000 [] oks47 kds47 tys47 Try.f47.results [true] [.code b47] (entE 0 0 sig47 (x0, ())) (entL sig47 (x0, ())) = some ([Dyn.mk Ty.str (ByteArray.mk #[45])], [], [((↑(List.length x0) : Int) == 0) = Bool.true]) := by kernel_rfl
theorem p47_1 (x0 : List Int) : Am.runN tab ext47 false 26 [] 2000 [] [] [0, 3, 4] [] [false] [.code b47] (entE 0 0 sig47 (x0, ())) (entL sig47 (x0, ())) = some (cutAt b47 5, E47_5 (ByteArray.mk #[]) (0) (x0), L47_5 (ByteArray.mk #[]) (0) (x0), [((↑(List.length x0) : Int) == 0) = Bool.false]) := by kernel_rfl
theorem p47_2 (v3 : ByteArray) (v4 : Int) (x0 : List Int) : Am.runN tab ext47 false 26 [] 2000 [] [] [0, 3, 4] [] [true, true] (cutAt b47 5) (E47_5 v3 v4 x0) (L47_5 v3 v4 x0) = some (cutAt b47 5, E47_5 (v3 ++ ByteArray.mk #[44] ++ g53_0 (List.getD x0 (Int.toNat v4) 0)) (v4 + 1) (x0), L47_5 (v3 ++ ByteArray.mk #[44] ++ g53_0 (List.getD x0 (Int.toNat v4) 0)) (v4 + 1) (x0), [Decidable.decide (v4 < (↑(List.length x0) : Int)) = Bool.true, Decidable.decide (v4 > 0) = Bool.true, ByteArray.size v3 + 1 ≤ 9223372036854775807, 0 ≤ v4, v4 < (↑(List.length x0) : Int), True, ByteArray.size (v3 ++ ByteArray.mk #[44]) + ByteArray.size (g53_0 (List.getD x0 (Int.toNat v4) 0)) ≤ 9223372036854775807, InR IntKind.i64 (v4 + 1)]) := by kernel_rfl
theorem p47_3 (v3 : ByteArray) (v4 : Int) (x0 : List Int) : Am.runN tab ext47 false 26 [] 2000 [] [] [0, 3, 4] [] [true, false] (cutAt b47 5) (E47_5 v3 v4 x0) (L47_5 v3 v4 x0) = some (cutAt b47 5, E47_5 (v3 ++ g53_0 (List.getD x0 (Int.toNat v4) 0)) (v4 + 1) (x0), L47_5 (v3 ++ g53_0 (List.getD x0 (Int.toNat v4) 0)) (v4 + 1) (x0), [Decidable.decide (v4 < (↑(List.length x0) : Int)) = Bool.true, Decidable.decide (v4 > 0) = Bool.false, 0 ≤ v4, v4 < (↑(List.length x0) : Int), True, ByteArray.size v3 + ByteArray.size (g53_0 (List.getD x0 (Int.toNat v4) 0)) ≤ 9223372036854775807, InR IntKind.i64 (v4 + 1)]) := by kernel_rfl
theorem p47_4 (v3 : ByteArray) (v4 : Int) (x0 : List Int) : runF tab ext47 false 26 [] 2000 [] oks47 kds47 tys47 Try.f47.results [false] (cutAt b47 5) (E47_5 v3 v4 x0) (L47_5 v3 v4 x0) = some ([Dyn.mk Ty.str v3], [], [Decidable.decide (v4 < (↑(List.length x0) : Int)) = Bool.false]) := by kernel_rfl
theorem snd47 : ∀ n, (∀ (x0 : List Int) ds, R47 n x0 ds → ∀ K q, AtV Try.prog 47 (PostR kds47 oks47 ds [] [] q K) 26 K q [] [.code b47] (entE 0 0 sig47 (x0, ())) (entL sig47 (x0, ()))) ∧ (∀ (v3 : ByteArray) (v4 : Int) (x0 : List Int) ds, R47_5 n v3 v4 x0 ds → ∀ K q, AtV Try.prog 47 (PostR kds47 oks47 ds [] [] q K) 26 K q [] (cutAt b47 5) (E47_5 v3 v4 x0) (L47_5 v3 v4 x0)) := by
  intro n
  induction n with
  | zero => exact ⟨fun _ _ h => by simp only [R47] at h, fun _ _ _ _ h => by simp only [R47_5] at h⟩
  | succ n ih =>
  obtain ⟨ih, ih5⟩ := ih
  refine ⟨?_, ?_⟩
  · intro x0 ds h K q
    rw [R47] at h
    by_cases b0 : ((↑(List.length x0) : Int) == 0) = true
    · rw [if_pos b0] at h
      subst h
      exact AtV.fin Try.func47 tabOk ext47Ok mixed (p47_0 x0) ⟨b0, trivial⟩
    · rw [if_neg b0] at h
      replace b0 := Bool.eq_false_iff.2 b0
      exact AtV.runN tabOk ext47Ok mixed (p47_1 x0) ⟨b0, trivial⟩ (ih5 _ _ _ _ h K q)

  · intro v3 v4 x0 ds h K q
    rw [R47_5] at h
    by_cases b0 : (Decidable.decide (v4 < (↑(List.length x0) : Int))) = true
    · rw [if_pos b0] at h
      by_cases b1 : (Decidable.decide (v4 > 0)) = true
      · rw [if_pos b1] at h
        obtain ⟨s0, h⟩ := h
        obtain ⟨s1, s2, h⟩ := h
        obtain ⟨s3, h⟩ := h
        obtain ⟨s4, h⟩ := h
        exact AtV.runN tabOk ext47Ok mixed (p47_2 v3 v4 x0) ⟨b0, b1, s0, s1, s2, trivial, s3, s4, trivial⟩ (ih5 _ _ _ _ h K q)
      · rw [if_neg b1] at h
        replace b1 := Bool.eq_false_iff.2 b1
        obtain ⟨s0, s1, h⟩ := h
        obtain ⟨s2, h⟩ := h
        obtain ⟨s3, h⟩ := h
        exact AtV.runN tabOk ext47Ok mixed (p47_3 v3 v4 x0) ⟨b0, b1, s0, s1, trivial, s2, s3, trivial⟩ (ih5 _ _ _ _ h K q)
    · rw [if_neg b0] at h
      replace b0 := Bool.eq_false_iff.2 b0
      subst h
      exact AtV.fin Try.func47 tabOk ext47Ok mixed (p47_4 v3 v4 x0) ⟨b0, trivial⟩



def ap47 : Nat → ByteArray → List Int → ByteArray
  | _, o, [] => o
  | i, o, x :: r => ap47 (i + 1) ((if 0 < i then o ++ ByteArray.mk #[44] else o) ++ g53_0 x) r
def g47_0 (x0 : List Int) : ByteArray := if x0.length = 0 then ByteArray.mk #[45] else ap47 0 (ByteArray.mk #[]) x0
def P47 (x0 : List Int) : Prop := x0.length ≤ 1000 ∧ ∀ x ∈ x0, InR .i64 x

theorem run47 (x0 : List Int) (hm : x0.length ≤ 1000) (hx : ∀ x ∈ x0, InR .i64 x) : ∀ (k i : Nat) (o : ByteArray), i + k = x0.length → o.size ≤ 22 * i →
    R47_5 (k + 1) o (i : Int) x0 [⟨.str, ap47 i o (x0.drop i)⟩] := by
  intro k
  induction k with
  | zero =>
    intro i o hi ho
    rw [R47_5, if_neg (by simp; omega), drop_end x0 i (by omega)]
    rfl
  | succ k ih =>
    intro i o hi ho
    have hlt : i < x0.length := by omega
    have hr := hx (x0.getD i 0) (mem_getD x0 i 0 hlt)
    have hup : InR .i64 ((i : Int) + 1) := inR_up (xs := x0) (by unfold maxLen; omega) hlt
    rw [i64_iff] at hr
    have hs : (g53_0 (x0.getD i 0)).size ≤ 21 := numB_size _ (by omega) (by omega)
    rw [R47_5, if_pos (by simp; omega), drop_get x0 i 0 hlt]
    simp only [Int.toNat_natCast]
    unfold ap47
    have i44 : (ByteArray.mk #[44]).size = 1 := rfl
    by_cases h0 : 0 < i
    · rw [if_pos (by simp; omega), if_pos h0]
      have hs1 : (o ++ ByteArray.mk #[44]).size = o.size + 1 := by rw [ByteArray.size_append, i44]
      refine ⟨by omega, by omega, by omega, by rw [hs1]; omega, hup, ?_⟩
      exact ih (i + 1) _ (by omega) (by rw [ByteArray.size_append, hs1]; omega)
    · rw [if_neg (by simp; omega), if_neg h0]
      refine ⟨by omega, by omega, by omega, hup, ?_⟩
      exact ih (i + 1) _ (by omega) (by rw [ByteArray.size_append]; omega)

theorem top47 (x0 : List Int) (h : P47 x0) : R47 (x0.length + 1 + 1) x0 [⟨.str, g47_0 x0⟩] := by
  rw [R47]
  unfold g47_0
  by_cases h0 : x0.length = 0
  · rw [if_pos (by simp [h0]), if_pos h0]
  · rw [if_neg (by simp only [beq_iff_eq]; omega), if_neg h0]
    exact run47 x0 h.1 h.2 x0.length 0 (ByteArray.mk #[]) (by omega) (by decide)

def S47 : Am.Spec := { sig := sig47, pre := fun ⟨x0, _⟩ => P47 x0, res := fun ⟨x0, _⟩ => [⟨Ty.str, g47_0 x0⟩] }
theorem con47 : Contract Try.prog 47 S47 := contract_of Try.func47 hb47 (Nat.le_of_ble_eq_true (by kernel_rfl)) (fun ⟨x0, _⟩ h hwf K q =>
  (snd47 _).1 x0 _ (top47 x0 h) K q)

end Go.Proofs.Ytohojjcoikkmcaa

/- Function 39 (spec.l21Text): its runs between cut points. Written by a program of this repo (gen). -/
set_option linter.unusedVariables false
set_option linter.unusedSimpArgs false
set_option maxRecDepth 100000
namespace Go.Proofs.Ytohojjcoikkmcaa
open Go Go.Am Go.Proofs
def ext39 : Ext := [(47, S47)]
theorem call39_47 : Callable Try.prog 47 := ⟨Try.f47, Try.func47, by kernel_rfl, by kernel_rfl⟩
theorem ext39Ok : ExtOk Try.prog ext39 := ⟨⟨call39_47, con47⟩, trivial⟩

noncomputable def b39 : Code := bodyOf Try.f39
theorem hb39 : Try.f39.body = some b39 := by kernel_rfl
def sig39 : List AT := [AT.p (Ty.cons Ty.str (Ty.cons (Ty.int IntKind.i64) (Ty.cons (Ty.int IntKind.i64) (Ty.cons (Ty.int IntKind.i64) (Ty.cons (Ty.int IntKind.i64) Ty.unit)))))]
def tys39 : List Ty := [Ty.str]
def kds39 : List RK := []
def oks39 : List AT := owns sig39
def P39 (x0 : ByteArray × Int × Int × Int × Int × Unit) : Prop := ((ByteArray.size (Prod.fst x0) + 1 ≤ 9223372036854775807) ∧ ((P47 [Prod.fst (Prod.snd x0), Prod.fst (Prod.snd (Prod.snd x0)), Prod.fst (Prod.snd (Prod.snd (Prod.snd x0))), Prod.fst (Prod.snd (Prod.snd (Prod.snd (Prod.snd x0))))]) ∧ ((ByteArray.size (Prod.fst x0 ++ ByteArray.mk #[32]) + ByteArray.size (g47_0 [Prod.fst (Prod.snd x0), Prod.fst (Prod.snd (Prod.snd x0)), Prod.fst (Prod.snd (Prod.snd (Prod.snd x0))), Prod.fst (Prod.snd (Prod.snd (Prod.snd (Prod.snd x0))))]) ≤ 9223372036854775807) ∧ True)))
def g39_0 (x0 : ByteArray × Int × Int × Int × Int × Unit) : ByteArray := Prod.fst x0 ++ ByteArray.mk #[32] ++ g47_0 [Prod.fst (Prod.snd x0), Prod.fst (Prod.snd (Prod.snd x0)), Prod.fst (Prod.snd (Prod.snd (Prod.snd x0))), Prod.fst (Prod.snd (Prod.snd (Prod.snd (Prod.snd x0))))]
theorem p39_0 (x0 : ByteArray × Int × Int × Int × Int × Unit) : runF tab ext39 false 27 [] 2000 [] oks39 kds39 tys39 Try.f39.results [] [.code b39] (entE 0 0 sig39 (x0, ())) (entL sig39 (x0, ())) = some ([Dyn.mk Ty.str (Prod.fst x0 ++ ByteArray.mk #[32] ++ g47_0 [Prod.fst (Prod.snd x0), Prod.fst (Prod.snd (Prod.snd x0)), Prod.fst (Prod.snd (Prod.snd (Prod.snd x0))), Prod.fst (Prod.snd (Prod.snd (Prod.snd (Prod.snd x0))))])], [], [ByteArray.size (Prod.fst x0) + 1 ≤ 9223372036854775807, P47 [Prod.fst (Prod.snd x0), Prod.fst (Prod.snd (Prod.snd x0)), Prod.fst (Prod.snd (Prod.snd (Prod.snd x0))), Prod.fst (Prod.snd (Prod.snd (Prod.snd (Prod.snd x0))))], ByteArray.size (Prod.fst x0 ++ ByteArray.mk #[32]) + ByteArray.size (g47_0 [Prod.fst (Prod.snd x0), Prod.fst (Prod.snd (Prod.snd x0)), Prod.fst (Prod.snd (Prod.snd (Prod.snd x0))), Prod.fst (Prod.snd (Prod.snd (Prod.snd (Prod.snd x0))))]) ≤ 9223372036854775807]) := by kernel_rfl
theorem at39 (x0 : ByteArray × Int × Int × Int × Int × Unit) (h : P39 x0) (K : Ctx) (q : Nat → Value) : AtV Try.prog 39 (PostR kds39 oks39 [⟨Ty.str, g39_0 x0⟩] [] [] q K) 27 K q [] [.code b39] (entE 0 0 sig39 (x0, ())) (entL sig39 (x0, ())) := by
  unfold P39 at h
  unfold g39_0
  obtain ⟨s0, h⟩ := h
  obtain ⟨s1, h⟩ := h
  obtain ⟨s2, h⟩ := h
  exact AtV.fin Try.func39 tabOk ext39Ok mixed (p39_0 x0) ⟨s0, s1, s2, trivial⟩

def S39 : Am.Spec := { sig := sig39, pre := fun ⟨x0, _⟩ => P39 x0, res := fun ⟨x0, _⟩ => [⟨Ty.str, g39_0 x0⟩], kds := kds39 }
theorem con39 : Contract Try.prog 39 S39 := contract_of Try.func39 hb39 (Nat.le_of_ble_eq_true (by kernel_rfl)) (fun ⟨x0, _⟩ h _ K q => at39 x0 h K q)


end Go.Proofs.Ytohojjcoikkmcaa

/- A law that says how functions of the program and of the specification hang together. -/
set_option linter.unusedVariables false
set_option linter.unusedSimpArgs false
set_option maxRecDepth 100000
namespace Go.Proofs.Ytohojjcoikkmcaa
open Go Go.Am Go.Proofs

theorem SrcOk.self {n : Int} {s : (List Int × Int × Int × Unit)} (h : SrcOk n s) : SrcOk s.2.1 s := ⟨h.1, h.2.1, Int.le_refl _⟩
theorem text_ok {n : Int} {s : (List Int × Int × Int × Unit)} (h : SrcOk n s) (l : List ByteArray) (hl : 1 ≤ l.length) (hn : n ≤ 4611686018427387902) :
    P35 s l ∧ SrcOk (n + 2) (u35_0 s l) ∧ g35_0 s l ∈ l := by
  obtain ⟨p, s1, a, b, _⟩ := pick_ok h (l.length : Int) hn
  have b := b (by omega)
  exact ⟨⟨p, a, b, trivial⟩, s1, mem_getD l _ ByteArray.empty (by omega)⟩

end Go.Proofs.Ytohojjcoikkmcaa

/- A law that says how functions of the program and of the specification hang together. -/
set_option linter.unusedVariables false
set_option linter.unusedSimpArgs false
set_option maxRecDepth 100000
namespace Go.Proofs.Ytohojjcoikkmcaa
open Go Go.Am Go.Proofs

theorem one_ok {n : Int} {s : List Int × Int × Int × Unit} (h : SrcOk n s) (m : Int) (hn : n ≤ 4611686018427387902) :
    P36 s m ∧ SrcOk (n + 2) (u36_0 s m) := by
  obtain ⟨p, s1, _⟩ := pick_ok h m hn
  exact ⟨⟨p, trivial⟩, s1⟩

end Go.Proofs.Ytohojjcoikkmcaa

/- A law that says how functions of the program and of the specification hang together. -/
set_option linter.unusedVariables false
set_option linter.unusedSimpArgs false
set_option maxRecDepth 100000
namespace Go.Proofs.Ytohojjcoikkmcaa
open Go Go.Am Go.Proofs

theorem among_ok {n : Int} {s : List Int × Int × Int × Unit} (h : SrcOk n s) (l : List Int) (hl : 1 ≤ l.length) (hn : n ≤ 4611686018427387902) :
    P46 s l ∧ SrcOk (n + 2) (u46_0 s l) ∧ g46_0 s l ∈ l := by
  obtain ⟨p, s1, a, b, _⟩ := pick_ok h (l.length : Int) hn
  have b := b (by omega)
  exact ⟨⟨p, a, b, trivial⟩, s1, mem_getD l _ 0 (by omega)⟩

end Go.Proofs.Ytohojjcoikkmcaa

/- A law that says how functions of the program and of the specification hang together. -/
set_option linter.unusedVariables false
set_option linter.unusedSimpArgs false
set_option maxRecDepth 100000
namespace Go.Proofs.Ytohojjcoikkmcaa
open Go Go.Am Go.Proofs

theorem list_size {xs : List Int} (h1 : xs.length ≤ 64) (hx : ∀ x ∈ xs, InR .i64 x) : (g47_0 xs).size ≤ 2000 := by
  have key : ∀ (r : List Int) (i : Nat) (o : ByteArray), (∀ x ∈ r, InR .i64 x) → (ap47 i o r).size ≤ o.size + 22 * r.length := by
    intro r
    induction r with
    | nil => intro i o _; simp [ap47]
    | cons x r ih =>
      intro i o hx
      have hr := hx x (List.mem_cons_self ..)
      rw [i64_iff] at hr
      have hs : (g53_0 x).size ≤ 21 := numB_size _ (by omega) (by omega)
      have i44 : (ByteArray.mk #[44]).size = 1 := rfl
      unfold ap47
      refine Nat.le_trans (ih _ _ fun y hy => hx y (List.mem_cons_of_mem _ hy)) ?_
      rw [ByteArray.size_append, List.length_cons]
      split
      · rw [ByteArray.size_append, i44]; omega
      · omega
  unfold g47_0
  split
  · exact (show (1 : Nat) ≤ 2000 by decide)
  · have := key xs 0 (ByteArray.mk #[]) hx
    have i0 : (ByteArray.mk #[]).size = 0 := rfl
    omega

end Go.Proofs.Ytohojjcoikkmcaa

/- A law that says how functions of the program and of the specification hang together. -/
set_option linter.unusedVariables false
set_option linter.unusedSimpArgs false
set_option maxRecDepth 100000
namespace Go.Proofs.Ytohojjcoikkmcaa
open Go Go.Am Go.Proofs

theorem draw_check {n : Int} {s : (List Int × Int × Int × Unit)} (h : SrcOk n s) (hn : n ≤ 4000000000000000000) (id : ByteArray) :
    P38 s id ∧ SrcOk (n + 8) (u38_0 s id) ∧ (g38_0 s id).1 = id ∧
    (g38_0 s id).2.1 ∈ [1, 7, 30, 365] ∧ (50 ≤ (g38_0 s id).2.2.1 ∧ (g38_0 s id).2.2.1 ≤ 3000) ∧ (0 ≤ (g38_0 s id).2.2.2.1 ∧ (g38_0 s id).2.2.2.1 < 60) ∧ (0 ≤ (g38_0 s id).2.2.2.2.1 ∧ (g38_0 s id).2.2.2.2.1 < 3000) := by
  obtain ⟨p1, s1, m1⟩ := among_ok h [1, 7, 30, 365] (by decide) (by omega)
  obtain ⟨p2, s2, a2, b2, _⟩ := pick_ok s1 60 (by omega)
  obtain ⟨p3, s3, a3, b3, _⟩ := pick_ok s2 60 (by omega)
  obtain ⟨p4, s4, a4, b4, _⟩ := pick_ok s3 3000 (by omega)
  have b2 := b2 (by decide)
  have b3 := b3 (by decide)
  have b4 := b4 (by decide)
  unfold P38 u38_0 g38_0
  exact ⟨⟨p1, p2, p3, by rw [i64_iff]; omega, by rw [i64_iff]; omega, p4, trivial⟩, s4.up (by omega), rfl, m1, ⟨by show 50 ≤ 50 * _; omega, by show 50 * _ ≤ 3000; omega⟩, ⟨a2, b2⟩, a4, b4⟩

theorem text_check {x : (ByteArray × Int × Int × Int × Int × Unit)} (hs : x.1.size ≤ 1048576) (hI : ∀ y ∈ [x.2.1, x.2.2.1, x.2.2.2.1, x.2.2.2.2.1], InR .i64 y) : P39 x ∧ (g39_0 x).size ≤ 1048576 + 3000 := by
  have hl := list_size (xs := [x.2.1, x.2.2.1, x.2.2.2.1, x.2.2.2.2.1]) (by simp) hI
  have i32 : (ByteArray.mk #[32]).size = 1 := rfl
  unfold P39 g39_0
  simp only [ByteArray.size_append, i32]
  exact ⟨⟨by omega, ⟨by simp, hI⟩, by omega, trivial⟩, by omega⟩

end Go.Proofs.Ytohojjcoikkmcaa

/- Function 25 (spec.l29DrawOne): its runs between cut points. Written by a program of this repo (gen). -/
set_option linter.unusedVariables false
set_option linter.unusedSimpArgs false
set_option maxRecDepth 100000
namespace Go.Proofs.Ytohojjcoikkmcaa
open Go Go.Am Go.Proofs
noncomputable section
def ext25 : Ext := [(35, S35), (36, S36), (37, S37), (38, S38), (39, S39), (23, S23)]
theorem call25_35 : Callable Try.prog 35 := ⟨Try.f35, Try.func35, by kernel_rfl, by kernel_rfl⟩
theorem call25_36 : Callable Try.prog 36 := ⟨Try.f36, Try.func36, by kernel_rfl, by kernel_rfl⟩
theorem call25_37 : Callable Try.prog 37 := ⟨Try.f37, Try.func37, by kernel_rfl, by kernel_rfl⟩
theorem call25_38 : Callable Try.prog 38 := ⟨Try.f38, Try.func38, by kernel_rfl, by kernel_rfl⟩
theorem call25_39 : Callable Try.prog 39 := ⟨Try.f39, Try.func39, by kernel_rfl, by kernel_rfl⟩
theorem call25_23 : Callable Try.prog 23 := ⟨Try.f23, Try.func23, by kernel_rfl, by kernel_rfl⟩
theorem ext25Ok : ExtOk Try.prog ext25 := ⟨⟨call25_35, con35⟩, ⟨call25_36, con36⟩, ⟨call25_37, con37⟩, ⟨call25_38, con38⟩, ⟨call25_39, con39⟩, ⟨call25_23, con23⟩, trivial⟩

noncomputable def b25 : Code := bodyOf Try.f25
theorem hb25 : Try.f25.body = some b25 := by kernel_rfl
def sig25 : List AT := [AT.pb (Ty.cons (Ty.sl (Ty.int IntKind.u8)) (Ty.cons (Ty.int IntKind.i64) (Ty.cons (Ty.int IntKind.u64) Ty.unit)))]
def tys25 : List Ty := [Ty.cons Ty.str (Ty.cons Ty.str (Ty.cons Ty.str Ty.unit))]
def kds25 : List RK := []
def oks25 : List AT := owns sig25
def E25_6 (h0 : List Int × Int × Int × Unit) (h2 : ByteArray × ByteArray × ByteArray × Unit) : Env := [(0, PV.a (Atom.optr 0 0 [])), (2, PV.a (Atom.optr 1 0 [])), (3, PV.a (Atom.optr 2 0 []))]
def L25_6 (h0 : List Int × Int × Int × Unit) (h2 : ByteArray × ByteArray × ByteArray × Unit) : Heap := [Option.some (Arr.mk (Ty.cons (Ty.sl (Ty.int IntKind.u8)) (Ty.cons (Ty.int IntKind.i64) (Ty.cons (Ty.int IntKind.u64) Ty.unit))) [h0] Bool.true Option.none (Option.some Bool.true)), Option.some (Arr.mk (Ty.cons Ty.str (Ty.cons Ty.str (Ty.cons Ty.str Ty.unit))) [(ByteArray.empty, ByteArray.empty, ByteArray.empty, ())] Bool.true Option.none (Option.some Bool.false)), Option.some (Arr.mk (Ty.cons Ty.str (Ty.cons Ty.str (Ty.cons Ty.str Ty.unit))) [h2] Bool.true Option.none (Option.some Bool.false))]
def E25_9 (h0 : List Int × Int × Int × Unit) (h2 : ByteArray × ByteArray × ByteArray × Unit) : Env := [(0, PV.a (Atom.optr 0 0 [])), (2, PV.a (Atom.optr 1 0 [])), (3, PV.a (Atom.optr 2 0 []))]
def L25_9 (h0 : List Int × Int × Int × Unit) (h2 : ByteArray × ByteArray × ByteArray × Unit) : Heap := [Option.some (Arr.mk (Ty.cons (Ty.sl (Ty.int IntKind.u8)) (Ty.cons (Ty.int IntKind.i64) (Ty.cons (Ty.int IntKind.u64) Ty.unit))) [h0] Bool.true Option.none (Option.some Bool.true)), Option.some (Arr.mk (Ty.cons Ty.str (Ty.cons Ty.str (Ty.cons Ty.str Ty.unit))) [(ByteArray.empty, ByteArray.empty, ByteArray.empty, ())] Bool.true Option.none (Option.some Bool.false)), Option.some (Arr.mk (Ty.cons Ty.str (Ty.cons Ty.str (Ty.cons Ty.str Ty.unit))) [h2] Bool.true Option.none (Option.some Bool.false))]
def E25_11 (h0 : List Int × Int × Int × Unit) (h2 : ByteArray × ByteArray × ByteArray × Unit) : Env := [(0, PV.a (Atom.optr 0 0 [])), (2, PV.a (Atom.optr 1 0 [])), (3, PV.a (Atom.optr 2 0 []))]
def L25_11 (h0 : List Int × Int × Int × Unit) (h2 : ByteArray × ByteArray × ByteArray × Unit) : Heap := [Option.some (Arr.mk (Ty.cons (Ty.sl (Ty.int IntKind.u8)) (Ty.cons (Ty.int IntKind.i64) (Ty.cons (Ty.int IntKind.u64) Ty.unit))) [h0] Bool.true Option.none (Option.some Bool.true)), Option.some (Arr.mk (Ty.cons Ty.str (Ty.cons Ty.str (Ty.cons Ty.str Ty.unit))) [(ByteArray.empty, ByteArray.empty, ByteArray.empty, ())] Bool.true Option.none (Option.some Bool.false)), Option.some (Arr.mk (Ty.cons Ty.str (Ty.cons Ty.str (Ty.cons Ty.str Ty.unit))) [h2] Bool.true Option.none (Option.some Bool.false))]
mutual
def R25 : Nat → List Int × Int × Int × Unit → List Dyn → List (Option Lst) → Prop
  | 0, _, _, _ => False
  | n + 1, x0, ds, us => ((P35 x0 [ByteArray.mk #[99, 104, 101, 99, 107], ByteArray.mk #[110, 111, 116, 101], ByteArray.mk #[102, 97, 99, 101]]) ∧ ((P35 (u35_0 x0 [ByteArray.mk #[99, 104, 101, 99, 107], ByteArray.mk #[110, 111, 116, 101], ByteArray.mk #[102, 97, 99, 101]]) [ByteArray.mk #[97], ByteArray.mk #[98], ByteArray.mk #[99], ByteArray.mk #[100]]) ∧ ((P35 (u35_0 (u35_0 x0 [ByteArray.mk #[99, 104, 101, 99, 107], ByteArray.mk #[110, 111, 116, 101], ByteArray.mk #[102, 97, 99, 101]]) [ByteArray.mk #[97], ByteArray.mk #[98], ByteArray.mk #[99], ByteArray.mk #[100]]) [ByteArray.mk #[], ByteArray.mk #[120], ByteArray.mk #[97, 32, 98, 32, 99], ByteArray.mk #[49, 50, 32, 51, 52], ByteArray.mk #[111, 97, 107, 47, 52, 48]]) ∧ ((P36 (u35_0 (u35_0 (u35_0 x0 [ByteArray.mk #[99, 104, 101, 99, 107], ByteArray.mk #[110, 111, 116, 101], ByteArray.mk #[102, 97, 99, 101]]) [ByteArray.mk #[97], ByteArray.mk #[98], ByteArray.mk #[99], ByteArray.mk #[100]]) [ByteArray.mk #[], ByteArray.mk #[120], ByteArray.mk #[97, 32, 98, 32, 99], ByteArray.mk #[49, 50, 32, 51, 52], ByteArray.mk #[111, 97, 107, 47, 52, 48]]) 4) ∧ (if (g36_0 (u35_0 (u35_0 (u35_0 x0 [ByteArray.mk #[99, 104, 101, 99, 107], ByteArray.mk #[110, 111, 116, 101], ByteArray.mk #[102, 97, 99, 101]]) [ByteArray.mk #[97], ByteArray.mk #[98], ByteArray.mk #[99], ByteArray.mk #[100]]) [ByteArray.mk #[], ByteArray.mk #[120], ByteArray.mk #[97, 32, 98, 32, 99], ByteArray.mk #[49, 50, 32, 51, 52], ByteArray.mk #[111, 97, 107, 47, 52, 48]]) 4) = true then ((P37 (u36_0 (u35_0 (u35_0 (u35_0 x0 [ByteArray.mk #[99, 104, 101, 99, 107], ByteArray.mk #[110, 111, 116, 101], ByteArray.mk #[102, 97, 99, 101]]) [ByteArray.mk #[97], ByteArray.mk #[98], ByteArray.mk #[99], ByteArray.mk #[100]]) [ByteArray.mk #[], ByteArray.mk #[120], ByteArray.mk #[97, 32, 98, 32, 99], ByteArray.mk #[49, 50, 32, 51, 52], ByteArray.mk #[111, 97, 107, 47, 52, 48]]) 4) 9) ∧ ((ByteArray.size (g35_0 (u35_0 (u35_0 x0 [ByteArray.mk #[99, 104, 101, 99, 107], ByteArray.mk #[110, 111, 116, 101], ByteArray.mk #[102, 97, 99, 101]]) [ByteArray.mk #[97], ByteArray.mk #[98], ByteArray.mk #[99], ByteArray.mk #[100]]) [ByteArray.mk #[], ByteArray.mk #[120], ByteArray.mk #[97, 32, 98, 32, 99], ByteArray.mk #[49, 50, 32, 51, 52], ByteArray.mk #[111, 97, 107, 47, 52, 48]]) + ByteArray.size (g37_0 (u36_0 (u35_0 (u35_0 (u35_0 x0 [ByteArray.mk #[99, 104, 101, 99, 107], ByteArray.mk #[110, 111, 116, 101], ByteArray.mk #[102, 97, 99, 101]]) [ByteArray.mk #[97], ByteArray.mk #[98], ByteArray.mk #[99], ByteArray.mk #[100]]) [ByteArray.mk #[], ByteArray.mk #[120], ByteArray.mk #[97, 32, 98, 32, 99], ByteArray.mk #[49, 50, 32, 51, 52], ByteArray.mk #[111, 97, 107, 47, 52, 48]]) 4) 9) ≤ 9223372036854775807) ∧ (R25_6 n (u37_0 (u36_0 (u35_0 (u35_0 (u35_0 x0 [ByteArray.mk #[99, 104, 101, 99, 107], ByteArray.mk #[110, 111, 116, 101], ByteArray.mk #[102, 97, 99, 101]]) [ByteArray.mk #[97], ByteArray.mk #[98], ByteArray.mk #[99], ByteArray.mk #[100]]) [ByteArray.mk #[], ByteArray.mk #[120], ByteArray.mk #[97, 32, 98, 32, 99], ByteArray.mk #[49, 50, 32, 51, 52], ByteArray.mk #[111, 97, 107, 47, 52, 48]]) 4) 9) ((g35_0 x0 [ByteArray.mk #[99, 104, 101, 99, 107], ByteArray.mk #[110, 111, 116, 101], ByteArray.mk #[102, 97, 99, 101]], g35_0 (u35_0 x0 [ByteArray.mk #[99, 104, 101, 99, 107], ByteArray.mk #[110, 111, 116, 101], ByteArray.mk #[102, 97, 99, 101]]) [ByteArray.mk #[97], ByteArray.mk #[98], ByteArray.mk #[99], ByteArray.mk #[100]], g35_0 (u35_0 (u35_0 x0 [ByteArray.mk #[99, 104, 101, 99, 107], ByteArray.mk #[110, 111, 116, 101], ByteArray.mk #[102, 97, 99, 101]]) [ByteArray.mk #[97], ByteArray.mk #[98], ByteArray.mk #[99], ByteArray.mk #[100]]) [ByteArray.mk #[], ByteArray.mk #[120], ByteArray.mk #[97, 32, 98, 32, 99], ByteArray.mk #[49, 50, 32, 51, 52], ByteArray.mk #[111, 97, 107, 47, 52, 48]] ++ g37_0 (u36_0 (u35_0 (u35_0 (u35_0 x0 [ByteArray.mk #[99, 104, 101, 99, 107], ByteArray.mk #[110, 111, 116, 101], ByteArray.mk #[102, 97, 99, 101]]) [ByteArray.mk #[97], ByteArray.mk #[98], ByteArray.mk #[99], ByteArray.mk #[100]]) [ByteArray.mk #[], ByteArray.mk #[120], ByteArray.mk #[97, 32, 98, 32, 99], ByteArray.mk #[49, 50, 32, 51, 52], ByteArray.mk #[111, 97, 107, 47, 52, 48]]) 4) 9, ())) ds us))) else (R25_6 n (u36_0 (u35_0 (u35_0 (u35_0 x0 [ByteArray.mk #[99, 104, 101, 99, 107], ByteArray.mk #[110, 111, 116, 101], ByteArray.mk #[102, 97, 99, 101]]) [ByteArray.mk #[97], ByteArray.mk #[98], ByteArray.mk #[99], ByteArray.mk #[100]]) [ByteArray.mk #[], ByteArray.mk #[120], ByteArray.mk #[97, 32, 98, 32, 99], ByteArray.mk #[49, 50, 32, 51, 52], ByteArray.mk #[111, 97, 107, 47, 52, 48]]) 4) ((g35_0 x0 [ByteArray.mk #[99, 104, 101, 99, 107], ByteArray.mk #[110, 111, 116, 101], ByteArray.mk #[102, 97, 99, 101]], g35_0 (u35_0 x0 [ByteArray.mk #[99, 104, 101, 99, 107], ByteArray.mk #[110, 111, 116, 101], ByteArray.mk #[102, 97, 99, 101]]) [ByteArray.mk #[97], ByteArray.mk #[98], ByteArray.mk #[99], ByteArray.mk #[100]], g35_0 (u35_0 (u35_0 x0 [ByteArray.mk #[99, 104, 101, 99, 107], ByteArray.mk #[110, 111, 116, 101], ByteArray.mk #[102, 97, 99, 101]]) [ByteArray.mk #[97], ByteArray.mk #[98], ByteArray.mk #[99], ByteArray.mk #[100]]) [ByteArray.mk #[], ByteArray.mk #[120], ByteArray.mk #[97, 32, 98, 32, 99], ByteArray.mk #[49, 50, 32, 51, 52], ByteArray.mk #[111, 97, 107, 47, 52, 48]], ())) ds us))))))
def R25_6 : Nat → List Int × Int × Int × Unit → ByteArray × ByteArray × ByteArray × Unit → List Dyn → List (Option Lst) → Prop
  | 0, _, _, _, _ => False
  | n + 1, h0, h2, ds, us => (if (ByteArray.toList (Prod.fst h2) == ByteArray.toList (ByteArray.mk #[99, 104, 101, 99, 107])) = true then ((P36 h0 2) ∧ (if (g36_0 h0 2) = true then ((P38 (u36_0 h0 2) (Prod.fst (Prod.snd h2))) ∧ ((P39 (Prod.fst (Prod.snd h2), g46_0 (u36_0 h0 2) [1, 7, 30, 365], 50 * (1 + g23_0 (u23_0 (u46_0 (u36_0 h0 2) [1, 7, 30, 365]) 60) 60), g23_0 (u46_0 (u36_0 h0 2) [1, 7, 30, 365]) 60, g23_0 (u23_0 (u23_0 (u46_0 (u36_0 h0 2) [1, 7, 30, 365]) 60) 60) 3000, ())) ∧ (R25_9 n (u38_0 (u36_0 h0 2) (Prod.fst (Prod.snd h2))) ((Prod.fst h2, Prod.fst (Prod.snd h2), g39_0 (Prod.fst (Prod.snd h2), g46_0 (u36_0 h0 2) [1, 7, 30, 365], 50 * (1 + g23_0 (u23_0 (u46_0 (u36_0 h0 2) [1, 7, 30, 365]) 60) 60), g23_0 (u46_0 (u36_0 h0 2) [1, 7, 30, 365]) 60, g23_0 (u23_0 (u23_0 (u46_0 (u36_0 h0 2) [1, 7, 30, 365]) 60) 60) 3000, ()), ())) ds us))) else (R25_9 n (u36_0 h0 2) (h2) ds us))) else (R25_9 n (h0) (h2) ds us))
def R25_9 : Nat → List Int × Int × Int × Unit → ByteArray × ByteArray × ByteArray × Unit → List Dyn → List (Option Lst) → Prop
  | 0, _, _, _, _ => False
  | n + 1, h0, h2, ds, us => ((P36 h0 24) ∧ (if (g36_0 h0 24) = true then ((P23 (u36_0 h0 24) 3) ∧ ((InR IntKind.i64 (399 + g23_0 (u36_0 h0 24) 3)) ∧ ((0 ≤ 399 + g23_0 (u36_0 h0 24) 3) ∧ (399 + g23_0 (u36_0 h0 24) 3 ≤ 399 + g23_0 (u36_0 h0 24) 3) ∧ (1 * (399 + g23_0 (u36_0 h0 24) 3) ≤ 281474976710656) ∧ (R25_11 n (u23_0 (u36_0 h0 24) 3) ((Prod.fst h2, Prod.fst (Prod.snd h2), bytesStr (List.replicate (Int.toNat (399 + g23_0 (u36_0 h0 24) 3)) 0), ())) ds us)))) else (R25_11 n (u36_0 h0 24) (h2) ds us)))
def R25_11 : Nat → List Int × Int × Int × Unit → ByteArray × ByteArray × ByteArray × Unit → List Dyn → List (Option Lst) → Prop
  | 0, _, _, _, _ => False
  | n + 1, h0, h2, ds, us => (ds = [Dyn.mk (Ty.cons Ty.str (Ty.cons Ty.str (Ty.cons Ty.str Ty.unit))) h2] ∧ us = [Option.some (Lst.mk (Ty.cons (Ty.sl (Ty.int IntKind.u8)) (Ty.cons (Ty.int IntKind.i64) (Ty.cons (Ty.int IntKind.u64) Ty.unit))) [h0])])
end
theorem p25_0 (x0 : List Int × Int × Int × Unit) : Am.runN tab ext25 false 47 [6, 9, 11] 2000 [0] [] [0, 2, 3] [0, 1, 3] [true] [.code b25] (entE 0 0 sig25 (x0, ())) (entL sig25 (x0, ())) = some (cutAt b25 6, E25_6 (u37_0 (u36_0 (u35_0 (u35_0 (u35_0 x0 [ByteArray.mk #[99, 104, 101, 99, 107], ByteArray.mk #[110, 111, 116, 101], ByteArray.mk #[102, 97, 99, 101]]) [ByteArray.mk #[97], ByteArray.mk #[98], ByteArray.mk #[99], ByteArray.mk #[100]]) [ByteArray.mk #[], ByteArray.mk #[120], ByteArray.mk #[97, 32, 98, 32, 99], ByteArray.mk #[49, 50, 32, 51, 52], ByteArray.mk #[111, 97, 107, 47, 52, 48]]) 4) 9) ((g35_0 x0 [ByteArray.mk #[99, 104, 101, 99, 107], ByteArray.mk #[110, 111, 116, 101], ByteArray.mk #[102, 97, 99, 101]], g35_0 (u35_0 x0 [ByteArray.mk #[99, 104, 101, 99, 107], ByteArray.mk #[110, 111, 116, 101], ByteArray.mk #[102, 97, 99, 101]]) [ByteArray.mk #[97], ByteArray.mk #[98], ByteArray.mk #[99], ByteArray.mk #[100]], g35_0 (u35_0 (u35_0 x0 [ByteArray.mk #[99, 104, 101, 99, 107], ByteArray.mk #[110, 111, 116, 101], ByteArray.mk #[102, 97, 99, 101]]) [ByteArray.mk #[97], ByteArray.mk #[98], ByteArray.mk #[99], ByteArray.mk #[100]]) [ByteArray.mk #[], ByteArray.mk #[120], ByteArray.mk #[97, 32, 98, 32, 99], ByteArray.mk #[49, 50, 32, 51, 52], ByteArray.mk #[111, 97, 107, 47, 52, 48]] ++ g37_0 (u36_0 (u35_0 (u35_0 (u35_0 x0 [ByteArray.mk #[99, 104, 101, 99, 107], ByteArray.mk #[110, 111, 116, 101], ByteArray.mk #[102, 97, 99, 101]]) [ByteArray.mk #[97], ByteArray.mk #[98], ByteArray.mk #[99], ByteArray.mk #[100]]) [ByteArray.mk #[], ByteArray.mk #[120], ByteArray.mk #[97, 32, 98, 32, 99], ByteArray.mk #[49, 50, 32, 51, 52], ByteArray.mk #[111, 97, 107, 47, 52, 48]]) 4) 9, ())), L25_6 (u37_0 (u36_0 (u35_0 (u35_0 (u35_0 x0 [ByteArray.mk #[99, 104, 101, 99, 107], ByteArray.mk #[110, 111, 116, 101], ByteArray.mk #[102, 97, 99, 101]]) [ByteArray.mk #[97], ByteArray.mk #[98], ByteArray.mk #[99], ByteArray.mk #[100]]) [ByteArray.mk #[], ByteArray.mk #[120], ByteArray.mk #[97, 32, 98, 32, 99], ByteArray.mk #[49, 50, 32, 51, 52], ByteArray.mk #[111, 97, 107, 47, 52, 48]]) 4) 9) ((g35_0 x0 [ByteArray.mk #[99, 104, 101, 99, 107], ByteArray.mk #[110, 111, 116, 101], ByteArray.mk #[102, 97, 99, 101]], g35_0 (u35_0 x0 [ByteArray.mk #[99, 104, 101, 99, 107], ByteArray.mk #[110, 111, 116, 101], ByteArray.mk #[102, 97, 99, 101]]) [ByteArray.mk #[97], ByteArray.mk #[98], ByteArray.mk #[99], ByteArray.mk #[100]], g35_0 (u35_0 (u35_0 x0 [ByteArray.mk #[99, 104, 101, 99, 107], ByteArray.mk #[110, 111, 116, 101], ByteArray.mk #[102, 97, 99, 101]]) [ByteArray.mk #[97], ByteArray.mk #[98], ByteArray.mk #[99], ByteArray.mk #[100]]) [ByteArray.mk #[], ByteArray.mk #[120], ByteArray.mk #[97, 32, 98, 32, 99], ByteArray.mk #[49, 50, 32, 51, 52], ByteArray.mk #[111, 97, 107, 47, 52, 48]] ++ g37_0 (u36_0 (u35_0 (u35_0 (u35_0 x0 [ByteArray.mk #[99, 104, 101, 99, 107], ByteArray.mk #[110, 111, 116, 101], ByteArray.mk #[102, 97, 99, 101]]) [ByteArray.mk #[97], ByteArray.mk #[98], ByteArray.mk #[99], ByteArray.mk #[100]]) [ByteArray.mk #[], ByteArray.mk #[120], ByteArray.mk #[97, 32, 98, 32, 99], ByteArray.mk #[49, 50, 32, 51, 52], ByteArray.mk #[111, 97, 107, 47, 52, 48]]) 4) 9, ())), [P35 x0 [ByteArray.mk #[99, 104, 101, 99, 107], ByteArray.mk #[110, 111, 116, 101], ByteArray.mk #[102, 97, 99, 101]], P35 (u35_0 x0 [ByteArray.mk #[99, 104, 101, 99, 107], ByteArray.mk #[110, 111, 116, 101], ByteArray.mk #[102, 97, 99, 101]]) [ByteArray.mk #[97], ByteArray.mk #[98], ByteArray.mk #[99], ByteArray.mk #[100]], P35 (u35_0 (u35_0 x0 [ByteArray.mk #[99, 104, 101, 99, 107], ByteArray.mk #[110, 111, 116, 101], ByteArray.mk #[102, 97, 99, 101]]) [ByteArray.mk #[97], ByteArray.mk #[98], ByteArray.mk #[99], ByteArray.mk #[100]]) [ByteArray.mk #[], ByteArray.mk #[120], ByteArray.mk #[97, 32, 98, 32, 99], ByteArray.mk #[49, 50, 32, 51, 52], ByteArray.mk #[111, 97, 107, 47, 52, 48]], P36 (u35_0 (u35_0 (u35_0 x0 [ByteArray.mk #[99, 104, 101, 99, 107], ByteArray.mk #[110, 111, 116, 101], ByteArray.mk #[102, 97, 99, 101]]) [ByteArray.mk #[97], ByteArray.mk #[98], ByteArray.mk #[99], ByteArray.mk #[100]]) [ByteArray.mk #[], ByteArray.mk #[120], ByteArray.mk #[97, 32, 98, 32, 99], ByteArray.mk #[49, 50, 32, 51, 52], ByteArray.mk #[111, 97, 107, 47, 52, 48]]) 4, g36_0 (u35_0 (u35_0 (u35_0 x0 [ByteArray.mk #[99, 104, 101, 99, 107], ByteArray.mk #[110, 111, 116, 101], ByteArray.mk #[102, 97, 99, 101]]) [ByteArray.mk #[97], ByteArray.mk #[98], ByteArray.mk #[99], ByteArray.mk #[100]]) [ByteArray.mk #[], ByteArray.mk #[120], ByteArray.mk #[97, 32, 98, 32, 99], ByteArray.mk #[49, 50, 32, 51, 52], ByteArray.mk #[111, 97, 107, 47, 52, 48]]) 4 = Bool.true, P37 (u36_0 (u35_0 (u35_0 (u35_0 x0 [ByteArray.mk #[99, 104, 101, 99, 107], ByteArray.mk #[110, 111, 116, 101], ByteArray.mk #[102, 97, 99, 101]]) [ByteArray.mk #[97], ByteArray.mk #[98], ByteArray.mk #[99], ByteArray.mk #[100]]) [ByteArray.mk #[], ByteArray.mk #[120], ByteArray.mk #[97, 32, 98, 32, 99], ByteArray.mk #[49, 50, 32, 51, 52], ByteArray.mk #[111, 97, 107, 47, 52, 48]]) 4) 9, ByteArray.size (g35_0 (u35_0 (u35_0 x0 [ByteArray.mk #[99, 104, 101, 99, 107], ByteArray.mk #[110, 111, 116, 101], ByteArray.mk #[102, 97, 99, 101]]) [ByteArray.mk #[97], ByteArray.mk #[98], ByteArray.mk #[99], ByteArray.mk #[100]]) [ByteArray.mk #[], ByteArray.mk #[120], ByteArray.mk #[97, 32, 98, 32, 99], ByteArray.mk #[49, 50, 32, 51, 52], ByteArray.mk #[111, 97, 107, 47, 52, 48]]) + ByteArray.size (g37_0 (u36_0 (u35_0 (u35_0 (u35_0 x0 [ByteArray.mk #[99, 104, 101, 99, 107], ByteArray.mk #[110, 111, 116, 101], ByteArray.mk #[102, 97, 99, 101]]) [ByteArray.mk #[97], ByteArray.mk #[98], ByteArray.mk #[99], ByteArray.mk #[100]]) [ByteArray.mk #[], ByteArray.mk #[120], ByteArray.mk #[97, 32, 98, 32, 99], ByteArray.mk #[49, 50, 32, 51, 52], ByteArray.mk #[111, 97, 107, 47, 52, 48]]) 4) 9) ≤ 9223372036854775807]) := by kernel_rfl
theorem p25_1 (x0 : List Int × Int × Int × Unit) : Am.runN tab ext25 false 47 [6, 9, 11] 2000 [0] [] [0, 2, 3] [0, 1, 3] [false] [.code b25] (entE 0 0 sig25 (x0, ())) (entL sig25 (x0, ())) = some (cutAt b25 6, E25_6 (u36_0 (u35_0 (u35_0 (u35_0 x0 [ByteArray.mk #[99, 104, 101, 99, 107], ByteArray.mk #[110, 111, 116, 101], ByteArray.mk #[102, 97, 99, 101]]) [ByteArray.mk #[97], ByteArray.mk #[98], ByteArray.mk #[99], ByteArray.mk #[100]]) [ByteArray.mk #[], ByteArray.mk #[120], ByteArray.mk #[97, 32, 98, 32, 99], ByteArray.mk #[49, 50, 32, 51, 52], ByteArray.mk #[111, 97, 107, 47, 52, 48]]) 4) ((g35_0 x0 [ByteArray.mk #[99, 104, 101, 99, 107], ByteArray.mk #[110, 111, 116, 101], ByteArray.mk #[102, 97, 99, 101]], g35_0 (u35_0 x0 [ByteArray.mk #[99, 104, 101, 99, 107], ByteArray.mk #[110, 111, 116, 101], ByteArray.mk #[102, 97, 99, 101]]) [ByteArray.mk #[97], ByteArray.mk #[98], ByteArray.mk #[99], ByteArray.mk #[100]], g35_0 (u35_0 (u35_0 x0 [ByteArray.mk #[99, 104, 101, 99, 107], ByteArray.mk #[110, 111, 116, 101], ByteArray.mk #[102, 97, 99, 101]]) [ByteArray.mk #[97], ByteArray.mk #[98], ByteArray.mk #[99], ByteArray.mk #[100]]) [ByteArray.mk #[], ByteArray.mk #[120], ByteArray.mk #[97, 32, 98, 32, 99], ByteArray.mk #[49, 50, 32, 51, 52], ByteArray.mk #[111, 97, 107, 47, 52, 48]], ())), L25_6 (u36_0 (u35_0 (u35_0 (u35_0 x0 [ByteArray.mk #[99, 104, 101, 99, 107], ByteArray.mk #[110, 111, 116, 101], ByteArray.mk #[102, 97, 99, 101]]) [ByteArray.mk #[97], ByteArray.mk #[98], ByteArray.mk #[99], ByteArray.mk #[100]]) [ByteArray.mk #[], ByteArray.mk #[120], ByteArray.mk #[97, 32, 98, 32, 99], ByteArray.mk #[49, 50, 32, 51, 52], ByteArray.mk #[111, 97, 107, 47, 52, 48]]) 4) ((g35_0 x0 [ByteArray.mk #[99, 104, 101, 99, 107], ByteArray.mk #[110, 111, 116, 101], ByteArray.mk #[102, 97, 99, 101]], g35_0 (u35_0 x0 [ByteArray.mk #[99, 104, 101, 99, 107], ByteArray.mk #[110, 111, 116, 101], ByteArray.mk #[102, 97, 99, 101]]) [ByteArray.mk #[97], ByteArray.mk #[98], ByteArray.mk #[99], ByteArray.mk #[100]], g35_0 (u35_0 (u35_0 x0 [ByteArray.mk #[99, 104, 101, 99, 107], ByteArray.mk #[110, 111, 116, 101], ByteArray.mk #[102, 97, 99, 101]]) [ByteArray.mk #[97], ByteArray.mk #[98], ByteArray.mk #[99], ByteArray.mk #[100]]) [ByteArray.mk #[], ByteArray.mk #[120], ByteArray.mk #[97, 32, 98, 32, 99], ByteArray.mk #[49, 50, 32, 51, 52], ByteArray.mk #[111, 97, 107, 47, 52, 48]], ())), [P35 x0 [ByteArray.mk #[99, 104, 101, 99, 107], ByteArray.mk #[110, 111, 116, 101], ByteArray.mk #[102, 97, 99, 101]], P35 (u35_0 x0 [ByteArray.mk #[99, 104, 101, 99, 107], ByteArray.mk #[110, 111, 116, 101], ByteArray.mk #[102, 97, 99, 101]]) [ByteArray.mk #[97], ByteArray.mk #[98], ByteArray.mk #[99], ByteArray.mk #[100]], P35 (u35_0 (u35_0 x0 [ByteArray.mk #[99, 104, 101, 99, 107], ByteArray.mk #[110, 111, 116, 101], ByteArray.mk #[102, 97, 99, 101]]) [ByteArray.mk #[97], ByteArray.mk #[98], ByteArray.mk #[99], ByteArray.mk #[100]]) [ByteArray.mk #[], ByteArray.mk #[120], ByteArray.mk #[97, 32, 98, 32, 99], ByteArray.mk #[49, 50, 32, 51, 52], ByteArray.mk #[111, 97, 107, 47, 52, 48]], P36 (u35_0 (u35_0 (u35_0 x0 [ByteArray.mk #[99, 104, 101, 99, 107], ByteArray.mk #[110, 111, 116, 101], ByteArray.mk #[102, 97, 99, 101]]) [ByteArray.mk #[97], ByteArray.mk #[98], ByteArray.mk #[99], ByteArray.mk #[100]]) [ByteArray.mk #[], ByteArray.mk #[120], ByteArray.mk #[97, 32, 98, 32, 99], ByteArray.mk #[49, 50, 32, 51, 52], ByteArray.mk #[111, 97, 107, 47, 52, 48]]) 4, g36_0 (u35_0 (u35_0 (u35_0 x0 [ByteArray.mk #[99, 104, 101, 99, 107], ByteArray.mk #[110, 111, 116, 101], ByteArray.mk #[102, 97, 99, 101]]) [ByteArray.mk #[97], ByteArray.mk #[98], ByteArray.mk #[99], ByteArray.mk #[100]]) [ByteArray.mk #[], ByteArray.mk #[120], ByteArray.mk #[97, 32, 98, 32, 99], ByteArray.mk #[49, 50, 32, 51, 52], ByteArray.mk #[111, 97, 107, 47, 52, 48]]) 4 = Bool.false]) := by kernel_rfl
theorem p25_2 (h0 : List Int × Int × Int × Unit) (h2 : ByteArray × ByteArray × ByteArray × Unit) : Am.runN tab ext25 false 47 [6, 9, 11] 2000 [0] [] [0, 2, 3] [0, 1, 2] [true, true] (cutAt b25 6) (E25_6 h0 h2) (L25_6 h0 h2) = some (cutAt b25 9, E25_9 (u38_0 (u36_0 h0 2) (Prod.fst (Prod.snd h2))) ((Prod.fst h2, Prod.fst (Prod.snd h2), g39_0 (Prod.fst (Prod.snd h2), g46_0 (u36_0 h0 2) [1, 7, 30, 365], 50 * (1 + g23_0 (u23_0 (u46_0 (u36_0 h0 2) [1, 7, 30, 365]) 60) 60), g23_0 (u46_0 (u36_0 h0 2) [1, 7, 30, 365]) 60, g23_0 (u23_0 (u23_0 (u46_0 (u36_0 h0 2) [1, 7, 30, 365]) 60) 60) 3000, ()), ())), L25_9 (u38_0 (u36_0 h0 2) (Prod.fst (Prod.snd h2))) ((Prod.fst h2, Prod.fst (Prod.snd h2), g39_0 (Prod.fst (Prod.snd h2), g46_0 (u36_0 h0 2) [1, 7, 30, 365], 50 * (1 + g23_0 (u23_0 (u46_0 (u36_0 h0 2) [1, 7, 30, 365]) 60) 60), g23_0 (u46_0 (u36_0 h0 2) [1, 7, 30, 365]) 60, g23_0 (u23_0 (u23_0 (u46_0 (u36_0 h0 2) [1, 7, 30, 365]) 60) 60) 3000, ()), ())), [(ByteArray.toList (Prod.fst h2) == ByteArray.toList (ByteArray.mk #[99, 104, 101, 99, 107])) = Bool.true, P36 h0 2, g36_0 h0 2 = Bool.true, P38 (u36_0 h0 2) (Prod.fst (Prod.snd h2)), P39 (Prod.fst (Prod.snd h2), g46_0 (u36_0 h0 2) [1, 7, 30, 365], 50 * (1 + g23_0 (u23_0 (u46_0 (u36_0 h0 2) [1, 7, 30, 365]) 60) 60), g23_0 (u46_0 (u36_0 h0 2) [1, 7, 30, 365]) 60, g23_0 (u23_0 (u23_0 (u46_0 (u36_0 h0 2) [1, 7, 30, 365]) 60) 60) 3000, ())]) := by kernel_rfl
theorem p25_3 (h0 : List Int × Int × Int × Unit) (h2 : ByteArray × ByteArray × ByteArray × Unit) : Am.runN tab ext25 false 47 [6, 9, 11] 2000 [0] [] [0, 2, 3] [0, 1, 2] [true, false] (cutAt b25 6) (E25_6 h0 h2) (L25_6 h0 h2) = some (cutAt b25 9, E25_9 (u36_0 h0 2) (h2), L25_9 (u36_0 h0 2) (h2), [(ByteArray.toList (Prod.fst h2) == ByteArray.toList (ByteArray.mk #[99, 104, 101, 99, 107])) = Bool.true, P36 h0 2, g36_0 h0 2 = Bool.false]) := by kernel_rfl
theorem p25_4 (h0 : List Int × Int × Int × Unit) (h2 : ByteArray × ByteArray × ByteArray × Unit) : Am.runN tab ext25 false 47 [6, 9, 11] 2000 [0] [] [0, 2, 3] [0, 1, 2] [false, false] (cutAt b25 6) (E25_6 h0 h2) (L25_6 h0 h2) = some (cutAt b25 9, E25_9 (h0) (h2), L25_9 (h0) (h2), [(ByteArray.toList (Prod.fst h2) == ByteArray.toList (ByteArray.mk #[99, 104, 101, 99, 107])) = Bool.false, Bool.false = Bool.false]) := by kernel_rfl
theorem p25_5 (h0 : List Int × Int × Int × Unit) (h2 : ByteArray × ByteArray × ByteArray × Unit) : Am.runN tab ext25 false 47 [6, 9, 11] 2000 [0] [] [0, 2, 3] [0, 1, 2] [true] (cutAt b25 9) (E25_9 h0 h2) (L25_9 h0 h2) = some (cutAt b25 11, E25_11 (u23_0 (u36_0 h0 24) 3) ((Prod.fst h2, Prod.fst (Prod.snd h2), bytesStr (List.replicate (Int.toNat (399 + g23_0 (u36_0 h0 24) 3)) 0), ())), L25_11 (u23_0 (u36_0 h0 24) 3) ((Prod.fst h2, Prod.fst (Prod.snd h2), bytesStr (List.replicate (Int.toNat (399 + g23_0 (u36_0 h0 24) 3)) 0), ())), [P36 h0 24, g36_0 h0 24 = Bool.true, P23 (u36_0 h0 24) 3, InR IntKind.i64 (399 + g23_0 (u36_0 h0 24) 3), 0 ≤ 399 + g23_0 (u36_0 h0 24) 3, 399 + g23_0 (u36_0 h0 24) 3 ≤ 399 + g23_0 (u36_0 h0 24) 3, 1 * (399 + g23_0 (u36_0 h0 24) 3) ≤ 281474976710656]) := by kernel_rfl
theorem p25_6 (h0 : List Int × Int × Int × Unit) (h2 : ByteArray × ByteArray × ByteArray × Unit) : Am.runN tab ext25 false 47 [6, 9, 11] 2000 [0] [] [0, 2, 3] [0, 1, 2] [false] (cutAt b25 9) (E25_9 h0 h2) (L25_9 h0 h2) = some (cutAt b25 11, E25_11 (u36_0 h0 24) (h2), L25_11 (u36_0 h0 24) (h2), [P36 h0 24, g36_0 h0 24 = Bool.false]) := by kernel_rfl
theorem p25_7 (h0 : List Int × Int × Int × Unit) (h2 : ByteArray × ByteArray × ByteArray × Unit) : runF tab ext25 false 47 [6, 9, 11] 2000 [0] oks25 kds25 tys25 Try.f25.results [] (cutAt b25 11) (E25_11 h0 h2) (L25_11 h0 h2) = some ([Dyn.mk (Ty.cons Ty.str (Ty.cons Ty.str (Ty.cons Ty.str Ty.unit))) h2], [Option.some (Lst.mk (Ty.cons (Ty.sl (Ty.int IntKind.u8)) (Ty.cons (Ty.int IntKind.i64) (Ty.cons (Ty.int IntKind.u64) Ty.unit))) [h0])], []) := by kernel_rfl
theorem snd25 : ∀ n, (∀ (x0 : List Int × Int × Int × Unit) ds us, R25 n x0 ds us → ∀ K q, AtV Try.prog 25 (PostR kds25 oks25 ds us [0] q K) 47 K q [0] [.code b25] (entE 0 0 sig25 (x0, ())) (entL sig25 (x0, ()))) ∧ (∀ (h0 : List Int × Int × Int × Unit) (h2 : ByteArray × ByteArray × ByteArray × Unit) ds us, R25_6 n h0 h2 ds us → ∀ K q, AtV Try.prog 25 (PostR kds25 oks25 ds us [0] q K) 47 K q [0] (cutAt b25 6) (E25_6 h0 h2) (L25_6 h0 h2)) ∧ (∀ (h0 : List Int × Int × Int × Unit) (h2 : ByteArray × ByteArray × ByteArray × Unit) ds us, R25_9 n h0 h2 ds us → ∀ K q, AtV Try.prog 25 (PostR kds25 oks25 ds us [0] q K) 47 K q [0] (cutAt b25 9) (E25_9 h0 h2) (L25_9 h0 h2)) ∧ (∀ (h0 : List Int × Int × Int × Unit) (h2 : ByteArray × ByteArray × ByteArray × Unit) ds us, R25_11 n h0 h2 ds us → ∀ K q, AtV Try.prog 25 (PostR kds25 oks25 ds us [0] q K) 47 K q [0] (cutAt b25 11) (E25_11 h0 h2) (L25_11 h0 h2)) := by
  intro n
  induction n with
  | zero => exact ⟨fun _ _ _ h => by simp only [R25] at h, fun _ _ _ _ h => by simp only [R25_6] at h, fun _ _ _ _ h => by simp only [R25_9] at h, fun _ _ _ _ h => by simp only [R25_11] at h⟩
  | succ n ih =>
  obtain ⟨ih, ih6, ih9, ih11⟩ := ih
  refine ⟨?_, ?_, ?_, ?_⟩
  · intro x0 ds us h K q
    rw [R25] at h
    obtain ⟨s0, h⟩ := h
    obtain ⟨s1, h⟩ := h
    obtain ⟨s2, h⟩ := h
    obtain ⟨s3, h⟩ := h
    by_cases b0 : (g36_0 (u35_0 (u35_0 (u35_0 x0 [ByteArray.mk #[99, 104, 101, 99, 107], ByteArray.mk #[110, 111, 116, 101], ByteArray.mk #[102, 97, 99, 101]]) [ByteArray.mk #[97], ByteArray.mk #[98], ByteArray.mk #[99], ByteArray.mk #[100]]) [ByteArray.mk #[], ByteArray.mk #[120], ByteArray.mk #[97, 32, 98, 32, 99], ByteArray.mk #[49, 50, 32, 51, 52], ByteArray.mk #[111, 97, 107, 47, 52, 48]]) 4) = true
    · rw [if_pos b0] at h
      obtain ⟨s4, h⟩ := h
      obtain ⟨s5, h⟩ := h
      exact AtV.runN tabOk ext25Ok mixed (p25_0 x0) ⟨s0, s1, s2, s3, b0, s4, s5, trivial⟩ (ih6 _ _ _ _ h K q)
    · rw [if_neg b0] at h
      replace b0 := Bool.eq_false_iff.2 b0
      exact AtV.runN tabOk ext25Ok mixed (p25_1 x0) ⟨s0, s1, s2, s3, b0, trivial⟩ (ih6 _ _ _ _ h K q)

  · intro h0 h2 ds us h K q
    rw [R25_6] at h
    by_cases b0 : (ByteArray.toList (Prod.fst h2) == ByteArray.toList (ByteArray.mk #[99, 104, 101, 99, 107])) = true
    · rw [if_pos b0] at h
      obtain ⟨s0, h⟩ := h
      by_cases b1 : (g36_0 h0 2) = true
      · rw [if_pos b1] at h
        obtain ⟨s1, h⟩ := h
        obtain ⟨s2, h⟩ := h
        exact AtV.runN tabOk ext25Ok mixed (p25_2 h0 h2) ⟨b0, s0, b1, s1, s2, trivial⟩ (ih9 _ _ _ _ h K q)
      · rw [if_neg b1] at h
        replace b1 := Bool.eq_false_iff.2 b1
        exact AtV.runN tabOk ext25Ok mixed (p25_3 h0 h2) ⟨b0, s0, b1, trivial⟩ (ih9 _ _ _ _ h K q)
    · rw [if_neg b0] at h
      replace b0 := Bool.eq_false_iff.2 b0
      exact AtV.runN tabOk ext25Ok mixed (p25_4 h0 h2) ⟨b0, rfl, trivial⟩ (ih9 _ _ _ _ h K q)

  · intro h0 h2 ds us h K q
    rw [R25_9] at h
    obtain ⟨s0, h⟩ := h
    by_cases b0 : (g36_0 h0 24) = true
    · rw [if_pos b0] at h
      obtain ⟨s1, h⟩ := h
      obtain ⟨s2, h⟩ := h
      obtain ⟨s3, s4, s5, h⟩ := h
      exact AtV.runN tabOk ext25Ok mixed (p25_5 h0 h2) ⟨s0, b0, s1, s2, s3, s4, s5, trivial⟩ (ih11 _ _ _ _ h K q)
    · rw [if_neg b0] at h
      replace b0 := Bool.eq_false_iff.2 b0
      exact AtV.runN tabOk ext25Ok mixed (p25_6 h0 h2) ⟨s0, b0, trivial⟩ (ih11 _ _ _ _ h K q)

  · intro h0 h2 ds us h K q
    rw [R25_11] at h
    obtain ⟨h, h'⟩ := h; subst h; subst h'
    exact AtV.fin Try.func25 tabOk ext25Ok mixed (p25_7 h0 h2) trivial




def P25 (x0 : (List Int × Int × Int × Unit)) : Prop := SrcOk 900000000 x0
def Q25 (x0 : (List Int × Int × Int × Unit)) (y : (ByteArray × ByteArray × ByteArray × Unit)) (s : (List Int × Int × Int × Unit)) : Prop := SrcOk (x0.2.1 + 2000) s ∧ y.1 ∈ [ByteArray.mk #[99, 104, 101, 99, 107], ByteArray.mk #[110, 111, 116, 101], ByteArray.mk #[102, 97, 99, 101]] ∧ y.2.2.1.size ≤ 1100000 ∧ ∃ n, R25 n x0 [⟨(.cons .str (.cons .str (.cons .str .unit))), y⟩] [some ⟨(.cons (.sl (.int .u8)) (.cons (.int .i64) (.cons (.int .u64) .unit))), [s]⟩]

theorem end25 (n : Nat) {m : Int} {s : (List Int × Int × Int × Unit)} {b : (ByteArray × ByteArray × ByteArray × Unit)} (hs : SrcOk m s) (hm : m ≤ 2000000000) (h1 : b.1 ∈ [ByteArray.mk #[99, 104, 101, 99, 107], ByteArray.mk #[110, 111, 116, 101], ByteArray.mk #[102, 97, 99, 101]]) (h3 : b.2.2.1.size ≤ 1100000) :
    ∃ (y : (ByteArray × ByteArray × ByteArray × Unit)) (t : (List Int × Int × Int × Unit)), SrcOk (m + 10) t ∧ y.1 ∈ [ByteArray.mk #[99, 104, 101, 99, 107], ByteArray.mk #[110, 111, 116, 101], ByteArray.mk #[102, 97, 99, 101]] ∧ y.2.2.1.size ≤ 1100000 ∧ R25_9 (n + 2) s b [⟨(.cons .str (.cons .str (.cons .str .unit))), y⟩] [some ⟨(.cons (.sl (.int .u8)) (.cons (.int .i64) (.cons (.int .u64) .unit))), [t]⟩] := by
  obtain ⟨p1, s1⟩ := one_ok hs 24 (by omega)
  by_cases hc : g36_0 s 24 = true
  · obtain ⟨p2, s2, a, d, _⟩ := pick_ok s1 3 (by omega)
    have d := d (by decide)
    refine ⟨(b.1, b.2.1, bytesStr (List.replicate (Int.toNat (399 + g23_0 (u36_0 s 24) 3)) 0), ()), _, s2.up (by omega), h1, ?_, ?_⟩
    · show (bytesStr _).size ≤ 1100000
      rw [bytesStr_size, List.length_replicate]
      omega
    · rw [R25_9]
      refine ⟨p1, ?_⟩
      rw [if_pos hc]
      refine ⟨p2, by rw [i64_iff]; omega, by omega, by omega, by omega, ?_⟩
      rw [R25_11]
      exact ⟨rfl, rfl⟩
  · refine ⟨b, _, s1.up (by omega), h1, h3, ?_⟩
    rw [R25_9]
    refine ⟨p1, ?_⟩
    rw [if_neg hc, R25_11]
    exact ⟨rfl, rfl⟩

theorem mid25 (n : Nat) {m : Int} {s : (List Int × Int × Int × Unit)} {b : (ByteArray × ByteArray × ByteArray × Unit)} (hs : SrcOk m s) (hm : m ≤ 1500000000) (h1 : b.1 ∈ [ByteArray.mk #[99, 104, 101, 99, 107], ByteArray.mk #[110, 111, 116, 101], ByteArray.mk #[102, 97, 99, 101]]) (h2 : b.2.1.size ≤ 1000) (h3 : b.2.2.1.size ≤ 1100000) :
    ∃ (y : (ByteArray × ByteArray × ByteArray × Unit)) (t : (List Int × Int × Int × Unit)), SrcOk (m + 30) t ∧ y.1 ∈ [ByteArray.mk #[99, 104, 101, 99, 107], ByteArray.mk #[110, 111, 116, 101], ByteArray.mk #[102, 97, 99, 101]] ∧ y.2.2.1.size ≤ 1100000 ∧ R25_6 (n + 3) s b [⟨(.cons .str (.cons .str (.cons .str .unit))), y⟩] [some ⟨(.cons (.sl (.int .u8)) (.cons (.int .i64) (.cons (.int .u64) .unit))), [t]⟩] := by
  by_cases hk : (ByteArray.toList (Prod.fst b) == ByteArray.toList (ByteArray.mk #[99, 104, 101, 99, 107])) = true
  · obtain ⟨p1, s1⟩ := one_ok hs 2 (by omega)
    by_cases hc : g36_0 s 2 = true
    · obtain ⟨p2, s2, e, m1, ⟨m2, m3⟩, ⟨m4, m5⟩, m6, m7⟩ := draw_check s1 (by omega) b.2.1
      obtain ⟨q1, q2⟩ := text_check (x := g38_0 (u36_0 s 2) b.2.1) (by rw [e]; omega) (fun y hy => by
        simp only [List.mem_cons, List.mem_nil_iff, or_false] at hy m1
        rw [i64_iff]
        rcases hy with rfl | rfl | rfl | rfl <;> omega)
      obtain ⟨y, t, t1, t2, t3, t4⟩ := end25 n (b := (b.1, b.2.1, g39_0 (g38_0 (u36_0 s 2) b.2.1), ())) s2 (by omega) h1 (by show (g39_0 _).size ≤ _; omega)
      refine ⟨y, t, t1.up (by omega), t2, t3, ?_⟩
      rw [R25_6, if_pos hk, if_pos hc]
      exact ⟨p1, p2, q1, t4⟩
    · obtain ⟨y, t, t1, t2, t3, t4⟩ := end25 n s1 (by omega) h1 h3
      refine ⟨y, t, t1.up (by omega), t2, t3, ?_⟩
      rw [R25_6, if_pos hk, if_neg hc]
      exact ⟨p1, t4⟩
  · obtain ⟨y, t, t1, t2, t3, t4⟩ := end25 n hs (by omega) h1 h3
    refine ⟨y, t, t1.up (by omega), t2, t3, ?_⟩
    rw [R25_6, if_neg hk]
    exact t4

theorem ex25 (x0 : (List Int × Int × Int × Unit)) (h : P25 x0) : ∃ y s, Q25 x0 y s := by
  have h0 : x0.2.1 ≤ 900000000 := h.2.2
  obtain ⟨p1, s1, m1⟩ := text_ok (SrcOk.self h) [ByteArray.mk #[99, 104, 101, 99, 107], ByteArray.mk #[110, 111, 116, 101], ByteArray.mk #[102, 97, 99, 101]] (by decide) (by omega)
  obtain ⟨p2, s2, m2⟩ := text_ok s1 [ByteArray.mk #[97], ByteArray.mk #[98], ByteArray.mk #[99], ByteArray.mk #[100]] (by decide) (by omega)
  obtain ⟨p3, s3, m3⟩ := text_ok s2 [ByteArray.mk #[], ByteArray.mk #[120], ByteArray.mk #[97, 32, 98, 32, 99], ByteArray.mk #[49, 50, 32, 51, 52], ByteArray.mk #[111, 97, 107, 47, 52, 48]] (by decide) (by omega)
  obtain ⟨p4, s4⟩ := one_ok s3 4 (by omega)
  have z2 : (g35_0 (u35_0 x0 [ByteArray.mk #[99, 104, 101, 99, 107], ByteArray.mk #[110, 111, 116, 101], ByteArray.mk #[102, 97, 99, 101]]) [ByteArray.mk #[97], ByteArray.mk #[98], ByteArray.mk #[99], ByteArray.mk #[100]]).size ≤ 1000 := by
    have : ∀ z ∈ [ByteArray.mk #[97], ByteArray.mk #[98], ByteArray.mk #[99], ByteArray.mk #[100]], z.size ≤ 1000 := by decide
    exact this _ m2
  have z3 : (g35_0 (u35_0 (u35_0 x0 [ByteArray.mk #[99, 104, 101, 99, 107], ByteArray.mk #[110, 111, 116, 101], ByteArray.mk #[102, 97, 99, 101]]) [ByteArray.mk #[97], ByteArray.mk #[98], ByteArray.mk #[99], ByteArray.mk #[100]]) [ByteArray.mk #[], ByteArray.mk #[120], ByteArray.mk #[97, 32, 98, 32, 99], ByteArray.mk #[49, 50, 32, 51, 52], ByteArray.mk #[111, 97, 107, 47, 52, 48]]).size ≤ 1000 := by
    have : ∀ z ∈ [ByteArray.mk #[], ByteArray.mk #[120], ByteArray.mk #[97, 32, 98, 32, 99], ByteArray.mk #[49, 50, 32, 51, 52], ByteArray.mk #[111, 97, 107, 47, 52, 48]], z.size ≤ 1000 := by decide
    exact this _ m3
  by_cases hc : g36_0 (u35_0 (u35_0 (u35_0 x0 [ByteArray.mk #[99, 104, 101, 99, 107], ByteArray.mk #[110, 111, 116, 101], ByteArray.mk #[102, 97, 99, 101]]) [ByteArray.mk #[97], ByteArray.mk #[98], ByteArray.mk #[99], ByteArray.mk #[100]]) [ByteArray.mk #[], ByteArray.mk #[120], ByteArray.mk #[97, 32, 98, 32, 99], ByteArray.mk #[49, 50, 32, 51, 52], ByteArray.mk #[111, 97, 107, 47, 52, 48]]) 4 = true
  · obtain ⟨p5, s5, z5⟩ := word_ok s4 9 (by omega) (by omega)
    obtain ⟨y, t, t1, t2, t3, t4⟩ := mid25 0 (b := (g35_0 x0 [ByteArray.mk #[99, 104, 101, 99, 107], ByteArray.mk #[110, 111, 116, 101], ByteArray.mk #[102, 97, 99, 101]], g35_0 (u35_0 x0 [ByteArray.mk #[99, 104, 101, 99, 107], ByteArray.mk #[110, 111, 116, 101], ByteArray.mk #[102, 97, 99, 101]]) [ByteArray.mk #[97], ByteArray.mk #[98], ByteArray.mk #[99], ByteArray.mk #[100]], g35_0 (u35_0 (u35_0 x0 [ByteArray.mk #[99, 104, 101, 99, 107], ByteArray.mk #[110, 111, 116, 101], ByteArray.mk #[102, 97, 99, 101]]) [ByteArray.mk #[97], ByteArray.mk #[98], ByteArray.mk #[99], ByteArray.mk #[100]]) [ByteArray.mk #[], ByteArray.mk #[120], ByteArray.mk #[97, 32, 98, 32, 99], ByteArray.mk #[49, 50, 32, 51, 52], ByteArray.mk #[111, 97, 107, 47, 52, 48]] ++ g37_0 (u36_0 (u35_0 (u35_0 (u35_0 x0 [ByteArray.mk #[99, 104, 101, 99, 107], ByteArray.mk #[110, 111, 116, 101], ByteArray.mk #[102, 97, 99, 101]]) [ByteArray.mk #[97], ByteArray.mk #[98], ByteArray.mk #[99], ByteArray.mk #[100]]) [ByteArray.mk #[], ByteArray.mk #[120], ByteArray.mk #[97, 32, 98, 32, 99], ByteArray.mk #[49, 50, 32, 51, 52], ByteArray.mk #[111, 97, 107, 47, 52, 48]]) 4) 9, ())) s5 (by omega) m1 z2 (by refine Nat.le_trans (Nat.le_of_eq ByteArray.size_append) ?_; omega)
    refine ⟨y, t, t1.up (by omega), t2, t3, 4, ?_⟩
    rw [R25]
    refine ⟨p1, p2, p3, p4, ?_⟩
    rw [if_pos hc]
    exact ⟨p5, by omega, t4⟩
  · obtain ⟨y, t, t1, t2, t3, t4⟩ := mid25 0 (b := (g35_0 x0 [ByteArray.mk #[99, 104, 101, 99, 107], ByteArray.mk #[110, 111, 116, 101], ByteArray.mk #[102, 97, 99, 101]], g35_0 (u35_0 x0 [ByteArray.mk #[99, 104, 101, 99, 107], ByteArray.mk #[110, 111, 116, 101], ByteArray.mk #[102, 97, 99, 101]]) [ByteArray.mk #[97], ByteArray.mk #[98], ByteArray.mk #[99], ByteArray.mk #[100]], g35_0 (u35_0 (u35_0 x0 [ByteArray.mk #[99, 104, 101, 99, 107], ByteArray.mk #[110, 111, 116, 101], ByteArray.mk #[102, 97, 99, 101]]) [ByteArray.mk #[97], ByteArray.mk #[98], ByteArray.mk #[99], ByteArray.mk #[100]]) [ByteArray.mk #[], ByteArray.mk #[120], ByteArray.mk #[97, 32, 98, 32, 99], ByteArray.mk #[49, 50, 32, 51, 52], ByteArray.mk #[111, 97, 107, 47, 52, 48]], ())) s4 (by omega) m1 z2 (by show (g35_0 _ _).size ≤ _; omega)
    refine ⟨y, t, t1.up (by omega), t2, t3, 4, ?_⟩
    rw [R25]
    refine ⟨p1, p2, p3, p4, ?_⟩
    rw [if_neg hc]
    exact t4

def g25_0 (x0 : (List Int × Int × Int × Unit)) : (ByteArray × ByteArray × ByteArray × Unit) := (sel2 (ByteArray.empty, ByteArray.empty, ByteArray.empty, ()) x0 (Q25 x0)).1
def u25_0 (x0 : (List Int × Int × Int × Unit)) : (List Int × Int × Int × Unit) := (sel2 (ByteArray.empty, ByteArray.empty, ByteArray.empty, ()) x0 (Q25 x0)).2
theorem q25 (x0 : (List Int × Int × Int × Unit)) (h : P25 x0) : Q25 x0 (g25_0 x0) (u25_0 x0) := by
  obtain ⟨y, s, hq⟩ := ex25 x0 h
  exact sel2_spec hq

def S25 : Am.Spec := { sig := sig25, pre := fun ⟨x0, _⟩ => P25 x0, upd := fun ⟨x0, _⟩ => [some ⟨(.cons (.sl (.int .u8)) (.cons (.int .i64) (.cons (.int .u64) .unit))), [u25_0 x0]⟩], res := fun ⟨x0, _⟩ => [⟨(.cons .str (.cons .str (.cons .str .unit))), g25_0 x0⟩], kds := kds25 }
theorem con25 : Contract Try.prog 25 S25 := contract_of Try.func25 hb25 (Nat.le_of_ble_eq_true (by kernel_rfl)) (fun ⟨x0, _⟩ h hwf K q =>
  let ⟨n, hn⟩ := (q25 x0 h).2.2.2
  (snd25 n).1 x0 _ _ hn K q)

end
end Go.Proofs.Ytohojjcoikkmcaa

/- Function 51 (spec.l01Small): its runs between cut points. Written by a program of this repo (gen). -/
set_option linter.unusedVariables false
set_option linter.unusedSimpArgs false
set_option maxRecDepth 100000
namespace Go.Proofs.Ytohojjcoikkmcaa
open Go Go.Am Go.Proofs
def ext51 : Ext := []
theorem ext51Ok : ExtOk Try.prog ext51 := trivial

noncomputable def b51 : Code := bodyOf Try.f51
theorem hb51 : Try.f51.body = some b51 := by kernel_rfl
def sig51 : List AT := [AT.v (Ty.int IntKind.u8)]
def tys51 : List Ty := [Ty.bool]
def kds51 : List RK := []
def oks51 : List AT := owns sig51
def P51 (x0 : Int) : Prop := True
def g51_0 (x0 : Int) : Bool := (if (Decidable.decide (x0 ≥ 97)) = true then Decidable.decide (x0 ≤ 122) else Bool.false)
theorem p51_0 (x0 : Int) : runF tab ext51 false 9 [] 2000 [] oks51 kds51 tys51 Try.f51.results [true] [.code b51] (entE 0 0 sig51 (x0, ())) (entL sig51 (x0, ())) = some ([Dyn.mk Ty.bool (Decidable.decide (x0 ≤ 122))], [], [Decidable.decide (x0 ≥ 97) = Bool.true]) := by kernel_rfl
theorem p51_1 (x0 : Int) : runF tab ext51 false 9 [] 2000 [] oks51 kds51 tys51 Try.f51.results [false] [.code b51] (entE 0 0 sig51 (x0, ())) (entL sig51 (x0, ())) = some ([Dyn.mk Ty.bool Bool.false], [], [Decidable.decide (x0 ≥ 97) = Bool.false]) := by kernel_rfl
theorem at51 (x0 : Int) (h : P51 x0) (K : Ctx) (q : Nat → Value) : AtV Try.prog 51 (PostR kds51 oks51 [⟨Ty.bool, g51_0 x0⟩] [] [] q K) 9 K q [] [.code b51] (entE 0 0 sig51 (x0, ())) (entL sig51 (x0, ())) := by
  unfold P51 at h
  unfold g51_0
  by_cases b0 : (Decidable.decide (x0 ≥ 97)) = true
  · try simp only [if_pos b0] at h ⊢
    exact AtV.fin Try.func51 tabOk ext51Ok mixed (p51_0 x0) ⟨b0, trivial⟩
  · try simp only [if_neg b0] at h ⊢
    replace b0 := Bool.eq_false_iff.2 b0
    exact AtV.fin Try.func51 tabOk ext51Ok mixed (p51_1 x0) ⟨b0, trivial⟩

def S51 : Am.Spec := { sig := sig51, pre := fun ⟨x0, _⟩ => P51 x0, res := fun ⟨x0, _⟩ => [⟨Ty.bool, g51_0 x0⟩], kds := kds51 }
theorem con51 : Contract Try.prog 51 S51 := contract_of Try.func51 hb51 (Nat.le_of_ble_eq_true (by kernel_rfl)) (fun ⟨x0, _⟩ h _ K q => at51 x0 h K q)


end Go.Proofs.Ytohojjcoikkmcaa

/- Function 52 (spec.l01Digit): its runs between cut points. Written by a program of this repo (gen). -/
set_option linter.unusedVariables false
set_option linter.unusedSimpArgs false
set_option maxRecDepth 100000
namespace Go.Proofs.Ytohojjcoikkmcaa
open Go Go.Am Go.Proofs
def ext52 : Ext := []
theorem ext52Ok : ExtOk Try.prog ext52 := trivial

noncomputable def b52 : Code := bodyOf Try.f52
theorem hb52 : Try.f52.body = some b52 := by kernel_rfl
def sig52 : List AT := [AT.v (Ty.int IntKind.u8)]
def tys52 : List Ty := [Ty.bool]
def kds52 : List RK := []
def oks52 : List AT := owns sig52
def P52 (x0 : Int) : Prop := True
def g52_0 (x0 : Int) : Bool := (if (Decidable.decide (x0 ≥ 48)) = true then Decidable.decide (x0 ≤ 57) else Bool.false)
theorem p52_0 (x0 : Int) : runF tab ext52 false 9 [] 2000 [] oks52 kds52 tys52 Try.f52.results [true] [.code b52] (entE 0 0 sig52 (x0, ())) (entL sig52 (x0, ())) = some ([Dyn.mk Ty.bool (Decidable.decide (x0 ≤ 57))], [], [Decidable.decide (x0 ≥ 48) = Bool.true]) := by kernel_rfl
theorem p52_1 (x0 : Int) : runF tab ext52 false 9 [] 2000 [] oks52 kds52 tys52 Try.f52.results [false] [.code b52] (entE 0 0 sig52 (x0, ())) (entL sig52 (x0, ())) = some ([Dyn.mk Ty.bool Bool.false], [], [Decidable.decide (x0 ≥ 48) = Bool.false]) := by kernel_rfl
theorem at52 (x0 : Int) (h : P52 x0) (K : Ctx) (q : Nat → Value) : AtV Try.prog 52 (PostR kds52 oks52 [⟨Ty.bool, g52_0 x0⟩] [] [] q K) 9 K q [] [.code b52] (entE 0 0 sig52 (x0, ())) (entL sig52 (x0, ())) := by
  unfold P52 at h
  unfold g52_0
  by_cases b0 : (Decidable.decide (x0 ≥ 48)) = true
  · try simp only [if_pos b0] at h ⊢
    exact AtV.fin Try.func52 tabOk ext52Ok mixed (p52_0 x0) ⟨b0, trivial⟩
  · try simp only [if_neg b0] at h ⊢
    replace b0 := Bool.eq_false_iff.2 b0
    exact AtV.fin Try.func52 tabOk ext52Ok mixed (p52_1 x0) ⟨b0, trivial⟩

def S52 : Am.Spec := { sig := sig52, pre := fun ⟨x0, _⟩ => P52 x0, res := fun ⟨x0, _⟩ => [⟨Ty.bool, g52_0 x0⟩], kds := kds52 }
theorem con52 : Contract Try.prog 52 S52 := contract_of Try.func52 hb52 (Nat.le_of_ble_eq_true (by kernel_rfl)) (fun ⟨x0, _⟩ h _ K q => at52 x0 h K q)


end Go.Proofs.Ytohojjcoikkmcaa

/- Function 45 (spec.l01Name): its runs between cut points. Written by a program of this repo (gen). -/
set_option linter.unusedVariables false
set_option linter.unusedSimpArgs false
set_option maxRecDepth 100000
namespace Go.Proofs.Ytohojjcoikkmcaa
open Go Go.Am Go.Proofs
def ext45 : Ext := [(51, S51), (52, S52)]
theorem call45_51 : Callable Try.prog 51 := ⟨Try.f51, Try.func51, by kernel_rfl, by kernel_rfl⟩
theorem call45_52 : Callable Try.prog 52 := ⟨Try.f52, Try.func52, by kernel_rfl, by kernel_rfl⟩
theorem ext45Ok : ExtOk Try.prog ext45 := ⟨⟨call45_51, con51⟩, ⟨call45_52, con52⟩, trivial⟩

noncomputable def b45 : Code := bodyOf Try.f45
theorem hb45 : Try.f45.body = some b45 := by kernel_rfl
def sig45 : List AT := [AT.v (Ty.str)]
def tys45 : List Ty := [Ty.bool]
def kds45 : List RK := []
def oks45 : List AT := owns sig45
def E45_4 (v3 : Int) (x0 : ByteArray) : Env := [(0, PV.a (Atom.val (Value.string x0))), (3, PV.a (Atom.val (Value.int IntKind.i64 v3)))]
def L45_4 (v3 : Int) (x0 : ByteArray) : Heap := []
mutual
def R45 : Nat → ByteArray → List Dyn → Prop
  | 0, _, _ => False
  | n + 1, x0, ds => (if (ByteArray.toList x0 == ByteArray.toList (ByteArray.mk #[])) = true then (ds = [Dyn.mk Ty.bool Bool.false]) else (if (Decidable.decide ((↑(ByteArray.size x0) : Int) > 10)) = true then (ds = [Dyn.mk Ty.bool Bool.false]) else ((0 < (↑(ByteArray.size x0) : Int)) ∧ (if (!g51_0 (↑(UInt8.toNat (List.getD (Array.toList (ByteArray.data x0)) 0 0)) : Int)) = true then (ds = [Dyn.mk Ty.bool Bool.false]) else (R45_4 n (0) (x0) ds)))))
def R45_4 : Nat → Int → ByteArray → List Dyn → Prop
  | 0, _, _, _ => False
  | n + 1, v3, x0, ds => (if (Decidable.decide (v3 < (↑(ByteArray.size x0) : Int))) = true then ((0 ≤ v3) ∧ (v3 < (↑(ByteArray.size x0) : Int)) ∧ (if (!g51_0 (↑(UInt8.toNat (List.getD (Array.toList (ByteArray.data x0)) (Int.toNat v3) 0)) : Int)) = true then ((0 ≤ v3) ∧ (v3 < (↑(ByteArray.size x0) : Int)) ∧ (if (!g52_0 (↑(UInt8.toNat (List.getD (Array.toList (ByteArray.data x0)) (Int.toNat v3) 0)) : Int)) = true then (ds = [Dyn.mk Ty.bool Bool.false]) else ((InR IntKind.i64 (v3 + 1)) ∧ (R45_4 n (v3 + 1) (x0) ds)))) else ((InR IntKind.i64 (v3 + 1)) ∧ (R45_4 n (v3 + 1) (x0) ds)))) else (ds = [Dyn.mk Ty.bool Bool.true]))
end
theorem p45_0 (x0 : ByteArray) : runF tab ext45 false 35 [] 2000 [] oks45 kds45 tys45 Try.f45.results [true, true, true] [.code b45] (entE 0 0 sig45 (x0, ())) (entL sig45 (x0, ())) = some ([Dyn.mk Ty.bool Bool.false], [], [(ByteArray.toList x0 == ByteArray.toList (ByteArray.mk #[])) = Bool.true, Bool.true = Bool.true, Bool.true = Bool.true]) := by kernel_rfl
theorem p45_1 (x0 : ByteArray) : runF tab ext45 false 35 [] 2000 [] oks45 kds45 tys45 Try.f45.results [false, true, true] [.code b45] (entE 0 0 sig45 (x0, ())) (entL sig45 (x0, ())) = some ([Dyn.mk Ty.bool Bool.false], [], [(ByteArray.toList x0 == ByteArray.toList (ByteArray.mk #[])) = Bool.false, Decidable.decide ((↑(ByteArray.size x0) : Int) > 10) = Bool.true, Bool.true = Bool.true]) := by kernel_rfl
theorem p45_2 (x0 : ByteArray) : runF tab ext45 false 35 [] 2000 [] oks45 kds45 tys45 Try.f45.results [false, false, true] [.code b45] (entE 0 0 sig45 (x0, ())) (entL sig45 (x0, ())) = some ([Dyn.mk Ty.bool Bool.false], [], [(ByteArray.toList x0 == ByteArray.toList (ByteArray.mk #[])) = Bool.false, Decidable.decide ((↑(ByteArray.size x0) : Int) > 10) = Bool.false, (0 : Int) ≤ (0 : Int), 0 < (↑(ByteArray.size x0) : Int), True, (!g51_0 (↑(UInt8.toNat (List.getD (Array.toList (ByteArray.data x0)) 0 0)) : Int)) = Bool.true]) := by kernel_rfl
theorem p45_3 (x0 : ByteArray) : Am.runN tab ext45 false 35 [] 2000 [] [] [0, 3] [] [false, false, false] [.code b45] (entE 0 0 sig45 (x0, ())) (entL sig45 (x0, ())) = some (cutAt b45 4, E45_4 (0) (x0), L45_4 (0) (x0), [(ByteArray.toList x0 == ByteArray.toList (ByteArray.mk #[])) = Bool.false, Decidable.decide ((↑(ByteArray.size x0) : Int) > 10) = Bool.false, (0 : Int) ≤ (0 : Int), 0 < (↑(ByteArray.size x0) : Int), True, (!g51_0 (↑(UInt8.toNat (List.getD (Array.toList (ByteArray.data x0)) 0 0)) : Int)) = Bool.false]) := by kernel_rfl
theorem p45_4 (v3 : Int) (x0 : ByteArray) : runF tab ext45 false 35 [] 2000 [] oks45 kds45 tys45 Try.f45.results [true, true, true] (cutAt b45 4) (E45_4 v3 x0) (L45_4 v3 x0) = some ([Dyn.mk Ty.bool Bool.false], [], [Decidable.decide (v3 < (↑(ByteArray.size x0) : Int)) = Bool.true, 0 ≤ v3, v3 < (↑(ByteArray.size x0) : Int), True, (!g51_0 (↑(UInt8.toNat (List.getD (Array.toList (ByteArray.data x0)) (Int.toNat v3) 0)) : Int)) = Bool.true, 0 ≤ v3, v3 < (↑(ByteArray.size x0) : Int), True, (!g52_0 (↑(UInt8.toNat (List.getD (Array.toList (ByteArray.data x0)) (Int.toNat v3) 0)) : Int)) = Bool.true]) := by kernel_rfl
theorem p45_5 (v3 : Int) (x0 : ByteArray) : Am.runN tab ext45 false 35 [] 2000 [] [] [0, 3] [] [true, true, false] (cutAt b45 4) (E45_4 v3 x0) (L45_4 v3 x0) = some (cutAt b45 4, E45_4 (v3 + 1) (x0), L45_4 (v3 + 1) (x0), [Decidable.decide (v3 < (↑(ByteArray.size x0) : Int)) = Bool.true, 0 ≤ v3, v3 < (↑(ByteArray.size x0) : Int), True, (!g51_0 (↑(UInt8.toNat (List.getD (Array.toList (ByteArray.data x0)) (Int.toNat v3) 0)) : Int)) = Bool.true, 0 ≤ v3, v3 < (↑(ByteArray.size x0) : Int), True, (!g52_0 (↑(UInt8.toNat (List.getD (Array.toList (ByteArray.data x0)) (Int.toNat v3) 0)) : Int)) = Bool.false, InR IntKind.i64 (v3 + 1)]) := by kernel_rfl
theorem p45_6 (v3 : Int) (x0 : ByteArray) : Am.runN tab ext45 false 35 [] 2000 [] [] [0, 3] [] [true, false, false] (cutAt b45 4) (E45_4 v3 x0) (L45_4 v3 x0) = some (cutAt b45 4, E45_4 (v3 + 1) (x0), L45_4 (v3 + 1) (x0), [Decidable.decide (v3 < (↑(ByteArray.size x0) : Int)) = Bool.true, 0 ≤ v3, v3 < (↑(ByteArray.size x0) : Int), True, (!g51_0 (↑(UInt8.toNat (List.getD (Array.toList (ByteArray.data x0)) (Int.toNat v3) 0)) : Int)) = Bool.false, Bool.false = Bool.false, InR IntKind.i64 (v3 + 1)]) := by kernel_rfl
theorem p45_7 (v3 : Int) (x0 : ByteArray) : runF tab ext45 false 35 [] 2000 [] oks45 kds45 tys45 Try.f45.results [false] (cutAt b45 4) (E45_4 v3 x0) (L45_4 v3 x0) = some ([Dyn.mk Ty.bool Bool.true], [], [Decidable.decide (v3 < (↑(ByteArray.size x0) : Int)) = Bool.false]) := by kernel_rfl
theorem snd45 : ∀ n, (∀ (x0 : ByteArray) ds, R45 n x0 ds → ∀ K q, AtV Try.prog 45 (PostR kds45 oks45 ds [] [] q K) 35 K q [] [.code b45] (entE 0 0 sig45 (x0, ())) (entL sig45 (x0, ()))) ∧ (∀ (v3 : Int) (x0 : ByteArray) ds, R45_4 n v3 x0 ds → ∀ K q, AtV Try.prog 45 (PostR kds45 oks45 ds [] [] q K) 35 K q [] (cutAt b45 4) (E45_4 v3 x0) (L45_4 v3 x0)) := by
  intro n
  induction n with
  | zero => exact ⟨fun _ _ h => by simp only [R45] at h, fun _ _ _ h => by simp only [R45_4] at h⟩
  | succ n ih =>
  obtain ⟨ih, ih4⟩ := ih
  refine ⟨?_, ?_⟩
  · intro x0 ds h K q
    rw [R45] at h
    by_cases b0 : (ByteArray.toList x0 == ByteArray.toList (ByteArray.mk #[])) = true
    · rw [if_pos b0] at h
      subst h
      exact AtV.fin Try.func45 tabOk ext45Ok mixed (p45_0 x0) ⟨b0, rfl, rfl, trivial⟩
    · rw [if_neg b0] at h
      replace b0 := Bool.eq_false_iff.2 b0
      by_cases b1 : (Decidable.decide ((↑(ByteArray.size x0) : Int) > 10)) = true
      · rw [if_pos b1] at h
        subst h
        exact AtV.fin Try.func45 tabOk ext45Ok mixed (p45_1 x0) ⟨b0, b1, rfl, trivial⟩
      · rw [if_neg b1] at h
        replace b1 := Bool.eq_false_iff.2 b1
        obtain ⟨s0, h⟩ := h
        by_cases b2 : (!g51_0 (↑(UInt8.toNat (List.getD (Array.toList (ByteArray.data x0)) 0 0)) : Int)) = true
        · rw [if_pos b2] at h
          subst h
          exact AtV.fin Try.func45 tabOk ext45Ok mixed (p45_2 x0) ⟨b0, b1, (by decide), s0, trivial, b2, trivial⟩
        · rw [if_neg b2] at h
          replace b2 := Bool.eq_false_iff.2 b2
          exact AtV.runN tabOk ext45Ok mixed (p45_3 x0) ⟨b0, b1, (by decide), s0, trivial, b2, trivial⟩ (ih4 _ _ _ h K q)

  · intro v3 x0 ds h K q
    rw [R45_4] at h
    by_cases b0 : (Decidable.decide (v3 < (↑(ByteArray.size x0) : Int))) = true
    · rw [if_pos b0] at h
      obtain ⟨s0, s1, h⟩ := h
      by_cases b1 : (!g51_0 (↑(UInt8.toNat (List.getD (Array.toList (ByteArray.data x0)) (Int.toNat v3) 0)) : Int)) = true
      · rw [if_pos b1] at h
        obtain ⟨s2, s3, h⟩ := h
        by_cases b2 : (!g52_0 (↑(UInt8.toNat (List.getD (Array.toList (ByteArray.data x0)) (Int.toNat v3) 0)) : Int)) = true
        · rw [if_pos b2] at h
          subst h
          exact AtV.fin Try.func45 tabOk ext45Ok mixed (p45_4 v3 x0) ⟨b0, s0, s1, trivial, b1, s2, s3, trivial, b2, trivial⟩
        · rw [if_neg b2] at h
          replace b2 := Bool.eq_false_iff.2 b2
          obtain ⟨s4, h⟩ := h
          exact AtV.runN tabOk ext45Ok mixed (p45_5 v3 x0) ⟨b0, s0, s1, trivial, b1, s2, s3, trivial, b2, s4, trivial⟩ (ih4 _ _ _ h K q)
      · rw [if_neg b1] at h
        replace b1 := Bool.eq_false_iff.2 b1
        obtain ⟨s2, h⟩ := h
        exact AtV.runN tabOk ext45Ok mixed (p45_6 v3 x0) ⟨b0, s0, s1, trivial, b1, rfl, s2, trivial⟩ (ih4 _ _ _ h K q)
    · rw [if_neg b0] at h
      replace b0 := Bool.eq_false_iff.2 b0
      subst h
      exact AtV.fin Try.func45 tabOk ext45Ok mixed (p45_7 v3 x0) ⟨b0, trivial⟩



def g45_0 (x0 : ByteArray) : Bool := decide (1 ≤ x0.size) && decide (x0.size ≤ 10) && g51_0 ((bytesOf x0).getD 0 0) && (bytesOf x0).all fun b => g51_0 b || g52_0 b
def P45 (x0 : ByteArray) : Prop := True

theorem top45 (x0 : ByteArray) (hw : Wf .str x0) : R45 (x0.size + 1 + 1) x0 [⟨.bool, g45_0 x0⟩] := by
  have hl := bytesOf_length x0
  rw [R45]
  by_cases h0 : x0 = ByteArray.mk #[]
  · rw [if_pos ((bytes_eq _ _).2 h0)]
    subst h0
    rfl
  · rw [if_neg (fun h => h0 ((bytes_eq _ _).1 h))]
    have hs : 1 ≤ x0.size := by
      rcases Nat.lt_or_ge 0 x0.size with h | h
      · exact h
      · exact absurd (bytesOf_inj (s := x0) (t := ByteArray.mk #[]) (List.eq_nil_of_length_eq_zero (by rw [hl]; omega))) h0
    by_cases h1 : (x0.size : Int) > 10
    · rw [if_pos (by simpa using h1)]
      have : ¬ x0.size ≤ 10 := by omega
      simp [g45_0, this]
    · rw [if_neg (by simpa using h1)]
      refine ⟨by omega, ?_⟩
      rw [byte_get]
      cases h2 : g51_0 ((bytesOf x0).getD 0 0) with
      | false =>
        rw [if_pos (by simp)]
        simp [g45_0, h2, -List.getD_eq_getElem?_getD]
      | true =>
        rw [if_neg (by simp)]
        have key := loop_test (bytesOf x0) 0 (fun b => g51_0 b || g52_0 b) [(⟨.bool, false⟩ : Dyn)] [⟨.bool, true⟩] (fun n i ds => R45_4 n i x0 ds) (fun n => ?_) (fun n i hi hok ds hr => ?_) (fun n i hi hok => ?_)
        · rw [hl] at key
          have e : g45_0 x0 = (bytesOf x0).all fun b => g51_0 b || g52_0 b := by
            have : x0.size ≤ 10 := by omega
            unfold g45_0
            simp only [hs, this, decide_true, Bool.true_and, h2]
          rw [e]
          cases h : (bytesOf x0).all fun b => g51_0 b || g52_0 b with
          | true => rw [if_pos h] at key; exact key
          | false => rw [if_neg (by rw [h]; simp)] at key; exact key
        · show R45_4 (n + 1) ((bytesOf x0).length : Int) x0 _
          rw [R45_4, hl, if_neg (by simp)]
        · rw [R45_4, if_pos (by simp; omega)]
          simp only [Int.toNat_natCast, byte_get]
          generalize (bytesOf x0).getD i 0 = c at *
          refine ⟨by omega, by omega, ?_⟩
          have hu := inR_up (xs := bytesOf x0) (by rw [hl]; exact hw) hi
          cases h3 : g51_0 c with
          | true => rw [if_neg (by simp)]; exact ⟨hu, hr⟩
          | false =>
            rw [if_pos (by simp)]
            rw [h3, Bool.false_or] at hok
            refine ⟨by omega, by omega, ?_⟩
            rw [if_neg (by rw [hok]; simp)]
            exact ⟨hu, hr⟩
        · simp only [Bool.or_eq_false_iff] at hok
          rw [R45_4, if_pos (by simp; omega)]
          simp only [Int.toNat_natCast, byte_get]
          refine ⟨by omega, by omega, ?_⟩
          rw [if_pos (by rw [hok.1]; rfl)]
          refine ⟨by omega, by omega, ?_⟩
          rw [if_pos (by rw [hok.2]; rfl)] <;> trivial

def S45 : Am.Spec := { sig := sig45, pre := fun ⟨x0, _⟩ => P45 x0, res := fun ⟨x0, _⟩ => [⟨Ty.bool, g45_0 x0⟩] }
theorem con45 : Contract Try.prog 45 S45 := contract_of Try.func45 hb45 (Nat.le_of_ble_eq_true (by kernel_rfl)) (fun ⟨x0, _⟩ h hwf K q =>
  (snd45 _).1 x0 _ (top45 x0 hwf.1) K q)

end Go.Proofs.Ytohojjcoikkmcaa

/- Function 31 (spec.l29One): its runs between cut points. Written by a program of this repo (gen). -/
set_option linter.unusedVariables false
set_option linter.unusedSimpArgs false
set_option maxRecDepth 100000
namespace Go.Proofs.Ytohojjcoikkmcaa
open Go Go.Am Go.Proofs
def ext31 : Ext := [(45, S45)]
theorem call31_45 : Callable Try.prog 45 := ⟨Try.f45, Try.func45, by kernel_rfl, by kernel_rfl⟩
theorem ext31Ok : ExtOk Try.prog ext31 := ⟨⟨call31_45, con45⟩, trivial⟩

noncomputable def b31 : Code := bodyOf Try.f31
theorem hb31 : Try.f31.body = some b31 := by kernel_rfl
def sig31 : List AT := [AT.p (Ty.cons Ty.str (Ty.cons Ty.str (Ty.cons Ty.str Ty.unit)))]
def tys31 : List Ty := [Ty.bool]
def kds31 : List RK := []
def oks31 : List AT := owns sig31
def E31_2 (v3 : Int) (x0 : ByteArray × ByteArray × ByteArray × Unit) : Env := [(0, PV.a (Atom.ptr (Ty.cons Ty.str (Ty.cons Ty.str (Ty.cons Ty.str Ty.unit))) x0)), (3, PV.a (Atom.val (Value.int IntKind.i64 v3)))]
def L31_2 (v3 : Int) (x0 : ByteArray × ByteArray × ByteArray × Unit) : Heap := []
mutual
def R31 : Nat → ByteArray × ByteArray × ByteArray × Unit → List Dyn → Prop
  | 0, _, _ => False
  | n + 1, x0, ds => (R31_2 n (0) (x0) ds)
def R31_2 : Nat → Int → ByteArray × ByteArray × ByteArray × Unit → List Dyn → Prop
  | 0, _, _, _ => False
  | n + 1, v3, x0, ds => (if (Decidable.decide (v3 < (↑(ByteArray.size (Prod.fst (Prod.snd (Prod.snd x0)))) : Int))) = true then ((0 ≤ v3) ∧ (v3 < (↑(ByteArray.size (Prod.fst (Prod.snd (Prod.snd x0)))) : Int)) ∧ (if ((↑(UInt8.toNat (List.getD (Array.toList (ByteArray.data (Prod.fst (Prod.snd (Prod.snd x0))))) (Int.toNat v3) 0)) : Int) == 10) = true then (ds = [Dyn.mk Ty.bool Bool.false]) else ((InR IntKind.i64 (v3 + 1)) ∧ (R31_2 n (v3 + 1) (x0) ds)))) else (if (g45_0 (Prod.fst x0)) = true then (if (g45_0 (Prod.fst (Prod.snd x0))) = true then (ds = [Dyn.mk Ty.bool (Decidable.decide ((↑(ByteArray.size (Prod.fst (Prod.snd (Prod.snd x0)))) : Int) ≤ 400))]) else (ds = [Dyn.mk Ty.bool Bool.false])) else (ds = [Dyn.mk Ty.bool Bool.false])))
end
theorem p31_0 (x0 : ByteArray × ByteArray × ByteArray × Unit) : Am.runN tab ext31 false 40 [] 2000 [] [] [0, 3] [] [] [.code b31] (entE 0 0 sig31 (x0, ())) (entL sig31 (x0, ())) = some (cutAt b31 2, E31_2 (0) (x0), L31_2 (0) (x0), []) := by kernel_rfl
theorem p31_1 (v3 : Int) (x0 : ByteArray × ByteArray × ByteArray × Unit) : runF tab ext31 false 40 [] 2000 [] oks31 kds31 tys31 Try.f31.results [true, true] (cutAt b31 2) (E31_2 v3 x0) (L31_2 v3 x0) = some ([Dyn.mk Ty.bool Bool.false], [], [Decidable.decide (v3 < (↑(ByteArray.size (Prod.fst (Prod.snd (Prod.snd x0)))) : Int)) = Bool.true, 0 ≤ v3, v3 < (↑(ByteArray.size (Prod.fst (Prod.snd (Prod.snd x0)))) : Int), ((↑(UInt8.toNat (List.getD (Array.toList (ByteArray.data (Prod.fst (Prod.snd (Prod.snd x0))))) (Int.toNat v3) 0)) : Int) == 10) = Bool.true]) := by kernel_rfl
theorem p31_2 (v3 : Int) (x0 : ByteArray × ByteArray × ByteArray × Unit) : Am.runN tab ext31 false 40 [] 2000 [] [] [0, 3] [] [true, false] (cutAt b31 2) (E31_2 v3 x0) (L31_2 v3 x0) = some (cutAt b31 2, E31_2 (v3 + 1) (x0), L31_2 (v3 + 1) (x0), [Decidable.decide (v3 < (↑(ByteArray.size (Prod.fst (Prod.snd (Prod.snd x0)))) : Int)) = Bool.true, 0 ≤ v3, v3 < (↑(ByteArray.size (Prod.fst (Prod.snd (Prod.snd x0)))) : Int), ((↑(UInt8.toNat (List.getD (Array.toList (ByteArray.data (Prod.fst (Prod.snd (Prod.snd x0))))) (Int.toNat v3) 0)) : Int) == 10) = Bool.false, InR IntKind.i64 (v3 + 1)]) := by kernel_rfl
theorem p31_3 (v3 : Int) (x0 : ByteArray × ByteArray × ByteArray × Unit) : runF tab ext31 false 40 [] 2000 [] oks31 kds31 tys31 Try.f31.results [false, true, true] (cutAt b31 2) (E31_2 v3 x0) (L31_2 v3 x0) = some ([Dyn.mk Ty.bool (Decidable.decide ((↑(ByteArray.size (Prod.fst (Prod.snd (Prod.snd x0)))) : Int) ≤ 400))], [], [Decidable.decide (v3 < (↑(ByteArray.size (Prod.fst (Prod.snd (Prod.snd x0)))) : Int)) = Bool.false, True, g45_0 (Prod.fst x0) = Bool.true, True, g45_0 (Prod.fst (Prod.snd x0)) = Bool.true]) := by kernel_rfl
theorem p31_4 (v3 : Int) (x0 : ByteArray × ByteArray × ByteArray × Unit) : runF tab ext31 false 40 [] 2000 [] oks31 kds31 tys31 Try.f31.results [false, true, false] (cutAt b31 2) (E31_2 v3 x0) (L31_2 v3 x0) = some ([Dyn.mk Ty.bool Bool.false], [], [Decidable.decide (v3 < (↑(ByteArray.size (Prod.fst (Prod.snd (Prod.snd x0)))) : Int)) = Bool.false, True, g45_0 (Prod.fst x0) = Bool.true, True, g45_0 (Prod.fst (Prod.snd x0)) = Bool.false]) := by kernel_rfl
theorem p31_5 (v3 : Int) (x0 : ByteArray × ByteArray × ByteArray × Unit) : runF tab ext31 false 40 [] 2000 [] oks31 kds31 tys31 Try.f31.results [false, false, false] (cutAt b31 2) (E31_2 v3 x0) (L31_2 v3 x0) = some ([Dyn.mk Ty.bool Bool.false], [], [Decidable.decide (v3 < (↑(ByteArray.size (Prod.fst (Prod.snd (Prod.snd x0)))) : Int)) = Bool.false, True, g45_0 (Prod.fst x0) = Bool.false, Bool.false = Bool.false]) := by kernel_rfl
theorem snd31 : ∀ n, (∀ (x0 : ByteArray × ByteArray × ByteArray × Unit) ds, R31 n x0 ds → ∀ K q, AtV Try.prog 31 (PostR kds31 oks31 ds [] [] q K) 40 K q [] [.code b31] (entE 0 0 sig31 (x0, ())) (entL sig31 (x0, ()))) ∧ (∀ (v3 : Int) (x0 : ByteArray × ByteArray × ByteArray × Unit) ds, R31_2 n v3 x0 ds → ∀ K q, AtV Try.prog 31 (PostR kds31 oks31 ds [] [] q K) 40 K q [] (cutAt b31 2) (E31_2 v3 x0) (L31_2 v3 x0)) := by
  intro n
  induction n with
  | zero => exact ⟨fun _ _ h => by simp only [R31] at h, fun _ _ _ h => by simp only [R31_2] at h⟩
  | succ n ih =>
  obtain ⟨ih, ih2⟩ := ih
  refine ⟨?_, ?_⟩
  · intro x0 ds h K q
    rw [R31] at h
    exact AtV.runN tabOk ext31Ok mixed (p31_0 x0) trivial (ih2 _ _ _ h K q)

  · intro v3 x0 ds h K q
    rw [R31_2] at h
    by_cases b0 : (Decidable.decide (v3 < (↑(ByteArray.size (Prod.fst (Prod.snd (Prod.snd x0)))) : Int))) = true
    · rw [if_pos b0] at h
      obtain ⟨s0, s1, h⟩ := h
      by_cases b1 : ((↑(UInt8.toNat (List.getD (Array.toList (ByteArray.data (Prod.fst (Prod.snd (Prod.snd x0))))) (Int.toNat v3) 0)) : Int) == 10) = true
      · rw [if_pos b1] at h
        subst h
        exact AtV.fin Try.func31 tabOk ext31Ok mixed (p31_1 v3 x0) ⟨b0, s0, s1, b1, trivial⟩
      · rw [if_neg b1] at h
        replace b1 := Bool.eq_false_iff.2 b1
        obtain ⟨s2, h⟩ := h
        exact AtV.runN tabOk ext31Ok mixed (p31_2 v3 x0) ⟨b0, s0, s1, b1, s2, trivial⟩ (ih2 _ _ _ h K q)
    · rw [if_neg b0] at h
      replace b0 := Bool.eq_false_iff.2 b0
      by_cases b1 : (g45_0 (Prod.fst x0)) = true
      · rw [if_pos b1] at h
        by_cases b2 : (g45_0 (Prod.fst (Prod.snd x0))) = true
        · rw [if_pos b2] at h
          subst h
          exact AtV.fin Try.func31 tabOk ext31Ok mixed (p31_3 v3 x0) ⟨b0, trivial, b1, trivial, b2, trivial⟩
        · rw [if_neg b2] at h
          replace b2 := Bool.eq_false_iff.2 b2
          subst h
          exact AtV.fin Try.func31 tabOk ext31Ok mixed (p31_4 v3 x0) ⟨b0, trivial, b1, trivial, b2, trivial⟩
      · rw [if_neg b1] at h
        replace b1 := Bool.eq_false_iff.2 b1
        subst h
        exact AtV.fin Try.func31 tabOk ext31Ok mixed (p31_5 v3 x0) ⟨b0, trivial, b1, rfl, trivial⟩



def g31_0 (x0 : ByteArray × ByteArray × ByteArray × Unit) : Bool := (bytesOf x0.2.2.1).all (fun b => !(b == 10)) && g45_0 x0.1 && g45_0 x0.2.1 && decide (x0.2.2.1.size ≤ 400)
def P31 (x0 : ByteArray × ByteArray × ByteArray × Unit) : Prop := True

theorem top31 (x0 : ByteArray × ByteArray × ByteArray × Unit) (hw : Wf (.cons .str (.cons .str (.cons .str .unit))) x0) : R31 (x0.2.2.1.size + 1 + 1) x0 [⟨.bool, g31_0 x0⟩] := by
  have hl := bytesOf_length x0.2.2.1
  have hw3 : Wf .str x0.2.2.1 := hw.2.2.1
  rw [R31]
  have key := loop_test (bytesOf x0.2.2.1) 0 (fun b => !(b == 10)) [(⟨.bool, false⟩ : Dyn)] [⟨.bool, g45_0 x0.1 && g45_0 x0.2.1 && decide (x0.2.2.1.size ≤ 400)⟩] (fun n i ds => R31_2 n i x0 ds) (fun n => ?_) (fun n i hi hok ds hr => ?_) (fun n i hi hok => ?_)
  · rw [hl] at key
    unfold g31_0
    cases h : (bytesOf x0.2.2.1).all fun b => !(b == 10) with
    | true => rw [if_pos h] at key; simpa using key
    | false => rw [if_neg (by rw [h]; simp)] at key; simpa using key
  · show R31_2 (n + 1) ((bytesOf x0.2.2.1).length : Int) x0 _
    rw [R31_2, hl, if_neg (by simp)]
    have hc : decide ((x0.2.2.1.size : Int) ≤ 400) = decide (x0.2.2.1.size ≤ 400) := by
      congr 1; exact propext ⟨fun h => by omega, fun h => by omega⟩
    rw [hc]
    cases g45_0 x0.1 <;> cases g45_0 x0.2.1 <;> simp
  · rw [R31_2, if_pos (by simp; omega)]
    simp only [Int.toNat_natCast, byte_get]
    refine ⟨by omega, by omega, ?_⟩
    rw [if_neg (by intro h; rw [h] at hok; cases hok)]
    exact ⟨inR_up (xs := bytesOf x0.2.2.1) (by rw [hl]; exact hw3) hi, hr⟩
  · rw [R31_2, if_pos (by simp; omega)]
    simp only [Int.toNat_natCast, byte_get]
    refine ⟨by omega, by omega, ?_⟩
    rw [if_pos (by rw [Bool.not_eq_false'] at hok; exact hok)] <;> trivial

def S31 : Am.Spec := { sig := sig31, pre := fun ⟨x0, _⟩ => P31 x0, res := fun ⟨x0, _⟩ => [⟨Ty.bool, g31_0 x0⟩] }
theorem con31 : Contract Try.prog 31 S31 := contract_of Try.func31 hb31 (Nat.le_of_ble_eq_true (by kernel_rfl)) (fun ⟨x0, _⟩ h hwf K q =>
  (snd31 _).1 x0 _ (top31 x0 hwf.1) K q)

end Go.Proofs.Ytohojjcoikkmcaa

/- Function 32 (spec.l29Before): its runs between cut points. Written by a program of this repo (gen). -/
set_option linter.unusedVariables false
set_option linter.unusedSimpArgs false
set_option maxRecDepth 100000
namespace Go.Proofs.Ytohojjcoikkmcaa
open Go Go.Am Go.Proofs
def ext32 : Ext := []
theorem ext32Ok : ExtOk Try.prog ext32 := trivial

noncomputable def b32 : Code := bodyOf Try.f32
theorem hb32 : Try.f32.body = some b32 := by kernel_rfl
def sig32 : List AT := [AT.p (Ty.cons Ty.str (Ty.cons Ty.str (Ty.cons Ty.str Ty.unit))), AT.p (Ty.cons Ty.str (Ty.cons Ty.str (Ty.cons Ty.str Ty.unit)))]
def tys32 : List Ty := [Ty.bool]
def kds32 : List RK := []
def oks32 : List AT := owns sig32
def P32 (x0 : ByteArray × ByteArray × ByteArray × Unit) (x1 : ByteArray × ByteArray × ByteArray × Unit) : Prop := True
def g32_0 (x0 : ByteArray × ByteArray × ByteArray × Unit) (x1 : ByteArray × ByteArray × ByteArray × Unit) : Bool := (if (Op.bytesLess (ByteArray.toList (Prod.fst x0)) (ByteArray.toList (Prod.fst x1))) = true then Bool.true else (if (ByteArray.toList (Prod.fst x0) == ByteArray.toList (Prod.fst x1)) = true then Op.bytesLess (ByteArray.toList (Prod.fst (Prod.snd x0))) (ByteArray.toList (Prod.fst (Prod.snd x1))) else Bool.false))
theorem p32_0 (x0 : ByteArray × ByteArray × ByteArray × Unit) (x1 : ByteArray × ByteArray × ByteArray × Unit) : runF tab ext32 false 36 [] 2000 [] oks32 kds32 tys32 Try.f32.results [true] [.code b32] (entE 0 0 sig32 (x0, x1, ())) (entL sig32 (x0, x1, ())) = some ([Dyn.mk Ty.bool Bool.true], [], [Op.bytesLess (ByteArray.toList (Prod.fst x0)) (ByteArray.toList (Prod.fst x1)) = Bool.true]) := by kernel_rfl
theorem p32_1 (x0 : ByteArray × ByteArray × ByteArray × Unit) (x1 : ByteArray × ByteArray × ByteArray × Unit) : runF tab ext32 false 36 [] 2000 [] oks32 kds32 tys32 Try.f32.results [false, true] [.code b32] (entE 0 0 sig32 (x0, x1, ())) (entL sig32 (x0, x1, ())) = some ([Dyn.mk Ty.bool (Op.bytesLess (ByteArray.toList (Prod.fst (Prod.snd x0))) (ByteArray.toList (Prod.fst (Prod.snd x1))))], [], [Op.bytesLess (ByteArray.toList (Prod.fst x0)) (ByteArray.toList (Prod.fst x1)) = Bool.false, (ByteArray.toList (Prod.fst x0) == ByteArray.toList (Prod.fst x1)) = Bool.true]) := by kernel_rfl
theorem p32_2 (x0 : ByteArray × ByteArray × ByteArray × Unit) (x1 : ByteArray × ByteArray × ByteArray × Unit) : runF tab ext32 false 36 [] 2000 [] oks32 kds32 tys32 Try.f32.results [false, false] [.code b32] (entE 0 0 sig32 (x0, x1, ())) (entL sig32 (x0, x1, ())) = some ([Dyn.mk Ty.bool Bool.false], [], [Op.bytesLess (ByteArray.toList (Prod.fst x0)) (ByteArray.toList (Prod.fst x1)) = Bool.false, (ByteArray.toList (Prod.fst x0) == ByteArray.toList (Prod.fst x1)) = Bool.false]) := by kernel_rfl
theorem at32 (x0 : ByteArray × ByteArray × ByteArray × Unit) (x1 : ByteArray × ByteArray × ByteArray × Unit) (h : P32 x0 x1) (K : Ctx) (q : Nat → Value) : AtV Try.prog 32 (PostR kds32 oks32 [⟨Ty.bool, g32_0 x0 x1⟩] [] [] q K) 36 K q [] [.code b32] (entE 0 0 sig32 (x0, x1, ())) (entL sig32 (x0, x1, ())) := by
  unfold P32 at h
  unfold g32_0
  by_cases b0 : (Op.bytesLess (ByteArray.toList (Prod.fst x0)) (ByteArray.toList (Prod.fst x1))) = true
  · try simp only [if_pos b0] at h ⊢
    exact AtV.fin Try.func32 tabOk ext32Ok mixed (p32_0 x0 x1) ⟨b0, trivial⟩
  · try simp only [if_neg b0] at h ⊢
    replace b0 := Bool.eq_false_iff.2 b0
    by_cases b1 : (ByteArray.toList (Prod.fst x0) == ByteArray.toList (Prod.fst x1)) = true
    · try simp only [if_pos b1] at h ⊢
      exact AtV.fin Try.func32 tabOk ext32Ok mixed (p32_1 x0 x1) ⟨b0, b1, trivial⟩
    · try simp only [if_neg b1] at h ⊢
      replace b1 := Bool.eq_false_iff.2 b1
      exact AtV.fin Try.func32 tabOk ext32Ok mixed (p32_2 x0 x1) ⟨b0, b1, trivial⟩

def S32 : Am.Spec := { sig := sig32, pre := fun ⟨x0, x1, _⟩ => P32 x0 x1, res := fun ⟨x0, x1, _⟩ => [⟨Ty.bool, g32_0 x0 x1⟩], kds := kds32 }
theorem con32 : Contract Try.prog 32 S32 := contract_of Try.func32 hb32 (Nat.le_of_ble_eq_true (by kernel_rfl)) (fun ⟨x0, x1, _⟩ h _ K q => at32 x0 x1 h K q)


end Go.Proofs.Ytohojjcoikkmcaa

/- Function 22 (spec.l29Ok): its runs between cut points. Written by a program of this repo (gen). -/
set_option linter.unusedVariables false
set_option linter.unusedSimpArgs false
set_option maxRecDepth 100000
namespace Go.Proofs.Ytohojjcoikkmcaa
open Go Go.Am Go.Proofs
def ext22 : Ext := [(31, S31), (32, S32)]
theorem call22_31 : Callable Try.prog 31 := ⟨Try.f31, Try.func31, by kernel_rfl, by kernel_rfl⟩
theorem call22_32 : Callable Try.prog 32 := ⟨Try.f32, Try.func32, by kernel_rfl, by kernel_rfl⟩
theorem ext22Ok : ExtOk Try.prog ext22 := ⟨⟨call22_31, con31⟩, ⟨call22_32, con32⟩, trivial⟩

noncomputable def b22 : Code := bodyOf Try.f22
theorem hb22 : Try.f22.body = some b22 := by kernel_rfl
def sig22 : List AT := [AT.v (Ty.sl (Ty.cons Ty.str (Ty.cons Ty.str (Ty.cons Ty.str Ty.unit))))]
def tys22 : List Ty := [Ty.bool]
def kds22 : List RK := []
def oks22 : List AT := owns sig22
def E22_2 (v3 : Int) (x0 : List (ByteArray × ByteArray × ByteArray × Unit)) : Env := [(0, PV.a (Atom.sl (Ty.cons Ty.str (Ty.cons Ty.str (Ty.cons Ty.str Ty.unit))) x0)), (3, PV.a (Atom.val (Value.int IntKind.i64 v3)))]
def L22_2 (v3 : Int) (x0 : List (ByteArray × ByteArray × ByteArray × Unit)) : Heap := []
mutual
def R22 : Nat → List (ByteArray × ByteArray × ByteArray × Unit) → List Dyn → Prop
  | 0, _, _ => False
  | n + 1, x0, ds => (R22_2 n (0) (x0) ds)
def R22_2 : Nat → Int → List (ByteArray × ByteArray × ByteArray × Unit) → List Dyn → Prop
  | 0, _, _, _ => False
  | n + 1, v3, x0, ds => (if (Decidable.decide (v3 < (↑(List.length x0) : Int))) = true then ((0 ≤ v3) ∧ (v3 < (↑(List.length x0) : Int)) ∧ (if (!g31_0 (List.getD x0 (Int.toNat v3) (ByteArray.empty, ByteArray.empty, ByteArray.empty, ()))) = true then (ds = [Dyn.mk Ty.bool Bool.false]) else (if (Decidable.decide (v3 > 0)) = true then ((InR IntKind.i64 (v3 - 1)) ∧ ((0 ≤ v3 - 1) ∧ (v3 - 1 < (↑(List.length x0) : Int)) ∧ ((0 ≤ v3) ∧ (v3 < (↑(List.length x0) : Int)) ∧ (if (!g32_0 (List.getD x0 (Int.toNat (v3 - 1)) (ByteArray.empty, ByteArray.empty, ByteArray.empty, ())) (List.getD x0 (Int.toNat v3) (ByteArray.empty, ByteArray.empty, ByteArray.empty, ()))) = true then (ds = [Dyn.mk Ty.bool Bool.false]) else ((InR IntKind.i64 (v3 + 1)) ∧ (R22_2 n (v3 + 1) (x0) ds)))))) else ((InR IntKind.i64 (v3 + 1)) ∧ (R22_2 n (v3 + 1) (x0) ds))))) else (ds = [Dyn.mk Ty.bool (Decidable.decide ((↑(List.length x0) : Int) ≤ 32))]))
end
theorem p22_0 (x0 : List (ByteArray × ByteArray × ByteArray × Unit)) : Am.runN tab ext22 false 33 [] 2000 [] [] [0, 3] [] [] [.code b22] (entE 0 0 sig22 (x0, ())) (entL sig22 (x0, ())) = some (cutAt b22 2, E22_2 (0) (x0), L22_2 (0) (x0), []) := by kernel_rfl
theorem p22_1 (v3 : Int) (x0 : List (ByteArray × ByteArray × ByteArray × Unit)) : runF tab ext22 false 33 [] 2000 [] oks22 kds22 tys22 Try.f22.results [true, true, true] (cutAt b22 2) (E22_2 v3 x0) (L22_2 v3 x0) = some ([Dyn.mk Ty.bool Bool.false], [], [Decidable.decide (v3 < (↑(List.length x0) : Int)) = Bool.true, 0 ≤ v3, v3 < (↑(List.length x0) : Int), True, (!g31_0 (List.getD x0 (Int.toNat v3) (ByteArray.empty, ByteArray.empty, ByteArray.empty, ()))) = Bool.true, Bool.true = Bool.true]) := by kernel_rfl
theorem p22_2 (v3 : Int) (x0 : List (ByteArray × ByteArray × ByteArray × Unit)) : runF tab ext22 false 33 [] 2000 [] oks22 kds22 tys22 Try.f22.results [true, false, true, true] (cutAt b22 2) (E22_2 v3 x0) (L22_2 v3 x0) = some ([Dyn.mk Ty.bool Bool.false], [], [Decidable.decide (v3 < (↑(List.length x0) : Int)) = Bool.true, 0 ≤ v3, v3 < (↑(List.length x0) : Int), True, (!g31_0 (List.getD x0 (Int.toNat v3) (ByteArray.empty, ByteArray.empty, ByteArray.empty, ()))) = Bool.false, Decidable.decide (v3 > 0) = Bool.true, InR IntKind.i64 (v3 - 1), 0 ≤ v3 - 1, v3 - 1 < (↑(List.length x0) : Int), 0 ≤ v3, v3 < (↑(List.length x0) : Int), True, (!g32_0 (List.getD x0 (Int.toNat (v3 - 1)) (ByteArray.empty, ByteArray.empty, ByteArray.empty, ())) (List.getD x0 (Int.toNat v3) (ByteArray.empty, ByteArray.empty, ByteArray.empty, ()))) = Bool.true]) := by kernel_rfl
theorem p22_3 (v3 : Int) (x0 : List (ByteArray × ByteArray × ByteArray × Unit)) : Am.runN tab ext22 false 33 [] 2000 [] [] [0, 3] [] [true, false, true, false] (cutAt b22 2) (E22_2 v3 x0) (L22_2 v3 x0) = some (cutAt b22 2, E22_2 (v3 + 1) (x0), L22_2 (v3 + 1) (x0), [Decidable.decide (v3 < (↑(List.length x0) : Int)) = Bool.true, 0 ≤ v3, v3 < (↑(List.length x0) : Int), True, (!g31_0 (List.getD x0 (Int.toNat v3) (ByteArray.empty, ByteArray.empty, ByteArray.empty, ()))) = Bool.false, Decidable.decide (v3 > 0) = Bool.true, InR IntKind.i64 (v3 - 1), 0 ≤ v3 - 1, v3 - 1 < (↑(List.length x0) : Int), 0 ≤ v3, v3 < (↑(List.length x0) : Int), True, (!g32_0 (List.getD x0 (Int.toNat (v3 - 1)) (ByteArray.empty, ByteArray.empty, ByteArray.empty, ())) (List.getD x0 (Int.toNat v3) (ByteArray.empty, ByteArray.empty, ByteArray.empty, ()))) = Bool.false, InR IntKind.i64 (v3 + 1)]) := by kernel_rfl
theorem p22_4 (v3 : Int) (x0 : List (ByteArray × ByteArray × ByteArray × Unit)) : Am.runN tab ext22 false 33 [] 2000 [] [] [0, 3] [] [true, false, false, false] (cutAt b22 2) (E22_2 v3 x0) (L22_2 v3 x0) = some (cutAt b22 2, E22_2 (v3 + 1) (x0), L22_2 (v3 + 1) (x0), [Decidable.decide (v3 < (↑(List.length x0) : Int)) = Bool.true, 0 ≤ v3, v3 < (↑(List.length x0) : Int), True, (!g31_0 (List.getD x0 (Int.toNat v3) (ByteArray.empty, ByteArray.empty, ByteArray.empty, ()))) = Bool.false, Decidable.decide (v3 > 0) = Bool.false, Bool.false = Bool.false, InR IntKind.i64 (v3 + 1)]) := by kernel_rfl
theorem p22_5 (v3 : Int) (x0 : List (ByteArray × ByteArray × ByteArray × Unit)) : runF tab ext22 false 33 [] 2000 [] oks22 kds22 tys22 Try.f22.results [false] (cutAt b22 2) (E22_2 v3 x0) (L22_2 v3 x0) = some ([Dyn.mk Ty.bool (Decidable.decide ((↑(List.length x0) : Int) ≤ 32))], [], [Decidable.decide (v3 < (↑(List.length x0) : Int)) = Bool.false]) := by kernel_rfl
theorem snd22 : ∀ n, (∀ (x0 : List (ByteArray × ByteArray × ByteArray × Unit)) ds, R22 n x0 ds → ∀ K q, AtV Try.prog 22 (PostR kds22 oks22 ds [] [] q K) 33 K q [] [.code b22] (entE 0 0 sig22 (x0, ())) (entL sig22 (x0, ()))) ∧ (∀ (v3 : Int) (x0 : List (ByteArray × ByteArray × ByteArray × Unit)) ds, R22_2 n v3 x0 ds → ∀ K q, AtV Try.prog 22 (PostR kds22 oks22 ds [] [] q K) 33 K q [] (cutAt b22 2) (E22_2 v3 x0) (L22_2 v3 x0)) := by
  intro n
  induction n with
  | zero => exact ⟨fun _ _ h => by simp only [R22] at h, fun _ _ _ h => by simp only [R22_2] at h⟩
  | succ n ih =>
  obtain ⟨ih, ih2⟩ := ih
  refine ⟨?_, ?_⟩
  · intro x0 ds h K q
    rw [R22] at h
    exact AtV.runN tabOk ext22Ok mixed (p22_0 x0) trivial (ih2 _ _ _ h K q)

  · intro v3 x0 ds h K q
    rw [R22_2] at h
    by_cases b0 : (Decidable.decide (v3 < (↑(List.length x0) : Int))) = true
    · rw [if_pos b0] at h
      obtain ⟨s0, s1, h⟩ := h
      by_cases b1 : (!g31_0 (List.getD x0 (Int.toNat v3) (ByteArray.empty, ByteArray.empty, ByteArray.empty, ()))) = true
      · rw [if_pos b1] at h
        subst h
        exact AtV.fin Try.func22 tabOk ext22Ok mixed (p22_1 v3 x0) ⟨b0, s0, s1, trivial, b1, rfl, trivial⟩
      · rw [if_neg b1] at h
        replace b1 := Bool.eq_false_iff.2 b1
        by_cases b2 : (Decidable.decide (v3 > 0)) = true
        · rw [if_pos b2] at h
          obtain ⟨s2, h⟩ := h
          obtain ⟨s3, s4, h⟩ := h
          obtain ⟨s5, s6, h⟩ := h
          by_cases b3 : (!g32_0 (List.getD x0 (Int.toNat (v3 - 1)) (ByteArray.empty, ByteArray.empty, ByteArray.empty, ())) (List.getD x0 (Int.toNat v3) (ByteArray.empty, ByteArray.empty, ByteArray.empty, ()))) = true
          · rw [if_pos b3] at h
            subst h
            exact AtV.fin Try.func22 tabOk ext22Ok mixed (p22_2 v3 x0) ⟨b0, s0, s1, trivial, b1, b2, s2, s3, s4, s5, s6, trivial, b3, trivial⟩
          · rw [if_neg b3] at h
            replace b3 := Bool.eq_false_iff.2 b3
            obtain ⟨s7, h⟩ := h
            exact AtV.runN tabOk ext22Ok mixed (p22_3 v3 x0) ⟨b0, s0, s1, trivial, b1, b2, s2, s3, s4, s5, s6, trivial, b3, s7, trivial⟩ (ih2 _ _ _ h K q)
        · rw [if_neg b2] at h
          replace b2 := Bool.eq_false_iff.2 b2
          obtain ⟨s2, h⟩ := h
          exact AtV.runN tabOk ext22Ok mixed (p22_4 v3 x0) ⟨b0, s0, s1, trivial, b1, b2, rfl, s2, trivial⟩ (ih2 _ _ _ h K q)
    · rw [if_neg b0] at h
      replace b0 := Bool.eq_false_iff.2 b0
      subst h
      exact AtV.fin Try.func22 tabOk ext22Ok mixed (p22_5 v3 x0) ⟨b0, trivial⟩



def ok22 (x0 : List (ByteArray × ByteArray × ByteArray × Unit)) (i : Nat) (x : ByteArray × ByteArray × ByteArray × Unit) : Bool :=
  g31_0 x && (i == 0 || g32_0 (x0.getD (i - 1) (ByteArray.empty, ByteArray.empty, ByteArray.empty, ())) x)
def g22_0 (x0 : List (ByteArray × ByteArray × ByteArray × Unit)) : Bool := allI (ok22 x0) 0 x0 && decide (x0.length ≤ 32)
def P22 (x0 : List (ByteArray × ByteArray × ByteArray × Unit)) : Prop := True

theorem step22 (n i : Nat) (x0 : List (ByteArray × ByteArray × ByteArray × Unit)) (hm : x0.length ≤ maxLen) (hi : i < x0.length) (ds : List Dyn) :
    (if ok22 x0 i (x0.getD i (ByteArray.empty, ByteArray.empty, ByteArray.empty, ())) = true then R22_2 n ((i : Int) + 1) x0 ds else ds = [⟨.bool, false⟩]) → R22_2 (n + 1) (i : Int) x0 ds := by
  intro h
  have hu := inR_up hm hi
  rw [R22_2, if_pos (by simp; omega)]
  refine ⟨by omega, by omega, ?_⟩
  simp only [Int.toNat_natCast]
  unfold ok22 at h
  cases h1 : g31_0 (x0.getD i (ByteArray.empty, ByteArray.empty, ByteArray.empty, ())) with
  | false =>
    rw [h1] at h
    rw [if_pos (by rfl)]
    simpa using h
  | true =>
    rw [h1] at h
    rw [if_neg (by simp)]
    by_cases h0 : (i : Int) > 0
    · rw [if_pos (by simpa using h0)]
      have hi0 : (i == 0) = false := by simp; omega
      have e : ((i : Int) - 1).toNat = i - 1 := by omega
      refine ⟨by rw [i64_iff]; have : maxLen ≤ 9223372036854775807 := by decide
                 omega, by omega, by omega, by omega, by omega, ?_⟩
      rw [e]
      by_cases h2 : g32_0 (x0.getD (i - 1) (ByteArray.empty, ByteArray.empty, ByteArray.empty, ())) (x0.getD i (ByteArray.empty, ByteArray.empty, ByteArray.empty, ())) = true
      · rw [h2, hi0] at h
        rw [if_neg (by rw [h2]; simp)]
        exact ⟨hu, by simpa using h⟩
      · have h2 := Bool.eq_false_iff.2 h2
        rw [h2, hi0] at h
        rw [if_pos (by rw [h2]; rfl)]
        simpa using h
    · rw [if_neg (by simpa using h0)]
      have hi0 : (i == 0) = true := by simp; omega
      rw [hi0] at h
      exact ⟨hu, by simpa using h⟩

theorem top22 (x0 : List (ByteArray × ByteArray × ByteArray × Unit)) (hw : x0.length ≤ maxLen) : R22 (x0.length + 1 + 1) x0 [⟨.bool, g22_0 x0⟩] := by
  rw [R22]
  have key := loop_testI x0 (ByteArray.empty, ByteArray.empty, ByteArray.empty, ()) (ok22 x0) [(⟨.bool, false⟩ : Dyn)] [⟨.bool, decide (x0.length ≤ 32)⟩] (fun n i ds => R22_2 n i x0 ds) (fun n => ?_) (fun n i hi hok ds hr => ?_) (fun n i hi hok => ?_)
  · unfold g22_0
    cases h : allI (ok22 x0) 0 x0 with
    | true => rw [if_pos h] at key; simpa using key
    | false => rw [if_neg (by rw [h]; simp)] at key; simpa using key
  · rw [R22_2, if_neg (by simp)]
    have hc : decide ((x0.length : Int) ≤ 32) = decide (x0.length ≤ 32) := by
      congr 1; exact propext ⟨fun h => by omega, fun h => by omega⟩
    rw [hc]
  · exact step22 n i x0 hw hi ds (by rw [if_pos hok]; exact hr)
  · exact step22 n i x0 hw hi _ (by rw [if_neg (by rw [hok]; simp)])

def S22 : Am.Spec := { sig := sig22, pre := fun ⟨x0, _⟩ => P22 x0, res := fun ⟨x0, _⟩ => [⟨Ty.bool, g22_0 x0⟩] }
theorem con22 : Contract Try.prog 22 S22 := contract_of Try.func22 hb22 (Nat.le_of_ble_eq_true (by kernel_rfl)) (fun ⟨x0, _⟩ h hwf K q =>
  (snd22 _).1 x0 _ (top22 x0 hwf.1.1) K q)

end Go.Proofs.Ytohojjcoikkmcaa

/- Function 34 (spec.l29Put): its runs between cut points. Written by a program of this repo (gen). -/
set_option linter.unusedVariables false
set_option linter.unusedSimpArgs false
set_option maxRecDepth 100000
namespace Go.Proofs.Ytohojjcoikkmcaa
open Go Go.Am Go.Proofs
def ext34 : Ext := [(32, S32)]
theorem call34_32 : Callable Try.prog 32 := ⟨Try.f32, Try.func32, by kernel_rfl, by kernel_rfl⟩
theorem ext34Ok : ExtOk Try.prog ext34 := ⟨⟨call34_32, con32⟩, trivial⟩

noncomputable def b34 : Code := bodyOf Try.f34
theorem hb34 : Try.f34.body = some b34 := by kernel_rfl
def sig34 : List AT := [AT.v (Ty.sl (Ty.cons Ty.str (Ty.cons Ty.str (Ty.cons Ty.str Ty.unit)))), AT.v (Ty.cons Ty.str (Ty.cons Ty.str (Ty.cons Ty.str Ty.unit)))]
def tys34 : List Ty := [Ty.sl (Ty.cons Ty.str (Ty.cons Ty.str (Ty.cons Ty.str Ty.unit)))]
def kds34 : List RK := []
def oks34 : List AT := owns sig34
def E34_4 (v6 : Bool) (v7 : Int) (h1 : List (ByteArray × ByteArray × ByteArray × Unit)) (x0 : List (ByteArray × ByteArray × ByteArray × Unit)) (x1 : ByteArray × ByteArray × ByteArray × Unit) : Env := [(0, PV.a (Atom.sl (Ty.cons Ty.str (Ty.cons Ty.str (Ty.cons Ty.str Ty.unit))) x0)), (3, PV.a (Atom.optr 0 0 [])), (5, PV.a (Atom.osl 1 Option.none)), (6, PV.a (Atom.val (Value.bool v6))), (7, PV.a (Atom.val (Value.int IntKind.i64 v7)))]
def L34_4 (v6 : Bool) (v7 : Int) (h1 : List (ByteArray × ByteArray × ByteArray × Unit)) (x0 : List (ByteArray × ByteArray × ByteArray × Unit)) (x1 : ByteArray × ByteArray × ByteArray × Unit) : Heap := [Option.some (Arr.mk (Ty.cons Ty.str (Ty.cons Ty.str (Ty.cons Ty.str Ty.unit))) [x1] Bool.true Option.none (Option.some Bool.false)), Option.some (Arr.mk (Ty.cons Ty.str (Ty.cons Ty.str (Ty.cons Ty.str Ty.unit))) h1 Bool.false Option.none Option.none)]
mutual
def R34 : Nat → List (ByteArray × ByteArray × ByteArray × Unit) → ByteArray × ByteArray × ByteArray × Unit → List Dyn → Prop
  | 0, _, _, _ => False
  | n + 1, x0, x1, ds => (R34_4 n (Bool.false) (0) ([]) (x0) (x1) ds)
def R34_4 : Nat → Bool → Int → List (ByteArray × ByteArray × ByteArray × Unit) → List (ByteArray × ByteArray × ByteArray × Unit) → ByteArray × ByteArray × ByteArray × Unit → List Dyn → Prop
  | 0, _, _, _, _, _, _ => False
  | n + 1, v6, v7, h1, x0, x1, ds => (if (Decidable.decide (v7 < (↑(List.length x0) : Int))) = true then (if (!v6) = true then ((0 ≤ v7) ∧ (v7 < (↑(List.length x0) : Int)) ∧ (if (!g32_0 (List.getD x0 (Int.toNat v7) (ByteArray.empty, ByteArray.empty, ByteArray.empty, ())) x1) = true then (((List.length h1 + 1) * 48 ≤ 140737488355328) ∧ ((0 ≤ v7) ∧ (v7 < (↑(List.length x0) : Int)) ∧ (if (!ByteArray.toList (Prod.fst (List.getD x0 (Int.toNat v7) (ByteArray.empty, ByteArray.empty, ByteArray.empty, ()))) == ByteArray.toList (Prod.fst x1)) = true then ((0 ≤ v7) ∧ (v7 < (↑(List.length x0) : Int)) ∧ (((List.length (h1 ++ [x1]) + 1) * 48 ≤ 140737488355328) ∧ ((InR IntKind.i64 (v7 + 1)) ∧ (R34_4 n (Bool.true) (v7 + 1) (h1 ++ [x1] ++ [List.getD x0 (Int.toNat v7) (ByteArray.empty, ByteArray.empty, ByteArray.empty, ())]) (x0) (x1) ds)))) else ((0 ≤ v7) ∧ (v7 < (↑(List.length x0) : Int)) ∧ (if (!ByteArray.toList (Prod.fst (Prod.snd (List.getD x0 (Int.toNat v7) (ByteArray.empty, ByteArray.empty, ByteArray.empty, ())))) == ByteArray.toList (Prod.fst (Prod.snd x1))) = true then ((0 ≤ v7) ∧ (v7 < (↑(List.length x0) : Int)) ∧ (((List.length (h1 ++ [x1]) + 1) * 48 ≤ 140737488355328) ∧ ((InR IntKind.i64 (v7 + 1)) ∧ (R34_4 n (Bool.true) (v7 + 1) (h1 ++ [x1] ++ [List.getD x0 (Int.toNat v7) (ByteArray.empty, ByteArray.empty, ByteArray.empty, ())]) (x0) (x1) ds)))) else ((InR IntKind.i64 (v7 + 1)) ∧ (R34_4 n (Bool.true) (v7 + 1) (h1 ++ [x1]) (x0) (x1) ds))))))) else ((0 ≤ v7) ∧ (v7 < (↑(List.length x0) : Int)) ∧ (if (!ByteArray.toList (Prod.fst (List.getD x0 (Int.toNat v7) (ByteArray.empty, ByteArray.empty, ByteArray.empty, ()))) == ByteArray.toList (Prod.fst x1)) = true then ((0 ≤ v7) ∧ (v7 < (↑(List.length x0) : Int)) ∧ (((List.length h1 + 1) * 48 ≤ 140737488355328) ∧ ((InR IntKind.i64 (v7 + 1)) ∧ (R34_4 n (v6) (v7 + 1) (h1 ++ [List.getD x0 (Int.toNat v7) (ByteArray.empty, ByteArray.empty, ByteArray.empty, ())]) (x0) (x1) ds)))) else ((0 ≤ v7) ∧ (v7 < (↑(List.length x0) : Int)) ∧ (if (!ByteArray.toList (Prod.fst (Prod.snd (List.getD x0 (Int.toNat v7) (ByteArray.empty, ByteArray.empty, ByteArray.empty, ())))) == ByteArray.toList (Prod.fst (Prod.snd x1))) = true then ((0 ≤ v7) ∧ (v7 < (↑(List.length x0) : Int)) ∧ (((List.length h1 + 1) * 48 ≤ 140737488355328) ∧ ((InR IntKind.i64 (v7 + 1)) ∧ (R34_4 n (v6) (v7 + 1) (h1 ++ [List.getD x0 (Int.toNat v7) (ByteArray.empty, ByteArray.empty, ByteArray.empty, ())]) (x0) (x1) ds)))) else ((InR IntKind.i64 (v7 + 1)) ∧ (R34_4 n (v6) (v7 + 1) (h1) (x0) (x1) ds)))))))) else ((0 ≤ v7) ∧ (v7 < (↑(List.length x0) : Int)) ∧ (if (!ByteArray.toList (Prod.fst (List.getD x0 (Int.toNat v7) (ByteArray.empty, ByteArray.empty, ByteArray.empty, ()))) == ByteArray.toList (Prod.fst x1)) = true then ((0 ≤ v7) ∧ (v7 < (↑(List.length x0) : Int)) ∧ (((List.length h1 + 1) * 48 ≤ 140737488355328) ∧ ((InR IntKind.i64 (v7 + 1)) ∧ (R34_4 n (v6) (v7 + 1) (h1 ++ [List.getD x0 (Int.toNat v7) (ByteArray.empty, ByteArray.empty, ByteArray.empty, ())]) (x0) (x1) ds)))) else ((0 ≤ v7) ∧ (v7 < (↑(List.length x0) : Int)) ∧ (if (!ByteArray.toList (Prod.fst (Prod.snd (List.getD x0 (Int.toNat v7) (ByteArray.empty, ByteArray.empty, ByteArray.empty, ())))) == ByteArray.toList (Prod.fst (Prod.snd x1))) = true then ((0 ≤ v7) ∧ (v7 < (↑(List.length x0) : Int)) ∧ (((List.length h1 + 1) * 48 ≤ 140737488355328) ∧ ((InR IntKind.i64 (v7 + 1)) ∧ (R34_4 n (v6) (v7 + 1) (h1 ++ [List.getD x0 (Int.toNat v7) (ByteArray.empty, ByteArray.empty, ByteArray.empty, ())]) (x0) (x1) ds)))) else ((InR IntKind.i64 (v7 + 1)) ∧ (R34_4 n (v6) (v7 + 1) (h1) (x0) (x1) ds))))))) else (if (!v6) = true then (((List.length h1 + 1) * 48 ≤ 140737488355328) ∧ (ds = [Dyn.mk (Ty.sl (Ty.cons Ty.str (Ty.cons Ty.str (Ty.cons Ty.str Ty.unit)))) (h1 ++ [x1])])) else (ds = [Dyn.mk (Ty.sl (Ty.cons Ty.str (Ty.cons Ty.str (Ty.cons Ty.str Ty.unit)))) h1])))
end
theorem p34_0 (x0 : List (ByteArray × ByteArray × ByteArray × Unit)) (x1 : ByteArray × ByteArray × ByteArray × Unit) : Am.runN tab ext34 false 60 [] 2000 [] [] [0, 3, 5, 6, 7] [0, 1] [] [.code b34] (entE 0 0 sig34 (x0, x1, ())) (entL sig34 (x0, x1, ())) = some (cutAt b34 4, E34_4 (Bool.false) (0) ([]) (x0) (x1), L34_4 (Bool.false) (0) ([]) (x0) (x1), []) := by kernel_rfl
theorem p34_1 (v6 : Bool) (v7 : Int) (h1 : List (ByteArray × ByteArray × ByteArray × Unit)) (x0 : List (ByteArray × ByteArray × ByteArray × Unit)) (x1 : ByteArray × ByteArray × ByteArray × Unit) : Am.runN tab ext34 false 60 [] 2000 [] [] [0, 3, 5, 6, 7] [0, 1] [true, true, true, true, true] (cutAt b34 4) (E34_4 v6 v7 h1 x0 x1) (L34_4 v6 v7 h1 x0 x1) = some (cutAt b34 4, E34_4 (Bool.true) (v7 + 1) (h1 ++ [x1] ++ [List.getD x0 (Int.toNat v7) (ByteArray.empty, ByteArray.empty, ByteArray.empty, ())]) (x0) (x1), L34_4 (Bool.true) (v7 + 1) (h1 ++ [x1] ++ [List.getD x0 (Int.toNat v7) (ByteArray.empty, ByteArray.empty, ByteArray.empty, ())]) (x0) (x1), [Decidable.decide (v7 < (↑(List.length x0) : Int)) = Bool.true, (!v6) = Bool.true, 0 ≤ v7, v7 < (↑(List.length x0) : Int), True, (!g32_0 (List.getD x0 (Int.toNat v7) (ByteArray.empty, ByteArray.empty, ByteArray.empty, ())) x1) = Bool.true, (List.length h1 + 1) * 48 ≤ 140737488355328, 0 ≤ v7, v7 < (↑(List.length x0) : Int), (!ByteArray.toList (Prod.fst (List.getD x0 (Int.toNat v7) (ByteArray.empty, ByteArray.empty, ByteArray.empty, ()))) == ByteArray.toList (Prod.fst x1)) = Bool.true, Bool.true = Bool.true, 0 ≤ v7, v7 < (↑(List.length x0) : Int), (List.length (h1 ++ [x1]) + 1) * 48 ≤ 140737488355328, InR IntKind.i64 (v7 + 1)]) := by kernel_rfl
theorem p34_2 (v6 : Bool) (v7 : Int) (h1 : List (ByteArray × ByteArray × ByteArray × Unit)) (x0 : List (ByteArray × ByteArray × ByteArray × Unit)) (x1 : ByteArray × ByteArray × ByteArray × Unit) : Am.runN tab ext34 false 60 [] 2000 [] [] [0, 3, 5, 6, 7] [0, 1] [true, true, true, false, true] (cutAt b34 4) (E34_4 v6 v7 h1 x0 x1) (L34_4 v6 v7 h1 x0 x1) = some (cutAt b34 4, E34_4 (Bool.true) (v7 + 1) (h1 ++ [x1] ++ [List.getD x0 (Int.toNat v7) (ByteArray.empty, ByteArray.empty, ByteArray.empty, ())]) (x0) (x1), L34_4 (Bool.true) (v7 + 1) (h1 ++ [x1] ++ [List.getD x0 (Int.toNat v7) (ByteArray.empty, ByteArray.empty, ByteArray.empty, ())]) (x0) (x1), [Decidable.decide (v7 < (↑(List.length x0) : Int)) = Bool.true, (!v6) = Bool.true, 0 ≤ v7, v7 < (↑(List.length x0) : Int), True, (!g32_0 (List.getD x0 (Int.toNat v7) (ByteArray.empty, ByteArray.empty, ByteArray.empty, ())) x1) = Bool.true, (List.length h1 + 1) * 48 ≤ 140737488355328, 0 ≤ v7, v7 < (↑(List.length x0) : Int), (!ByteArray.toList (Prod.fst (List.getD x0 (Int.toNat v7) (ByteArray.empty, ByteArray.empty, ByteArray.empty, ()))) == ByteArray.toList (Prod.fst x1)) = Bool.false, 0 ≤ v7, v7 < (↑(List.length x0) : Int), (!ByteArray.toList (Prod.fst (Prod.snd (List.getD x0 (Int.toNat v7) (ByteArray.empty, ByteArray.empty, ByteArray.empty, ())))) == ByteArray.toList (Prod.fst (Prod.snd x1))) = Bool.true, 0 ≤ v7, v7 < (↑(List.length x0) : Int), (List.length (h1 ++ [x1]) + 1) * 48 ≤ 140737488355328, InR IntKind.i64 (v7 + 1)]) := by kernel_rfl
theorem p34_3 (v6 : Bool) (v7 : Int) (h1 : List (ByteArray × ByteArray × ByteArray × Unit)) (x0 : List (ByteArray × ByteArray × ByteArray × Unit)) (x1 : ByteArray × ByteArray × ByteArray × Unit) : Am.runN tab ext34 false 60 [] 2000 [] [] [0, 3, 5, 6, 7] [0, 1] [true, true, true, false, false] (cutAt b34 4) (E34_4 v6 v7 h1 x0 x1) (L34_4 v6 v7 h1 x0 x1) = some (cutAt b34 4, E34_4 (Bool.true) (v7 + 1) (h1 ++ [x1]) (x0) (x1), L34_4 (Bool.true) (v7 + 1) (h1 ++ [x1]) (x0) (x1), [Decidable.decide (v7 < (↑(List.length x0) : Int)) = Bool.true, (!v6) = Bool.true, 0 ≤ v7, v7 < (↑(List.length x0) : Int), True, (!g32_0 (List.getD x0 (Int.toNat v7) (ByteArray.empty, ByteArray.empty, ByteArray.empty, ())) x1) = Bool.true, (List.length h1 + 1) * 48 ≤ 140737488355328, 0 ≤ v7, v7 < (↑(List.length x0) : Int), (!ByteArray.toList (Prod.fst (List.getD x0 (Int.toNat v7) (ByteArray.empty, ByteArray.empty, ByteArray.empty, ()))) == ByteArray.toList (Prod.fst x1)) = Bool.false, 0 ≤ v7, v7 < (↑(List.length x0) : Int), (!ByteArray.toList (Prod.fst (Prod.snd (List.getD x0 (Int.toNat v7) (ByteArray.empty, ByteArray.empty, ByteArray.empty, ())))) == ByteArray.toList (Prod.fst (Prod.snd x1))) = Bool.false, InR IntKind.i64 (v7 + 1)]) := by kernel_rfl
theorem p34_4 (v6 : Bool) (v7 : Int) (h1 : List (ByteArray × ByteArray × ByteArray × Unit)) (x0 : List (ByteArray × ByteArray × ByteArray × Unit)) (x1 : ByteArray × ByteArray × ByteArray × Unit) : Am.runN tab ext34 false 60 [] 2000 [] [] [0, 3, 5, 6, 7] [0, 1] [true, true, false, true, true] (cutAt b34 4) (E34_4 v6 v7 h1 x0 x1) (L34_4 v6 v7 h1 x0 x1) = some (cutAt b34 4, E34_4 (v6) (v7 + 1) (h1 ++ [List.getD x0 (Int.toNat v7) (ByteArray.empty, ByteArray.empty, ByteArray.empty, ())]) (x0) (x1), L34_4 (v6) (v7 + 1) (h1 ++ [List.getD x0 (Int.toNat v7) (ByteArray.empty, ByteArray.empty, ByteArray.empty, ())]) (x0) (x1), [Decidable.decide (v7 < (↑(List.length x0) : Int)) = Bool.true, (!v6) = Bool.true, 0 ≤ v7, v7 < (↑(List.length x0) : Int), True, (!g32_0 (List.getD x0 (Int.toNat v7) (ByteArray.empty, ByteArray.empty, ByteArray.empty, ())) x1) = Bool.false, 0 ≤ v7, v7 < (↑(List.length x0) : Int), (!ByteArray.toList (Prod.fst (List.getD x0 (Int.toNat v7) (ByteArray.empty, ByteArray.empty, ByteArray.empty, ()))) == ByteArray.toList (Prod.fst x1)) = Bool.true, Bool.true = Bool.true, 0 ≤ v7, v7 < (↑(List.length x0) : Int), (List.length h1 + 1) * 48 ≤ 140737488355328, InR IntKind.i64 (v7 + 1)]) := by kernel_rfl
theorem p34_5 (v6 : Bool) (v7 : Int) (h1 : List (ByteArray × ByteArray × ByteArray × Unit)) (x0 : List (ByteArray × ByteArray × ByteArray × Unit)) (x1 : ByteArray × ByteArray × ByteArray × Unit) : Am.runN tab ext34 false 60 [] 2000 [] [] [0, 3, 5, 6, 7] [0, 1] [true, true, false, false, true] (cutAt b34 4) (E34_4 v6 v7 h1 x0 x1) (L34_4 v6 v7 h1 x0 x1) = some (cutAt b34 4, E34_4 (v6) (v7 + 1) (h1 ++ [List.getD x0 (Int.toNat v7) (ByteArray.empty, ByteArray.empty, ByteArray.empty, ())]) (x0) (x1), L34_4 (v6) (v7 + 1) (h1 ++ [List.getD x0 (Int.toNat v7) (ByteArray.empty, ByteArray.empty, ByteArray.empty, ())]) (x0) (x1), [Decidable.decide (v7 < (↑(List.length x0) : Int)) = Bool.true, (!v6) = Bool.true, 0 ≤ v7, v7 < (↑(List.length x0) : Int), True, (!g32_0 (List.getD x0 (Int.toNat v7) (ByteArray.empty, ByteArray.empty, ByteArray.empty, ())) x1) = Bool.false, 0 ≤ v7, v7 < (↑(List.length x0) : Int), (!ByteArray.toList (Prod.fst (List.getD x0 (Int.toNat v7) (ByteArray.empty, ByteArray.empty, ByteArray.empty, ()))) == ByteArray.toList (Prod.fst x1)) = Bool.false, 0 ≤ v7, v7 < (↑(List.length x0) : Int), (!ByteArray.toList (Prod.fst (Prod.snd (List.getD x0 (Int.toNat v7) (ByteArray.empty, ByteArray.empty, ByteArray.empty, ())))) == ByteArray.toList (Prod.fst (Prod.snd x1))) = Bool.true, 0 ≤ v7, v7 < (↑(List.length x0) : Int), (List.length h1 + 1) * 48 ≤ 140737488355328, InR IntKind.i64 (v7 + 1)]) := by kernel_rfl
theorem p34_6 (v6 : Bool) (v7 : Int) (h1 : List (ByteArray × ByteArray × ByteArray × Unit)) (x0 : List (ByteArray × ByteArray × ByteArray × Unit)) (x1 : ByteArray × ByteArray × ByteArray × Unit) : Am.runN tab ext34 false 60 [] 2000 [] [] [0, 3, 5, 6, 7] [0, 1] [true, true, false, false, false] (cutAt b34 4) (E34_4 v6 v7 h1 x0 x1) (L34_4 v6 v7 h1 x0 x1) = some (cutAt b34 4, E34_4 (v6) (v7 + 1) (h1) (x0) (x1), L34_4 (v6) (v7 + 1) (h1) (x0) (x1), [Decidable.decide (v7 < (↑(List.length x0) : Int)) = Bool.true, (!v6) = Bool.true, 0 ≤ v7, v7 < (↑(List.length x0) : Int), True, (!g32_0 (List.getD x0 (Int.toNat v7) (ByteArray.empty, ByteArray.empty, ByteArray.empty, ())) x1) = Bool.false, 0 ≤ v7, v7 < (↑(List.length x0) : Int), (!ByteArray.toList (Prod.fst (List.getD x0 (Int.toNat v7) (ByteArray.empty, ByteArray.empty, ByteArray.empty, ()))) == ByteArray.toList (Prod.fst x1)) = Bool.false, 0 ≤ v7, v7 < (↑(List.length x0) : Int), (!ByteArray.toList (Prod.fst (Prod.snd (List.getD x0 (Int.toNat v7) (ByteArray.empty, ByteArray.empty, ByteArray.empty, ())))) == ByteArray.toList (Prod.fst (Prod.snd x1))) = Bool.false, InR IntKind.i64 (v7 + 1)]) := by kernel_rfl
theorem p34_7 (v6 : Bool) (v7 : Int) (h1 : List (ByteArray × ByteArray × ByteArray × Unit)) (x0 : List (ByteArray × ByteArray × ByteArray × Unit)) (x1 : ByteArray × ByteArray × ByteArray × Unit) : Am.runN tab ext34 false 60 [] 2000 [] [] [0, 3, 5, 6, 7] [0, 1] [true, false, false, true, true] (cutAt b34 4) (E34_4 v6 v7 h1 x0 x1) (L34_4 v6 v7 h1 x0 x1) = some (cutAt b34 4, E34_4 (v6) (v7 + 1) (h1 ++ [List.getD x0 (Int.toNat v7) (ByteArray.empty, ByteArray.empty, ByteArray.empty, ())]) (x0) (x1), L34_4 (v6) (v7 + 1) (h1 ++ [List.getD x0 (Int.toNat v7) (ByteArray.empty, ByteArray.empty, ByteArray.empty, ())]) (x0) (x1), [Decidable.decide (v7 < (↑(List.length x0) : Int)) = Bool.true, (!v6) = Bool.false, Bool.false = Bool.false, 0 ≤ v7, v7 < (↑(List.length x0) : Int), (!ByteArray.toList (Prod.fst (List.getD x0 (Int.toNat v7) (ByteArray.empty, ByteArray.empty, ByteArray.empty, ()))) == ByteArray.toList (Prod.fst x1)) = Bool.true, Bool.true = Bool.true, 0 ≤ v7, v7 < (↑(List.length x0) : Int), (List.length h1 + 1) * 48 ≤ 140737488355328, InR IntKind.i64 (v7 + 1)]) := by kernel_rfl
theorem p34_8 (v6 : Bool) (v7 : Int) (h1 : List (ByteArray × ByteArray × ByteArray × Unit)) (x0 : List (ByteArray × ByteArray × ByteArray × Unit)) (x1 : ByteArray × ByteArray × ByteArray × Unit) : Am.runN tab ext34 false 60 [] 2000 [] [] [0, 3, 5, 6, 7] [0, 1] [true, false, false, false, true] (cutAt b34 4) (E34_4 v6 v7 h1 x0 x1) (L34_4 v6 v7 h1 x0 x1) = some (cutAt b34 4, E34_4 (v6) (v7 + 1) (h1 ++ [List.getD x0 (Int.toNat v7) (ByteArray.empty, ByteArray.empty, ByteArray.empty, ())]) (x0) (x1), L34_4 (v6) (v7 + 1) (h1 ++ [List.getD x0 (Int.toNat v7) (ByteArray.empty, ByteArray.empty, ByteArray.empty, ())]) (x0) (x1), [Decidable.decide (v7 < (↑(List.length x0) : Int)) = Bool.true, (!v6) = Bool.false, Bool.false = Bool.false, 0 ≤ v7, v7 < (↑(List.length x0) : Int), (!ByteArray.toList (Prod.fst (List.getD x0 (Int.toNat v7) (ByteArray.empty, ByteArray.empty, ByteArray.empty, ()))) == ByteArray.toList (Prod.fst x1)) = Bool.false, 0 ≤ v7, v7 < (↑(List.length x0) : Int), (!ByteArray.toList (Prod.fst (Prod.snd (List.getD x0 (Int.toNat v7) (ByteArray.empty, ByteArray.empty, ByteArray.empty, ())))) == ByteArray.toList (Prod.fst (Prod.snd x1))) = Bool.true, 0 ≤ v7, v7 < (↑(List.length x0) : Int), (List.length h1 + 1) * 48 ≤ 140737488355328, InR IntKind.i64 (v7 + 1)]) := by kernel_rfl
theorem p34_9 (v6 : Bool) (v7 : Int) (h1 : List (ByteArray × ByteArray × ByteArray × Unit)) (x0 : List (ByteArray × ByteArray × ByteArray × Unit)) (x1 : ByteArray × ByteArray × ByteArray × Unit) : Am.runN tab ext34 false 60 [] 2000 [] [] [0, 3, 5, 6, 7] [0, 1] [true, false, false, false, false] (cutAt b34 4) (E34_4 v6 v7 h1 x0 x1) (L34_4 v6 v7 h1 x0 x1) = some (cutAt b34 4, E34_4 (v6) (v7 + 1) (h1) (x0) (x1), L34_4 (v6) (v7 + 1) (h1) (x0) (x1), [Decidable.decide (v7 < (↑(List.length x0) : Int)) = Bool.true, (!v6) = Bool.false, Bool.false = Bool.false, 0 ≤ v7, v7 < (↑(List.length x0) : Int), (!ByteArray.toList (Prod.fst (List.getD x0 (Int.toNat v7) (ByteArray.empty, ByteArray.empty, ByteArray.empty, ()))) == ByteArray.toList (Prod.fst x1)) = Bool.false, 0 ≤ v7, v7 < (↑(List.length x0) : Int), (!ByteArray.toList (Prod.fst (Prod.snd (List.getD x0 (Int.toNat v7) (ByteArray.empty, ByteArray.empty, ByteArray.empty, ())))) == ByteArray.toList (Prod.fst (Prod.snd x1))) = Bool.false, InR IntKind.i64 (v7 + 1)]) := by kernel_rfl
theorem p34_10 (v6 : Bool) (v7 : Int) (h1 : List (ByteArray × ByteArray × ByteArray × Unit)) (x0 : List (ByteArray × ByteArray × ByteArray × Unit)) (x1 : ByteArray × ByteArray × ByteArray × Unit) : runF tab ext34 false 60 [] 2000 [] oks34 kds34 tys34 Try.f34.results [false, true] (cutAt b34 4) (E34_4 v6 v7 h1 x0 x1) (L34_4 v6 v7 h1 x0 x1) = some ([Dyn.mk (Ty.sl (Ty.cons Ty.str (Ty.cons Ty.str (Ty.cons Ty.str Ty.unit)))) (h1 ++ [x1])], [], [Decidable.decide (v7 < (↑(List.length x0) : Int)) = Bool.false, (!v6) = Bool.true, (List.length h1 + 1) * 48 ≤ 140737488355328]) := by kernel_rfl
theorem p34_11 (v6 : Bool) (v7 : Int) (h1 : List (ByteArray × ByteArray × ByteArray × Unit)) (x0 : List (ByteArray × ByteArray × ByteArray × Unit)) (x1 : ByteArray × ByteArray × ByteArray × Unit) : runF tab ext34 false 60 [] 2000 [] oks34 kds34 tys34 Try.f34.results [false, false] (cutAt b34 4) (E34_4 v6 v7 h1 x0 x1) (L34_4 v6 v7 h1 x0 x1) = some ([Dyn.mk (Ty.sl (Ty.cons Ty.str (Ty.cons Ty.str (Ty.cons Ty.str Ty.unit)))) h1], [], [Decidable.decide (v7 < (↑(List.length x0) : Int)) = Bool.false, (!v6) = Bool.false]) := by kernel_rfl
theorem snd34 : ∀ n, (∀ (x0 : List (ByteArray × ByteArray × ByteArray × Unit)) (x1 : ByteArray × ByteArray × ByteArray × Unit) ds, R34 n x0 x1 ds → ∀ K q, AtV Try.prog 34 (PostR kds34 oks34 ds [] [] q K) 60 K q [] [.code b34] (entE 0 0 sig34 (x0, x1, ())) (entL sig34 (x0, x1, ()))) ∧ (∀ (v6 : Bool) (v7 : Int) (h1 : List (ByteArray × ByteArray × ByteArray × Unit)) (x0 : List (ByteArray × ByteArray × ByteArray × Unit)) (x1 : ByteArray × ByteArray × ByteArray × Unit) ds, R34_4 n v6 v7 h1 x0 x1 ds → ∀ K q, AtV Try.prog 34 (PostR kds34 oks34 ds [] [] q K) 60 K q [] (cutAt b34 4) (E34_4 v6 v7 h1 x0 x1) (L34_4 v6 v7 h1 x0 x1)) := by
  intro n
  induction n with
  | zero => exact ⟨fun _ _ _ h => by simp only [R34] at h, fun _ _ _ _ _ _ h => by simp only [R34_4] at h⟩
  | succ n ih =>
  obtain ⟨ih, ih4⟩ := ih
  refine ⟨?_, ?_⟩
  · intro x0 x1 ds h K q
    rw [R34] at h
    exact AtV.runN tabOk ext34Ok mixed (p34_0 x0 x1) trivial (ih4 _ _ _ _ _ _ h K q)

  · intro v6 v7 h1 x0 x1 ds h K q
    rw [R34_4] at h
    by_cases b0 : (Decidable.decide (v7 < (↑(List.length x0) : Int))) = true
    · rw [if_pos b0] at h
      by_cases b1 : (!v6) = true
      · rw [if_pos b1] at h
        obtain ⟨s0, s1, h⟩ := h
        by_cases b2 : (!g32_0 (List.getD x0 (Int.toNat v7) (ByteArray.empty, ByteArray.empty, ByteArray.empty, ())) x1) = true
        · rw [if_pos b2] at h
          obtain ⟨s2, h⟩ := h
          obtain ⟨s3, s4, h⟩ := h
          by_cases b3 : (!ByteArray.toList (Prod.fst (List.getD x0 (Int.toNat v7) (ByteArray.empty, ByteArray.empty, ByteArray.empty, ()))) == ByteArray.toList (Prod.fst x1)) = true
          · rw [if_pos b3] at h
            obtain ⟨s5, s6, h⟩ := h
            obtain ⟨s7, h⟩ := h
            obtain ⟨s8, h⟩ := h
            exact AtV.runN tabOk ext34Ok mixed (p34_1 v6 v7 h1 x0 x1) ⟨b0, b1, s0, s1, trivial, b2, s2, s3, s4, b3, rfl, s5, s6, s7, s8, trivial⟩ (ih4 _ _ _ _ _ _ h K q)
          · rw [if_neg b3] at h
            replace b3 := Bool.eq_false_iff.2 b3
            obtain ⟨s5, s6, h⟩ := h
            by_cases b4 : (!ByteArray.toList (Prod.fst (Prod.snd (List.getD x0 (Int.toNat v7) (ByteArray.empty, ByteArray.empty, ByteArray.empty, ())))) == ByteArray.toList (Prod.fst (Prod.snd x1))) = true
            · rw [if_pos b4] at h
              obtain ⟨s7, s8, h⟩ := h
              obtain ⟨s9, h⟩ := h
              obtain ⟨s10, h⟩ := h
              exact AtV.runN tabOk ext34Ok mixed (p34_2 v6 v7 h1 x0 x1) ⟨b0, b1, s0, s1, trivial, b2, s2, s3, s4, b3, s5, s6, b4, s7, s8, s9, s10, trivial⟩ (ih4 _ _ _ _ _ _ h K q)
            · rw [if_neg b4] at h
              replace b4 := Bool.eq_false_iff.2 b4
              obtain ⟨s7, h⟩ := h
              exact AtV.runN tabOk ext34Ok mixed (p34_3 v6 v7 h1 x0 x1) ⟨b0, b1, s0, s1, trivial, b2, s2, s3, s4, b3, s5, s6, b4, s7, trivial⟩ (ih4 _ _ _ _ _ _ h K q)
        · rw [if_neg b2] at h
          replace b2 := Bool.eq_false_iff.2 b2
          obtain ⟨s2, s3, h⟩ := h
          by_cases b3 : (!ByteArray.toList (Prod.fst (List.getD x0 (Int.toNat v7) (ByteArray.empty, ByteArray.empty, ByteArray.empty, ()))) == ByteArray.toList (Prod.fst x1)) = true
          · rw [if_pos b3] at h
            obtain ⟨s4, s5, h⟩ := h
            obtain ⟨s6, h⟩ := h
            obtain ⟨s7, h⟩ := h
            exact AtV.runN tabOk ext34Ok mixed (p34_4 v6 v7 h1 x0 x1) ⟨b0, b1, s0, s1, trivial, b2, s2, s3, b3, rfl, s4, s5, s6, s7, trivial⟩ (ih4 _ _ _ _ _ _ h K q)
          · rw [if_neg b3] at h
            replace b3 := Bool.eq_false_iff.2 b3
            obtain ⟨s4, s5, h⟩ := h
            by_cases b4 : (!ByteArray.toList (Prod.fst (Prod.snd (List.getD x0 (Int.toNat v7) (ByteArray.empty, ByteArray.empty, ByteArray.empty, ())))) == ByteArray.toList (Prod.fst (Prod.snd x1))) = true
            · rw [if_pos b4] at h
              obtain ⟨s6, s7, h⟩ := h
              obtain ⟨s8, h⟩ := h
              obtain ⟨s9, h⟩ := h
              exact AtV.runN tabOk ext34Ok mixed (p34_5 v6 v7 h1 x0 x1) ⟨b0, b1, s0, s1, trivial, b2, s2, s3, b3, s4, s5, b4, s6, s7, s8, s9, trivial⟩ (ih4 _ _ _ _ _ _ h K q)
            · rw [if_neg b4] at h
              replace b4 := Bool.eq_false_iff.2 b4
              obtain ⟨s6, h⟩ := h
              exact AtV.runN tabOk ext34Ok mixed (p34_6 v6 v7 h1 x0 x1) ⟨b0, b1, s0, s1, trivial, b2, s2, s3, b3, s4, s5, b4, s6, trivial⟩ (ih4 _ _ _ _ _ _ h K q)
      · rw [if_neg b1] at h
        replace b1 := Bool.eq_false_iff.2 b1
        obtain ⟨s0, s1, h⟩ := h
        by_cases b2 : (!ByteArray.toList (Prod.fst (List.getD x0 (Int.toNat v7) (ByteArray.empty, ByteArray.empty, ByteArray.empty, ()))) == ByteArray.toList (Prod.fst x1)) = true
        · rw [if_pos b2] at h
          obtain ⟨s2, s3, h⟩ := h
          obtain ⟨s4, h⟩ := h
          obtain ⟨s5, h⟩ := h
          exact AtV.runN tabOk ext34Ok mixed (p34_7 v6 v7 h1 x0 x1) ⟨b0, b1, rfl, s0, s1, b2, rfl, s2, s3, s4, s5, trivial⟩ (ih4 _ _ _ _ _ _ h K q)
        · rw [if_neg b2] at h
          replace b2 := Bool.eq_false_iff.2 b2
          obtain ⟨s2, s3, h⟩ := h
          by_cases b3 : (!ByteArray.toList (Prod.fst (Prod.snd (List.getD x0 (Int.toNat v7) (ByteArray.empty, ByteArray.empty, ByteArray.empty, ())))) == ByteArray.toList (Prod.fst (Prod.snd x1))) = true
          · rw [if_pos b3] at h
            obtain ⟨s4, s5, h⟩ := h
            obtain ⟨s6, h⟩ := h
            obtain ⟨s7, h⟩ := h
            exact AtV.runN tabOk ext34Ok mixed (p34_8 v6 v7 h1 x0 x1) ⟨b0, b1, rfl, s0, s1, b2, s2, s3, b3, s4, s5, s6, s7, trivial⟩ (ih4 _ _ _ _ _ _ h K q)
          · rw [if_neg b3] at h
            replace b3 := Bool.eq_false_iff.2 b3
            obtain ⟨s4, h⟩ := h
            exact AtV.runN tabOk ext34Ok mixed (p34_9 v6 v7 h1 x0 x1) ⟨b0, b1, rfl, s0, s1, b2, s2, s3, b3, s4, trivial⟩ (ih4 _ _ _ _ _ _ h K q)
    · rw [if_neg b0] at h
      replace b0 := Bool.eq_false_iff.2 b0
      by_cases b1 : (!v6) = true
      · rw [if_pos b1] at h
        obtain ⟨s0, h⟩ := h
        subst h
        exact AtV.fin Try.func34 tabOk ext34Ok mixed (p34_10 v6 v7 h1 x0 x1) ⟨b0, b1, s0, trivial⟩
      · rw [if_neg b1] at h
        replace b1 := Bool.eq_false_iff.2 b1
        subst h
        exact AtV.fin Try.func34 tabOk ext34Ok mixed (p34_11 v6 v7 h1 x0 x1) ⟨b0, b1, trivial⟩



def st34 (t : (ByteArray × ByteArray × ByteArray × Unit)) (s : List (ByteArray × ByteArray × ByteArray × Unit) × Bool) (x : (ByteArray × ByteArray × ByteArray × Unit)) : List (ByteArray × ByteArray × ByteArray × Unit) × Bool :=
  (if (ByteArray.toList x.1 == ByteArray.toList t.1 && ByteArray.toList x.2.1 == ByteArray.toList t.2.1) = true then (if (!s.2 && !g32_0 x t) = true then s.1 ++ [t] else s.1) else (if (!s.2 && !g32_0 x t) = true then s.1 ++ [t] else s.1) ++ [x], s.2 || !g32_0 x t)

def fin34 (t : (ByteArray × ByteArray × ByteArray × Unit)) (s : List (ByteArray × ByteArray × ByteArray × Unit) × Bool) : List (ByteArray × ByteArray × ByteArray × Unit) := if s.2 = true then s.1 else s.1 ++ [t]
def g34_0 (x0 : List (ByteArray × ByteArray × ByteArray × Unit)) (x1 : (ByteArray × ByteArray × ByteArray × Unit)) : List (ByteArray × ByteArray × ByteArray × Unit) := fin34 x1 (x0.foldl (st34 x1) ([], false))
def P34 (x0 : List (ByteArray × ByteArray × ByteArray × Unit)) (x1 : (ByteArray × ByteArray × ByteArray × Unit)) : Prop := x0.length ≤ 1048576

theorem stl34 (t : (ByteArray × ByteArray × ByteArray × Unit)) (s : List (ByteArray × ByteArray × ByteArray × Unit) × Bool) (x : (ByteArray × ByteArray × ByteArray × Unit)) (i : Nat) (h : s.1.length ≤ 2 * i) : (st34 t s x).1.length ≤ 2 * (i + 1) := by
  unfold st34
  cases (ByteArray.toList x.1 == ByteArray.toList t.1 && ByteArray.toList x.2.1 == ByteArray.toList t.2.1) <;> cases (!s.2 && !g32_0 x t) <;> simp <;> omega

set_option maxHeartbeats 1000000 in
theorem top34 (x0 : List (ByteArray × ByteArray × ByteArray × Unit)) (x1 : (ByteArray × ByteArray × ByteArray × Unit)) (hp : P34 x0 x1) : R34 (x0.length + 1 + 1) x0 x1 [⟨.sl (.cons .str (.cons .str (.cons .str .unit))), g34_0 x0 x1⟩] := by
  have hl : x0.length ≤ 1048576 := hp
  have hm : x0.length ≤ maxLen := by unfold maxLen; omega
  rw [R34]
  have key : ∀ d : List Dyn, d = [(⟨.sl (.cons .str (.cons .str (.cons .str .unit))), fin34 x1 (x0.foldl (st34 x1) ([], false))⟩ : Dyn)] → R34_4 (x0.length + 1) false 0 [] x0 x1 d → R34_4 (x0.length + 1) false 0 [] x0 x1 [⟨.sl (.cons .str (.cons .str (.cons .str .unit))), g34_0 x0 x1⟩] := fun d hd h => by rw [hd] at h; exact h
  refine key _ rfl ?_
  clear key
  refine loop_fold (β := List (ByteArray × ByteArray × ByteArray × Unit) × Bool) (δ := List Dyn) (b := ([], false)) x0 (ByteArray.empty, ByteArray.empty, ByteArray.empty, ()) (st34 x1) (fun s => [(⟨.sl (.cons .str (.cons .str (.cons .str .unit))), fin34 x1 s⟩ : Dyn)]) (fun n s => s.1.length ≤ 2 * n) (fun n i s ds => R34_4 n s.2 i s.1 x0 x1 ds) (by simp) (fun n s hs => ?_) (fun n i s hi hs => ⟨stl34 x1 s _ i hs, fun ds hr => ?_⟩)
  · show R34_4 (n + 1) s.2 (x0.length : Int) s.1 x0 x1 _
    rw [R34_4, if_neg (by simp)]
    obtain ⟨h, d⟩ := s
    simp only at hs ⊢
    unfold fin34
    cases d with
    | true => simp
    | false =>
      exact ⟨by omega, rfl⟩
  · have hup := inR_up hm hi
    obtain ⟨h, d⟩ := s
    simp only at hs
    have b0 : (0 : Int) ≤ (i : Int) := by omega
    have b1 : (i : Int) < (x0.length : Int) := by omega
    have c1 : ((h.length + 1 : Nat) : Nat) * 48 ≤ 140737488355328 := by omega
    have c2 : ((h ++ [x1]).length + 1) * 48 ≤ 140737488355328 := by
      have e : (h ++ [x1]).length = h.length + 1 := by rw [List.length_append, List.length_singleton]
      omega
    show R34_4 (n + 1) d (i : Int) h x0 x1 ds
    rw [R34_4, if_pos (by simp only [decide_eq_true_eq]; omega)]
    unfold st34 at hr
    simp only [Int.toNat_natCast] at hr ⊢
    generalize x0.getD i (ByteArray.empty, ByteArray.empty, ByteArray.empty, ()) = y at *
    cases d <;> cases hb : g32_0 y x1 <;> cases hk : (ByteArray.toList y.1 == ByteArray.toList x1.1) <;> cases hn : (ByteArray.toList y.2.1 == ByteArray.toList x1.2.1) <;>
      simp only [hb, hk, hn, Bool.not_true, Bool.not_false, Bool.and_true, Bool.and_false, Bool.true_and, Bool.false_and, Bool.or_true, Bool.or_false, Bool.true_or, Bool.false_or, if_true, if_false, Bool.false_eq_true, b0, b1, c1, c2, hup, true_and] at hr ⊢ <;> exact hr

def S34 : Am.Spec := { sig := sig34, pre := fun ⟨x0, x1, _⟩ => P34 x0 x1, res := fun ⟨x0, x1, _⟩ => [⟨.sl (.cons .str (.cons .str (.cons .str .unit))), g34_0 x0 x1⟩] }
theorem con34 : Contract Try.prog 34 S34 := contract_of Try.func34 hb34 (Nat.le_of_ble_eq_true (by kernel_rfl)) (fun ⟨x0, x1, _⟩ h hwf K q =>
  (snd34 _).1 x0 x1 _ (top34 x0 x1 h) K q)

theorem len34 (x0 : List (ByteArray × ByteArray × ByteArray × Unit)) (x1 : (ByteArray × ByteArray × ByteArray × Unit)) : (g34_0 x0 x1).length ≤ x0.length + 1 := by
  have key : ∀ (l : List (ByteArray × ByteArray × ByteArray × Unit)) (s : List (ByteArray × ByteArray × ByteArray × Unit) × Bool) (n : Nat), s.1.length ≤ n + (if s.2 = true then 1 else 0) → (l.foldl (st34 x1) s).1.length ≤ n + l.length + (if (l.foldl (st34 x1) s).2 = true then 1 else 0) := by
    intro l
    induction l with
    | nil => intro s n h; exact h
    | cons y r ih =>
      intro s n h
      rw [List.foldl_cons]
      have := ih (st34 x1 s y) (n + 1) (by
        obtain ⟨a, d⟩ := s
        simp only at h
        unfold st34
        cases (ByteArray.toList y.1 == ByteArray.toList x1.1 && ByteArray.toList y.2.1 == ByteArray.toList x1.2.1) <;> cases g32_0 y x1 <;> cases d <;> simp at h ⊢ <;> omega)
      rw [List.length_cons]
      omega
  have := key x0 ([], false) 0 (by simp)
  unfold g34_0 fin34
  generalize x0.foldl (st34 x1) ([], false) = s at *
  obtain ⟨a, d⟩ := s
  cases d with
  | true => simp at this ⊢; omega
  | false => simp at this ⊢; omega

end Go.Proofs.Ytohojjcoikkmcaa

/- Function 24 (spec.PutBlock): its runs between cut points. Written by a program of this repo (gen). -/
set_option linter.unusedVariables false
set_option linter.unusedSimpArgs false
set_option maxRecDepth 100000
namespace Go.Proofs.Ytohojjcoikkmcaa
open Go Go.Am Go.Proofs
def ext24 : Ext := [(22, S22), (31, S31), (34, S34)]
theorem call24_22 : Callable Try.prog 22 := ⟨Try.f22, Try.func22, by kernel_rfl, by kernel_rfl⟩
theorem call24_31 : Callable Try.prog 31 := ⟨Try.f31, Try.func31, by kernel_rfl, by kernel_rfl⟩
theorem call24_34 : Callable Try.prog 34 := ⟨Try.f34, Try.func34, by kernel_rfl, by kernel_rfl⟩
theorem ext24Ok : ExtOk Try.prog ext24 := ⟨⟨call24_22, con22⟩, ⟨call24_31, con31⟩, ⟨call24_34, con34⟩, trivial⟩

noncomputable def b24 : Code := bodyOf Try.f24
theorem hb24 : Try.f24.body = some b24 := by kernel_rfl
def sig24 : List AT := [AT.v (Ty.sl (Ty.cons Ty.str (Ty.cons Ty.str (Ty.cons Ty.str Ty.unit)))), AT.v (Ty.cons Ty.str (Ty.cons Ty.str (Ty.cons Ty.str Ty.unit)))]
def tys24 : List Ty := [Ty.sl (Ty.cons Ty.str (Ty.cons Ty.str (Ty.cons Ty.str Ty.unit))), Ty.int IntKind.i64]
def kds24 : List RK := []
def oks24 : List AT := owns sig24
def P24 (x0 : List (ByteArray × ByteArray × ByteArray × Unit)) (x1 : ByteArray × ByteArray × ByteArray × Unit) : Prop := (if (!g22_0 x0) = true then True else (if (!g31_0 x1) = true then True else ((P34 x0 x1) ∧ True)))
def g24_0 (x0 : List (ByteArray × ByteArray × ByteArray × Unit)) (x1 : ByteArray × ByteArray × ByteArray × Unit) : List (ByteArray × ByteArray × ByteArray × Unit) := (if (!g22_0 x0) = true then [] else (if (!g31_0 x1) = true then [] else (if (Decidable.decide ((↑(List.length (g34_0 x0 x1)) : Int) > 32)) = true then [] else g34_0 x0 x1)))
def g24_1 (x0 : List (ByteArray × ByteArray × ByteArray × Unit)) (x1 : ByteArray × ByteArray × ByteArray × Unit) : Int := (if (!g22_0 x0) = true then 1 else (if (!g31_0 x1) = true then 1 else (if (Decidable.decide ((↑(List.length (g34_0 x0 x1)) : Int) > 32)) = true then 5 else 0)))
theorem p24_0 (x0 : List (ByteArray × ByteArray × ByteArray × Unit)) (x1 : ByteArray × ByteArray × ByteArray × Unit) : runF tab ext24 false 21 [] 2000 [] oks24 kds24 tys24 Try.f24.results [true, true] [.code b24] (entE 0 0 sig24 (x0, x1, ())) (entL sig24 (x0, x1, ())) = some ([Dyn.mk (Ty.sl (Ty.cons Ty.str (Ty.cons Ty.str (Ty.cons Ty.str Ty.unit)))) [], Dyn.mk (Ty.int IntKind.i64) 1], [], [True, (!g22_0 x0) = Bool.true, Bool.true = Bool.true]) := by kernel_rfl
theorem p24_1 (x0 : List (ByteArray × ByteArray × ByteArray × Unit)) (x1 : ByteArray × ByteArray × ByteArray × Unit) : runF tab ext24 false 21 [] 2000 [] oks24 kds24 tys24 Try.f24.results [false, true] [.code b24] (entE 0 0 sig24 (x0, x1, ())) (entL sig24 (x0, x1, ())) = some ([Dyn.mk (Ty.sl (Ty.cons Ty.str (Ty.cons Ty.str (Ty.cons Ty.str Ty.unit)))) [], Dyn.mk (Ty.int IntKind.i64) 1], [], [True, (!g22_0 x0) = Bool.false, True, (!g31_0 x1) = Bool.true]) := by kernel_rfl
theorem p24_2 (x0 : List (ByteArray × ByteArray × ByteArray × Unit)) (x1 : ByteArray × ByteArray × ByteArray × Unit) : runF tab ext24 false 21 [] 2000 [] oks24 kds24 tys24 Try.f24.results [false, false, true] [.code b24] (entE 0 0 sig24 (x0, x1, ())) (entL sig24 (x0, x1, ())) = some ([Dyn.mk (Ty.sl (Ty.cons Ty.str (Ty.cons Ty.str (Ty.cons Ty.str Ty.unit)))) [], Dyn.mk (Ty.int IntKind.i64) 5], [], [True, (!g22_0 x0) = Bool.false, True, (!g31_0 x1) = Bool.false, P34 x0 x1, Decidable.decide ((↑(List.length (g34_0 x0 x1)) : Int) > 32) = Bool.true]) := by kernel_rfl
theorem p24_3 (x0 : List (ByteArray × ByteArray × ByteArray × Unit)) (x1 : ByteArray × ByteArray × ByteArray × Unit) : runF tab ext24 false 21 [] 2000 [] oks24 kds24 tys24 Try.f24.results [false, false, false] [.code b24] (entE 0 0 sig24 (x0, x1, ())) (entL sig24 (x0, x1, ())) = some ([Dyn.mk (Ty.sl (Ty.cons Ty.str (Ty.cons Ty.str (Ty.cons Ty.str Ty.unit)))) (g34_0 x0 x1), Dyn.mk (Ty.int IntKind.i64) 0], [], [True, (!g22_0 x0) = Bool.false, True, (!g31_0 x1) = Bool.false, P34 x0 x1, Decidable.decide ((↑(List.length (g34_0 x0 x1)) : Int) > 32) = Bool.false]) := by kernel_rfl
theorem at24 (x0 : List (ByteArray × ByteArray × ByteArray × Unit)) (x1 : ByteArray × ByteArray × ByteArray × Unit) (h : P24 x0 x1) (K : Ctx) (q : Nat → Value) : AtV Try.prog 24 (PostR kds24 oks24 [⟨Ty.sl (Ty.cons Ty.str (Ty.cons Ty.str (Ty.cons Ty.str Ty.unit))), g24_0 x0 x1⟩, ⟨Ty.int IntKind.i64, g24_1 x0 x1⟩] [] [] q K) 21 K q [] [.code b24] (entE 0 0 sig24 (x0, x1, ())) (entL sig24 (x0, x1, ())) := by
  unfold P24 at h
  unfold g24_0 g24_1
  by_cases b0 : (!g22_0 x0) = true
  · try simp only [if_pos b0] at h ⊢
    exact AtV.fin Try.func24 tabOk ext24Ok mixed (p24_0 x0 x1) ⟨trivial, b0, rfl, trivial⟩
  · try simp only [if_neg b0] at h ⊢
    replace b0 := Bool.eq_false_iff.2 b0
    by_cases b1 : (!g31_0 x1) = true
    · try simp only [if_pos b1] at h ⊢
      exact AtV.fin Try.func24 tabOk ext24Ok mixed (p24_1 x0 x1) ⟨trivial, b0, trivial, b1, trivial⟩
    · try simp only [if_neg b1] at h ⊢
      replace b1 := Bool.eq_false_iff.2 b1
      obtain ⟨s0, h⟩ := h
      by_cases b2 : (Decidable.decide ((↑(List.length (g34_0 x0 x1)) : Int) > 32)) = true
      · try simp only [if_pos b2] at h ⊢
        exact AtV.fin Try.func24 tabOk ext24Ok mixed (p24_2 x0 x1) ⟨trivial, b0, trivial, b1, s0, b2, trivial⟩
      · try simp only [if_neg b2] at h ⊢
        replace b2 := Bool.eq_false_iff.2 b2
        exact AtV.fin Try.func24 tabOk ext24Ok mixed (p24_3 x0 x1) ⟨trivial, b0, trivial, b1, s0, b2, trivial⟩

def S24 : Am.Spec := { sig := sig24, pre := fun ⟨x0, x1, _⟩ => P24 x0 x1, res := fun ⟨x0, x1, _⟩ => [⟨Ty.sl (Ty.cons Ty.str (Ty.cons Ty.str (Ty.cons Ty.str Ty.unit))), g24_0 x0 x1⟩, ⟨Ty.int IntKind.i64, g24_1 x0 x1⟩], kds := kds24 }
theorem con24 : Contract Try.prog 24 S24 := contract_of Try.func24 hb24 (Nat.le_of_ble_eq_true (by kernel_rfl)) (fun ⟨x0, x1, _⟩ h _ K q => at24 x0 x1 h K q)


end Go.Proofs.Ytohojjcoikkmcaa

/- A law that says how functions of the program and of the specification hang together. -/
set_option linter.unusedVariables false
set_option linter.unusedSimpArgs false
set_option maxRecDepth 100000
namespace Go.Proofs.Ytohojjcoikkmcaa
open Go Go.Am Go.Proofs

theorem before_iff (a b : (ByteArray × ByteArray × ByteArray × Unit)) : g32_0 a b = true ↔ sless a.1 b.1 = true ∨ (a.1 = b.1 ∧ sless a.2.1 b.2.1 = true) := by
  unfold g32_0 sless
  have e := bytes_eq a.1 b.1
  cases h1 : Op.bytesLess (ByteArray.toList a.1) (ByteArray.toList b.1) with
  | true => simp
  | false =>
    cases h2 : (ByteArray.toList a.1 == ByteArray.toList b.1) with
    | true => rw [h2] at e; simp [e.1 rfl]
    | false =>
      rw [h2] at e
      have : a.1 ≠ b.1 := fun h => by have := e.2 h; cases this
      simp [this]

theorem before_trans {a b c : (ByteArray × ByteArray × ByteArray × Unit)} (h1 : g32_0 a b = true) (h2 : g32_0 b c = true) : g32_0 a c = true := by
  rw [before_iff] at *
  rcases h1 with h1 | ⟨e1, h1⟩
  · rcases h2 with h2 | ⟨e2, h2⟩
    · exact .inl (sless_trans h1 h2)
    · exact .inl (by rw [← e2]; exact h1)
  · rcases h2 with h2 | ⟨e2, h2⟩
    · exact .inl (by rw [e1]; exact h2)
    · exact .inr ⟨e1.trans e2, sless_trans h1 h2⟩


def twins (a b : (ByteArray × ByteArray × ByteArray × Unit)) : Prop := a.1 = b.1 ∧ a.2.1 = b.2.1

theorem before_twins {a b : (ByteArray × ByteArray × ByteArray × Unit)} (h : twins a b) : g32_0 a b = false := by
  rw [Bool.eq_false_iff]
  intro hb
  rw [before_iff, h.1, h.2, sless_irrefl, sless_irrefl] at hb
  simp at hb

theorem before_left {a b c : (ByteArray × ByteArray × ByteArray × Unit)} (h : twins b c) (hb : g32_0 a b = true) : g32_0 a c = true := by
  rw [before_iff] at *
  rw [← h.1, ← h.2]
  exact hb

theorem before_tri {a b : (ByteArray × ByteArray × ByteArray × Unit)} (h1 : g32_0 a b = false) (h2 : ¬ twins a b) : g32_0 b a = true := by
  rw [Bool.eq_false_iff, ne_eq, before_iff, not_or] at h1
  rw [before_iff]
  cases h3 : sless b.1 a.1 with
  | true => exact .inl rfl
  | false =>
    have e : a.1 = b.1 := sless_tri (Bool.eq_false_iff.2 h1.1) h3
    refine .inr ⟨e.symm, ?_⟩
    cases h4 : sless b.2.1 a.2.1 with
    | true => rfl
    | false =>
      exfalso
      refine h2 ⟨e, sless_tri (Bool.eq_false_iff.2 fun h => h1.2 ⟨e, h⟩) h4⟩


theorem allI_get {α : Type} {q : Nat → α → Bool} : ∀ {l : List α} {i : Nat}, allI q i l = true → ∀ (j : Nat) (h : j < l.length), q (i + j) l[j] = true
  | x :: r, i, h, j, hj => by
    simp only [allI, Bool.and_eq_true] at h
    cases j with
    | zero => exact h.1
    | succ j =>
      have := allI_get h.2 j (by simpa using hj)
      rw [show i + (j + 1) = i + 1 + j from by omega]
      exact this
  | [], _, _, j, hj => by cases hj

theorem sorted (x : List (ByteArray × ByteArray × ByteArray × Unit)) (h : g22_0 x = true) : x.length ≤ 32 ∧ ∀ i j : Nat, i < j → (hj : j < x.length) → g32_0 (x.getD i (ByteArray.empty, ByteArray.empty, ByteArray.empty, ())) (x.getD j (ByteArray.empty, ByteArray.empty, ByteArray.empty, ())) = true := by
  unfold g22_0 at h
  simp only [Bool.and_eq_true, decide_eq_true_eq] at h
  refine ⟨h.2, ?_⟩
  have step : ∀ j : Nat, j + 1 < x.length → g32_0 (x.getD j (ByteArray.empty, ByteArray.empty, ByteArray.empty, ())) (x.getD (j + 1) (ByteArray.empty, ByteArray.empty, ByteArray.empty, ())) = true := fun j hj => by
    have := allI_get h.1 (j + 1) hj
    rw [Nat.zero_add] at this
    unfold ok22 at this
    simp only [Bool.and_eq_true, Nat.add_sub_cancel] at this
    rw [getD_lt x (j + 1) _ hj]
    simpa using this.2
  intro i j hij
  induction j with
  | zero => omega
  | succ j ih =>
    intro hj
    rcases Nat.lt_or_ge i j with hlt | hge
    · exact before_trans (ih hlt (by omega)) (step j hj)
    · have : i = j := by omega
      subst this
      exact step i hj

theorem cut_atS (p : Nat → Bool) : ∀ N : Nat, (∀ i j, i < j → j < N → p j = true → p i = true) → ∃ k, k ≤ N ∧ ∀ i, i < N → p i = decide (i < k)
  | 0, _ => ⟨0, Nat.le_refl _, fun i h => by omega⟩
  | N + 1, hm => by
    obtain ⟨k, h1, h2⟩ := cut_atS p N (fun i j hij hj => hm i j hij (by omega))
    cases hp : p N with
    | true =>
      refine ⟨N + 1, Nat.le_refl _, fun i hi => ?_⟩
      rw [decide_eq_true hi]
      rcases Nat.lt_or_ge i N with h | h
      · exact hm i N h (by omega) hp
      · rw [show i = N from by omega]; exact hp
    | false =>
      refine ⟨k, by omega, fun i hi => ?_⟩
      rcases Nat.lt_or_ge i N with h | h
      · exact h2 i h
      · rw [show i = N from by omega, hp, decide_eq_false (by omega)]

end Go.Proofs.Ytohojjcoikkmcaa

/- A law that says how functions of the program and of the specification hang together. -/
set_option linter.unusedVariables false
set_option linter.unusedSimpArgs false
set_option maxRecDepth 100000
namespace Go.Proofs.Ytohojjcoikkmcaa
open Go Go.Am Go.Proofs


def Srt (x : List (ByteArray × ByteArray × ByteArray × Unit)) : Prop := ∀ i j : Nat, i < j → j < x.length → g32_0 (x.getD i (ByteArray.empty, ByteArray.empty, ByteArray.empty, ())) (x.getD j (ByteArray.empty, ByteArray.empty, ByteArray.empty, ())) = true

theorem twinB (y t : (ByteArray × ByteArray × ByteArray × Unit)) : (ByteArray.toList y.1 == ByteArray.toList t.1 && ByteArray.toList y.2.1 == ByteArray.toList t.2.1) = true ↔ twins y t := by
  unfold twins
  rw [Bool.and_eq_true, bytes_eq, bytes_eq]

theorem put_low (t : (ByteArray × ByteArray × ByteArray × Unit)) : ∀ (l h : List (ByteArray × ByteArray × ByteArray × Unit)), (∀ y ∈ l, g32_0 y t = true) → l.foldl (st34 t) (h, false) = (h ++ l, false)
  | [], h, _ => by simp
  | y :: r, h, hl => by
    have hb := hl y (List.mem_cons_self ..)
    have ht : ¬ twins y t := fun h => by rw [before_twins h] at hb; cases hb
    have hf : (ByteArray.toList y.1 == ByteArray.toList t.1 && ByteArray.toList y.2.1 == ByteArray.toList t.2.1) = false := Bool.eq_false_iff.2 fun h => ht ((twinB y t).1 h)
    have e : st34 t (h, false) y = (h ++ [y], false) := by
      unfold st34
      rw [hf, hb]
      rfl
    rw [List.foldl_cons, e, put_low t r (h ++ [y]) (fun z hz => hl z (List.mem_cons_of_mem _ hz))]
    simp

theorem put_high (t : (ByteArray × ByteArray × ByteArray × Unit)) : ∀ (l h : List (ByteArray × ByteArray × ByteArray × Unit)), (∀ y ∈ l, ¬ twins y t) → l.foldl (st34 t) (h, true) = (h ++ l, true)
  | [], h, _ => by simp
  | y :: r, h, hl => by
    have ht := hl y (List.mem_cons_self ..)
    have hf : (ByteArray.toList y.1 == ByteArray.toList t.1 && ByteArray.toList y.2.1 == ByteArray.toList t.2.1) = false := Bool.eq_false_iff.2 fun h => ht ((twinB y t).1 h)
    have e : st34 t (h, true) y = (h ++ [y], true) := by
      unfold st34
      rw [hf]
      rfl
    rw [List.foldl_cons, e, put_high t r (h ++ [y]) (fun z hz => hl z (List.mem_cons_of_mem _ hz))]
    simp

theorem mem_take_get {x : List (ByteArray × ByteArray × ByteArray × Unit)} {K : Nat} {y : (ByteArray × ByteArray × ByteArray × Unit)} (h : y ∈ x.take K) : ∃ i, i < K ∧ i < x.length ∧ y = x.getD i (ByteArray.empty, ByteArray.empty, ByteArray.empty, ()) := by
  obtain ⟨i, hi, rfl⟩ := List.mem_iff_getElem.1 h
  rw [List.length_take] at hi
  exact ⟨i, by omega, by omega, by rw [List.getElem_take, getD_lt _ _ _ (by omega)]⟩

theorem mem_drop_get {x : List (ByteArray × ByteArray × ByteArray × Unit)} {K : Nat} {y : (ByteArray × ByteArray × ByteArray × Unit)} (h : y ∈ x.drop K) : ∃ i, K ≤ i ∧ i < x.length ∧ y = x.getD i (ByteArray.empty, ByteArray.empty, ByteArray.empty, ()) := by
  obtain ⟨i, hi, rfl⟩ := List.mem_iff_getElem.1 h
  rw [List.length_drop] at hi
  exact ⟨K + i, by omega, by omega, by rw [List.getElem_drop, getD_lt _ _ _ (by omega)]⟩

open Classical in
theorem put_at (x : List (ByteArray × ByteArray × ByteArray × Unit)) (t : (ByteArray × ByteArray × ByteArray × Unit)) (hs : Srt x) (K : Nat) (hK : K ≤ x.length) (h1 : ∀ i, i < K → g32_0 (x.getD i (ByteArray.empty, ByteArray.empty, ByteArray.empty, ())) t = true) (h2 : ∀ i, K ≤ i → i < x.length → g32_0 (x.getD i (ByteArray.empty, ByteArray.empty, ByteArray.empty, ())) t = false) :
    g34_0 x t = if K < x.length ∧ twins (x.getD K (ByteArray.empty, ByteArray.empty, ByteArray.empty, ())) t then x.take K ++ t :: x.drop (K + 1) else x.take K ++ t :: x.drop K := by
  unfold g34_0
  have e : x.foldl (st34 t) ([], false) = (x.drop K).foldl (st34 t) (x.take K, false) := by
    conv => lhs; rw [← List.take_append_drop K x]
    rw [List.foldl_append, put_low t _ _ (fun y hy => by
      obtain ⟨i, hi, _, rfl⟩ := mem_take_get hy
      exact h1 i hi)]
    rfl
  rw [e]
  by_cases hlt : K < x.length
  · have hd : x.drop K = x.getD K (ByteArray.empty, ByteArray.empty, ByteArray.empty, ()) :: x.drop (K + 1) := drop_get x K _ hlt
    have hb := h2 K (Nat.le_refl _) hlt
    have hrest : ∀ y ∈ x.drop (K + 1), ¬ twins y t := fun y hy ht => by
      obtain ⟨i, hi, hl, rfl⟩ := mem_drop_get hy
      have := before_left ht (hs K i (by omega) hl)
      rw [hb] at this
      cases this
    rw [hd, List.foldl_cons]
    by_cases htw : twins (x.getD K (ByteArray.empty, ByteArray.empty, ByteArray.empty, ())) t
    · have e2 : st34 t (x.take K, false) (x.getD K (ByteArray.empty, ByteArray.empty, ByteArray.empty, ())) = (x.take K ++ [t], true) := by
        unfold st34
        rw [(twinB _ t).2 htw, hb]
        rfl
      rw [e2, put_high t _ _ hrest, if_pos ⟨hlt, htw⟩]
      simp [fin34]
    · have hf : (ByteArray.toList (x.getD K (ByteArray.empty, ByteArray.empty, ByteArray.empty, ())).1 == ByteArray.toList t.1 && ByteArray.toList (x.getD K (ByteArray.empty, ByteArray.empty, ByteArray.empty, ())).2.1 == ByteArray.toList t.2.1) = false := Bool.eq_false_iff.2 fun h => htw ((twinB _ t).1 h)
      have e2 : st34 t (x.take K, false) (x.getD K (ByteArray.empty, ByteArray.empty, ByteArray.empty, ())) = (x.take K ++ [t] ++ [x.getD K (ByteArray.empty, ByteArray.empty, ByteArray.empty, ())], true) := by
        unfold st34
        rw [hf, hb]
        rfl
      rw [e2, put_high t _ _ hrest, if_neg (fun h => htw h.2)]
      simp [fin34]
  · have : K = x.length := by omega
    rw [List.drop_of_length_le (by omega), if_neg (fun h => hlt h.1)]
    simp [fin34]

theorem before_right {a b c : (ByteArray × ByteArray × ByteArray × Unit)} (h : twins a b) (hb : g32_0 a c = true) : g32_0 b c = true := by
  rw [before_iff] at *
  rw [← h.1, ← h.2]
  exact hb

theorem srt_join {a b : List (ByteArray × ByteArray × ByteArray × Unit)} {t : (ByteArray × ByteArray × ByteArray × Unit)} (ha : Srt a) (hb : Srt b) (h1 : ∀ y ∈ a, g32_0 y t = true) (h2 : ∀ y ∈ b, g32_0 t y = true) : Srt (a ++ t :: b) := by
  have get : ∀ i, i < (a ++ t :: b).length → (i < a.length ∧ (a ++ t :: b).getD i (ByteArray.empty, ByteArray.empty, ByteArray.empty, ()) = a.getD i (ByteArray.empty, ByteArray.empty, ByteArray.empty, ())) ∨ (i = a.length ∧ (a ++ t :: b).getD i (ByteArray.empty, ByteArray.empty, ByteArray.empty, ()) = t) ∨ (a.length < i ∧ i - a.length - 1 < b.length ∧ (a ++ t :: b).getD i (ByteArray.empty, ByteArray.empty, ByteArray.empty, ()) = b.getD (i - a.length - 1) (ByteArray.empty, ByteArray.empty, ByteArray.empty, ())) := fun i hi => by
    simp only [List.length_append, List.length_cons] at hi
    rw [List.getD_eq_getElem?_getD]
    rcases Nat.lt_trichotomy i a.length with h | h | h
    · left; refine ⟨h, ?_⟩; rw [List.getElem?_append_left h, List.getD_eq_getElem?_getD]
    · right; left; refine ⟨h, ?_⟩; rw [List.getElem?_append_right (by omega), h, Nat.sub_self]; rfl
    · right; right
      obtain ⟨m, hm⟩ : ∃ m, i - a.length = m + 1 := ⟨i - a.length - 1, by omega⟩
      refine ⟨h, by omega, ?_⟩
      rw [List.getElem?_append_right (by omega), hm, List.getElem?_cons_succ, Nat.add_sub_cancel, List.getD_eq_getElem?_getD]
  have mem : ∀ (l : List (ByteArray × ByteArray × ByteArray × Unit)) i, i < l.length → l.getD i (ByteArray.empty, ByteArray.empty, ByteArray.empty, ()) ∈ l := fun l i hi => by rw [getD_lt _ _ _ hi]; exact List.getElem_mem _
  intro i j hij hj
  rcases get i (by omega) with ⟨i1, ei⟩ | ⟨i1, ei⟩ | ⟨i1, i2, ei⟩ <;> rcases get j hj with ⟨j1, ej⟩ | ⟨j1, ej⟩ | ⟨j1, j2, ej⟩ <;> rw [ei, ej]
  · exact ha i j hij j1
  · exact h1 _ (mem a i i1)
  · exact before_trans (h1 _ (mem a i i1)) (h2 _ (mem b _ j2))
  · omega
  · omega
  · exact h2 _ (mem b _ j2)
  · omega
  · omega
  · exact hb _ _ (by omega) j2

theorem srt_take {x : List (ByteArray × ByteArray × ByteArray × Unit)} (h : Srt x) (K : Nat) : Srt (x.take K) := fun i j hij hj => by
  rw [List.length_take] at hj
  have := h i j hij (by omega)
  rw [getD_lt _ _ _ (by omega), getD_lt _ _ _ (by omega)] at this
  rw [getD_lt _ _ _ (by rw [List.length_take]; omega), getD_lt _ _ _ (by rw [List.length_take]; omega), List.getElem_take, List.getElem_take]
  exact this

theorem srt_drop {x : List (ByteArray × ByteArray × ByteArray × Unit)} (h : Srt x) (K : Nat) : Srt (x.drop K) := fun i j hij hj => by
  rw [List.length_drop] at hj
  have := h (K + i) (K + j) (by omega) (by omega)
  rw [getD_lt _ _ _ (by omega), getD_lt _ _ _ (by omega)] at this
  rw [getD_lt _ _ _ (by rw [List.length_drop]; omega), getD_lt _ _ _ (by rw [List.length_drop]; omega), List.getElem_drop, List.getElem_drop]
  exact this

theorem low_before {x : List (ByteArray × ByteArray × ByteArray × Unit)} {t : (ByteArray × ByteArray × ByteArray × Unit)} {K : Nat} (p2 : ∀ i, i < K → g32_0 (x.getD i (ByteArray.empty, ByteArray.empty, ByteArray.empty, ())) t = true) : ∀ y ∈ x.take K, g32_0 y t = true := fun y hy => by
  obtain ⟨i, hi, _, rfl⟩ := mem_take_get hy
  exact p2 i hi

theorem place_ex (x : List (ByteArray × ByteArray × ByteArray × Unit)) (t : (ByteArray × ByteArray × ByteArray × Unit)) (hs : Srt x) : ∃ K, K ≤ x.length ∧ (∀ i, i < K → g32_0 (x.getD i (ByteArray.empty, ByteArray.empty, ByteArray.empty, ())) t = true) ∧ (∀ i, K ≤ i → i < x.length → g32_0 (x.getD i (ByteArray.empty, ByteArray.empty, ByteArray.empty, ())) t = false) := by
  obtain ⟨k, hk1, hk2⟩ := cut_atS (fun i => g32_0 (x.getD i (ByteArray.empty, ByteArray.empty, ByteArray.empty, ())) t) x.length (fun i j hij hj h => before_trans (hs i j hij hj) h)
  exact ⟨k, hk1, fun i hi => by rw [hk2 i (by omega)]; simpa using hi, fun i hi hl => by rw [hk2 i hl]; simpa using hi⟩

theorem put_parts (x : List (ByteArray × ByteArray × ByteArray × Unit)) (t : (ByteArray × ByteArray × ByteArray × Unit)) (hs : Srt x) : ∃ a b : List (ByteArray × ByteArray × ByteArray × Unit), g34_0 x t = a ++ t :: b ∧ (∀ y ∈ a, y ∈ x ∧ g32_0 y t = true) ∧ (∀ y ∈ b, y ∈ x ∧ g32_0 t y = true) ∧ (∀ y ∈ x, ¬ twins y t → y ∈ a ++ b) ∧ Srt (a ++ t :: b) ∧ (x = a ++ b ∨ ∃ y, twins y t ∧ x = a ++ y :: b) := by
  obtain ⟨K, p1, p2, p3⟩ := place_ex x t hs
  have e := put_at x t hs K p1 p2 p3
  have low := low_before p2
  by_cases h : K < x.length ∧ twins (x.getD K (ByteArray.empty, ByteArray.empty, ByteArray.empty, ())) t
  · rw [if_pos h] at e
    have hd : x.drop K = x.getD K (ByteArray.empty, ByteArray.empty, ByteArray.empty, ()) :: x.drop (K + 1) := drop_get x K _ h.1
    have ex : x = x.take K ++ x.getD K (ByteArray.empty, ByteArray.empty, ByteArray.empty, ()) :: x.drop (K + 1) := by rw [← hd, List.take_append_drop]
    have hb : ∀ y ∈ x.drop (K + 1), g32_0 t y = true := fun y hy => by
      obtain ⟨i, hi, hl, rfl⟩ := mem_drop_get hy
      exact before_right h.2 (hs K i (by omega) hl)
    refine ⟨x.take K, x.drop (K + 1), e, fun y hy => ⟨List.mem_of_mem_take hy, low y hy⟩, fun y hy => ⟨List.mem_of_mem_drop hy, hb y hy⟩, fun y hy hn => ?_, srt_join (srt_take hs K) (srt_drop hs _) low hb, .inr ⟨_, h.2, ex⟩⟩
    rw [ex] at hy
    rcases List.mem_append.1 hy with hy | hy
    · exact List.mem_append_left _ hy
    · rcases List.mem_cons.1 hy with rfl | hy
      · exact absurd h.2 hn
      · exact List.mem_append_right _ hy
  · rw [if_neg h] at e
    have hb : ∀ y ∈ x.drop K, g32_0 t y = true := fun y hy => by
      obtain ⟨i, hi, hl, rfl⟩ := mem_drop_get hy
      refine before_tri (p3 i hi hl) (fun ht => ?_)
      rcases Nat.lt_or_ge K i with hlt | hge
      · have := before_left ht (hs K i hlt hl)
        rw [p3 K (Nat.le_refl _) (by omega)] at this
        cases this
      · have : i = K := by omega
        subst this
        exact h ⟨hl, ht⟩
    refine ⟨x.take K, x.drop K, e, fun y hy => ⟨List.mem_of_mem_take hy, low y hy⟩, fun y hy => ⟨List.mem_of_mem_drop hy, hb y hy⟩, fun y hy hn => ?_, srt_join (srt_take hs K) (srt_drop hs _) low hb, .inl (List.take_append_drop K x).symm⟩
    rw [List.take_append_drop]
    exact hy

theorem srt_step {x : List (ByteArray × ByteArray × ByteArray × Unit)} (h : Srt x) (j : Nat) (hj : j + 1 < x.length) : g32_0 (x.getD j (ByteArray.empty, ByteArray.empty, ByteArray.empty, ())) (x.getD (j + 1) (ByteArray.empty, ByteArray.empty, ByteArray.empty, ())) = true := h j (j + 1) (by omega) hj

theorem allI_of {α : Type} {q : Nat → α → Bool} : ∀ {l : List α} {i : Nat}, (∀ (j : Nat) (h : j < l.length), q (i + j) l[j] = true) → allI q i l = true
  | [], _, _ => rfl
  | x :: r, i, h => by
    simp only [allI, Bool.and_eq_true]
    refine ⟨h 0 (by simp), allI_of fun j hj => ?_⟩
    have := h (j + 1) (by simpa using hj)
    rw [show i + (j + 1) = i + 1 + j from by omega] at this
    exact this

theorem ok_of_srt {x : List (ByteArray × ByteArray × ByteArray × Unit)} (h1 : ∀ y ∈ x, g31_0 y = true) (h2 : Srt x) (h3 : x.length ≤ 32) : g22_0 x = true := by
  unfold g22_0
  rw [decide_eq_true h3, Bool.and_true]
  refine allI_of fun j hj => ?_
  unfold ok22
  rw [Nat.zero_add, h1 _ (List.getElem_mem hj), Bool.true_and]
  cases j with
  | zero => rfl
  | succ j =>
    have := srt_step h2 j hj
    rw [getD_lt x (j + 1) _ hj] at this
    simp only [Nat.add_sub_cancel]
    rw [this, Bool.or_true]

theorem ok_one {x : List (ByteArray × ByteArray × ByteArray × Unit)} (h : g22_0 x = true) : ∀ y ∈ x, g31_0 y = true := fun y hy => by
  unfold g22_0 at h
  rw [Bool.and_eq_true] at h
  obtain ⟨j, hj, rfl⟩ := List.mem_iff_getElem.1 hy
  have := allI_get h.1 j hj
  unfold ok22 at this
  rw [Bool.and_eq_true] at this
  exact this.1

theorem ok_srt {x : List (ByteArray × ByteArray × ByteArray × Unit)} (h : g22_0 x = true) : Srt x := fun i j hij hj => (sorted x h).2 i j hij hj

end Go.Proofs.Ytohojjcoikkmcaa

/- Function 14 (spec.l29Draw): its runs between cut points. Written by a program of this repo (gen). -/
set_option linter.unusedVariables false
set_option linter.unusedSimpArgs false
set_option maxRecDepth 100000
namespace Go.Proofs.Ytohojjcoikkmcaa
open Go Go.Am Go.Proofs
noncomputable section
def ext14 : Ext := [(23, S23), (25, S25), (24, S24)]
theorem call14_23 : Callable Try.prog 23 := ⟨Try.f23, Try.func23, by kernel_rfl, by kernel_rfl⟩
theorem call14_25 : Callable Try.prog 25 := ⟨Try.f25, Try.func25, by kernel_rfl, by kernel_rfl⟩
theorem call14_24 : Callable Try.prog 24 := ⟨Try.f24, Try.func24, by kernel_rfl, by kernel_rfl⟩
theorem ext14Ok : ExtOk Try.prog ext14 := ⟨⟨call14_23, con23⟩, ⟨call14_25, con25⟩, ⟨call14_24, con24⟩, trivial⟩

noncomputable def b14 : Code := bodyOf Try.f14
theorem hb14 : Try.f14.body = some b14 := by kernel_rfl
def sig14 : List AT := [AT.pb (Ty.cons (Ty.sl (Ty.int IntKind.u8)) (Ty.cons (Ty.int IntKind.i64) (Ty.cons (Ty.int IntKind.u64) Ty.unit)))]
def tys14 : List Ty := [Ty.sl (Ty.cons Ty.str (Ty.cons Ty.str (Ty.cons Ty.str Ty.unit)))]
def kds14 : List RK := []
def oks14 : List AT := owns sig14
def E14_3 (v4 : Int) (h0 : List Int × Int × Int × Unit) (h1 : List (ByteArray × ByteArray × ByteArray × Unit)) : Env := [(0, PV.a (Atom.optr 0 0 [])), (3, PV.a (Atom.osl 1 Option.none)), (4, PV.a (Atom.val (Value.int IntKind.i64 v4)))]
def L14_3 (v4 : Int) (h0 : List Int × Int × Int × Unit) (h1 : List (ByteArray × ByteArray × ByteArray × Unit)) : Heap := [Option.some (Arr.mk (Ty.cons (Ty.sl (Ty.int IntKind.u8)) (Ty.cons (Ty.int IntKind.i64) (Ty.cons (Ty.int IntKind.u64) Ty.unit))) [h0] Bool.true Option.none (Option.some Bool.true)), Option.some (Arr.mk (Ty.cons Ty.str (Ty.cons Ty.str (Ty.cons Ty.str Ty.unit))) h1 Bool.false Option.none Option.none)]
mutual
def R14 : Nat → List Int × Int × Int × Unit → List Dyn → List (Option Lst) → Prop
  | 0, _, _, _ => False
  | n + 1, x0, ds, us => ((P23 x0 6) ∧ (R14_3 n (g23_0 x0 6) (u23_0 x0 6) ([]) ds us))
def R14_3 : Nat → Int → List Int × Int × Int × Unit → List (ByteArray × ByteArray × ByteArray × Unit) → List Dyn → List (Option Lst) → Prop
  | 0, _, _, _, _, _ => False
  | n + 1, v4, h0, h1, ds, us => (if (Decidable.decide (v4 > 0)) = true then ((P25 h0) ∧ ((P24 h1 (g25_0 h0)) ∧ (if (g24_1 h1 (g25_0 h0) == 0) = true then ((InR IntKind.i64 (v4 - 1)) ∧ (R14_3 n (v4 - 1) (u25_0 h0) (g24_0 h1 (g25_0 h0)) ds us)) else ((InR IntKind.i64 (v4 - 1)) ∧ (R14_3 n (v4 - 1) (u25_0 h0) (h1) ds us))))) else (ds = [Dyn.mk (Ty.sl (Ty.cons Ty.str (Ty.cons Ty.str (Ty.cons Ty.str Ty.unit)))) h1] ∧ us = [Option.some (Lst.mk (Ty.cons (Ty.sl (Ty.int IntKind.u8)) (Ty.cons (Ty.int IntKind.i64) (Ty.cons (Ty.int IntKind.u64) Ty.unit))) [h0])]))
end
theorem p14_0 (x0 : List Int × Int × Int × Unit) : Am.runN tab ext14 false 25 [] 2000 [0] [] [0, 3, 4] [0, 1] [] [.code b14] (entE 0 0 sig14 (x0, ())) (entL sig14 (x0, ())) = some (cutAt b14 3, E14_3 (g23_0 x0 6) (u23_0 x0 6) ([]), L14_3 (g23_0 x0 6) (u23_0 x0 6) ([]), [P23 x0 6]) := by kernel_rfl
theorem p14_1 (v4 : Int) (h0 : List Int × Int × Int × Unit) (h1 : List (ByteArray × ByteArray × ByteArray × Unit)) : Am.runN tab ext14 false 25 [] 2000 [0] [] [0, 3, 4] [0, 2] [true, true] (cutAt b14 3) (E14_3 v4 h0 h1) (L14_3 v4 h0 h1) = some (cutAt b14 3, E14_3 (v4 - 1) (u25_0 h0) (g24_0 h1 (g25_0 h0)), L14_3 (v4 - 1) (u25_0 h0) (g24_0 h1 (g25_0 h0)), [Decidable.decide (v4 > 0) = Bool.true, P25 h0, P24 h1 (g25_0 h0), (g24_1 h1 (g25_0 h0) == 0) = Bool.true, InR IntKind.i64 (v4 - 1)]) := by kernel_rfl
theorem p14_2 (v4 : Int) (h0 : List Int × Int × Int × Unit) (h1 : List (ByteArray × ByteArray × ByteArray × Unit)) : Am.runN tab ext14 false 25 [] 2000 [0] [] [0, 3, 4] [0, 1] [true, false] (cutAt b14 3) (E14_3 v4 h0 h1) (L14_3 v4 h0 h1) = some (cutAt b14 3, E14_3 (v4 - 1) (u25_0 h0) (h1), L14_3 (v4 - 1) (u25_0 h0) (h1), [Decidable.decide (v4 > 0) = Bool.true, P25 h0, P24 h1 (g25_0 h0), (g24_1 h1 (g25_0 h0) == 0) = Bool.false, InR IntKind.i64 (v4 - 1)]) := by kernel_rfl
theorem p14_3 (v4 : Int) (h0 : List Int × Int × Int × Unit) (h1 : List (ByteArray × ByteArray × ByteArray × Unit)) : runF tab ext14 false 25 [] 2000 [0] oks14 kds14 tys14 Try.f14.results [false] (cutAt b14 3) (E14_3 v4 h0 h1) (L14_3 v4 h0 h1) = some ([Dyn.mk (Ty.sl (Ty.cons Ty.str (Ty.cons Ty.str (Ty.cons Ty.str Ty.unit)))) h1], [Option.some (Lst.mk (Ty.cons (Ty.sl (Ty.int IntKind.u8)) (Ty.cons (Ty.int IntKind.i64) (Ty.cons (Ty.int IntKind.u64) Ty.unit))) [h0])], [Decidable.decide (v4 > 0) = Bool.false]) := by kernel_rfl
theorem snd14 : ∀ n, (∀ (x0 : List Int × Int × Int × Unit) ds us, R14 n x0 ds us → ∀ K q, AtV Try.prog 14 (PostR kds14 oks14 ds us [0] q K) 25 K q [0] [.code b14] (entE 0 0 sig14 (x0, ())) (entL sig14 (x0, ()))) ∧ (∀ (v4 : Int) (h0 : List Int × Int × Int × Unit) (h1 : List (ByteArray × ByteArray × ByteArray × Unit)) ds us, R14_3 n v4 h0 h1 ds us → ∀ K q, AtV Try.prog 14 (PostR kds14 oks14 ds us [0] q K) 25 K q [0] (cutAt b14 3) (E14_3 v4 h0 h1) (L14_3 v4 h0 h1)) := by
  intro n
  induction n with
  | zero => exact ⟨fun _ _ _ h => by simp only [R14] at h, fun _ _ _ _ _ h => by simp only [R14_3] at h⟩
  | succ n ih =>
  obtain ⟨ih, ih3⟩ := ih
  refine ⟨?_, ?_⟩
  · intro x0 ds us h K q
    rw [R14] at h
    obtain ⟨s0, h⟩ := h
    exact AtV.runN tabOk ext14Ok mixed (p14_0 x0) ⟨s0, trivial⟩ (ih3 _ _ _ _ _ h K q)

  · intro v4 h0 h1 ds us h K q
    rw [R14_3] at h
    by_cases b0 : (Decidable.decide (v4 > 0)) = true
    · rw [if_pos b0] at h
      obtain ⟨s0, h⟩ := h
      obtain ⟨s1, h⟩ := h
      by_cases b1 : (g24_1 h1 (g25_0 h0) == 0) = true
      · rw [if_pos b1] at h
        obtain ⟨s2, h⟩ := h
        exact AtV.runN tabOk ext14Ok mixed (p14_1 v4 h0 h1) ⟨b0, s0, s1, b1, s2, trivial⟩ (ih3 _ _ _ _ _ h K q)
      · rw [if_neg b1] at h
        replace b1 := Bool.eq_false_iff.2 b1
        obtain ⟨s2, h⟩ := h
        exact AtV.runN tabOk ext14Ok mixed (p14_2 v4 h0 h1) ⟨b0, s0, s1, b1, s2, trivial⟩ (ih3 _ _ _ _ _ h K q)
    · rw [if_neg b0] at h
      replace b0 := Bool.eq_false_iff.2 b0
      obtain ⟨h, h'⟩ := h; subst h; subst h'
      exact AtV.fin Try.func14 tabOk ext14Ok mixed (p14_3 v4 h0 h1) ⟨b0, trivial⟩



def P14 (x0 : (List Int × Int × Int × Unit)) : Prop := SrcOk 800000000 x0
def kin14 : List ByteArray := [ByteArray.mk #[99, 104, 101, 99, 107], ByteArray.mk #[110, 111, 116, 101], ByteArray.mk #[102, 97, 99, 101]]
def Q14 (x0 : (List Int × Int × Int × Unit)) (y : List (ByteArray × ByteArray × ByteArray × Unit)) (s : (List Int × Int × Int × Unit)) : Prop := SrcOk (x0.2.1 + 20000) s ∧ g22_0 y = true ∧ y.length ≤ 5 ∧ (∀ b ∈ y, b.1 ∈ kin14) ∧ ∃ n, R14 n x0 [⟨.sl (.cons .str (.cons .str (.cons .str .unit))), y⟩] [some ⟨(.cons (.sl (.int .u8)) (.cons (.int .i64) (.cons (.int .u64) .unit))), [s]⟩]

theorem step14 {h : List (ByteArray × ByteArray × ByteArray × Unit)} {b : (ByteArray × ByteArray × ByteArray × Unit)} (hok : g22_0 h = true) (hk : ∀ b ∈ h, b.1 ∈ kin14) (hb : b.1 ∈ kin14) (hc : (g24_1 h b == 0) = true) :
    g22_0 (g24_0 h b) = true ∧ (g24_0 h b).length ≤ h.length + 1 ∧ ∀ c ∈ g24_0 h b, c.1 ∈ kin14 := by
  unfold g24_1 at hc
  unfold g24_0
  rw [hok] at hc ⊢
  cases h1 : g31_0 b with
  | false => rw [h1] at hc; simp at hc
  | true =>
    rw [h1] at hc
    by_cases h2 : ((g34_0 h b).length : Int) > 32
    · rw [decide_eq_true h2] at hc; simp at hc
    · rw [decide_eq_false h2]
      simp only [Bool.not_true, Bool.false_eq_true, if_false]
      obtain ⟨a, d, e, ha, hd, _, hs, hx⟩ := put_parts h b (ok_srt hok)
      have hall : ∀ c ∈ g34_0 h b, c ∈ h ∨ c = b := fun c hc => by
        rw [e] at hc
        rcases List.mem_append.1 hc with hc | hc
        · exact .inl (ha c hc).1
        · rcases List.mem_cons.1 hc with rfl | hc
          · exact .inr rfl
          · exact .inl (hd c hc).1
      refine ⟨ok_of_srt (fun c hc => ?_) (by rw [e]; exact hs) (by omega), len34 h b, fun c hc => ?_⟩
      · rcases hall c hc with hc | rfl
        · exact ok_one hok c hc
        · exact h1
      · rcases hall c hc with hc | rfl
        · exact hk c hc
        · exact hb

theorem run14 : ∀ (k : Nat) (v : Int) (s : (List Int × Int × Int × Unit)) (h : List (ByteArray × ByteArray × ByteArray × Unit)) (m : Int), v = (k : Int) → SrcOk m s → m + 2000 * (k : Int) ≤ 890000000 → g22_0 h = true → (∀ b ∈ h, b.1 ∈ kin14) →
    ∃ (y : List (ByteArray × ByteArray × ByteArray × Unit)) (t : (List Int × Int × Int × Unit)), SrcOk (m + 2000 * (k : Int)) t ∧ g22_0 y = true ∧ y.length ≤ h.length + k ∧ (∀ b ∈ y, b.1 ∈ kin14) ∧ R14_3 (k + 1) v s h [⟨.sl (.cons .str (.cons .str (.cons .str .unit))), y⟩] [some ⟨(.cons (.sl (.int .u8)) (.cons (.int .i64) (.cons (.int .u64) .unit))), [t]⟩] := by
  intro k
  induction k with
  | zero =>
    intro v s h m hv hs hm hok hk
    refine ⟨h, s, hs.up (by omega), hok, by omega, hk, ?_⟩
    rw [R14_3, if_neg (by simp only [decide_eq_true_eq]; omega)]
    exact ⟨rfl, rfl⟩
  | succ k ih =>
    intro v s h m hv hs hm hok hk
    have p1 : P25 s := hs.up (by omega)
    obtain ⟨s1, k1, _, _⟩ := q25 s p1
    have hat := hs.2.2
    have hat0 := hs.2.1
    have p2 : P24 h (g25_0 s) := by
      unfold P24
      have hl := (sorted h hok).1
      split
      · trivial
      · split
        · trivial
        · exact ⟨(show h.length ≤ 1048576 from by omega), trivial⟩
    have hv' : v - 1 = ((k : Nat) : Int) := by omega
    by_cases hc : (g24_1 h (g25_0 s) == 0) = true
    · obtain ⟨a1, a2, a3⟩ := step14 hok hk k1 hc
      obtain ⟨y, t, b1, b2, b3, b4, b5⟩ := ih (v - 1) _ _ (m + 2000) hv' (s1.up (by omega)) (by omega) a1 a3
      refine ⟨y, t, b1.up (by omega), b2, by omega, b4, ?_⟩
      rw [R14_3, if_pos (by simp only [decide_eq_true_eq]; omega)]
      refine ⟨p1, p2, ?_⟩
      rw [if_pos hc]
      exact ⟨by rw [i64_iff]; omega, b5⟩
    · obtain ⟨y, t, b1, b2, b3, b4, b5⟩ := ih (v - 1) _ _ (m + 2000) hv' (s1.up (by omega)) (by omega) hok hk
      refine ⟨y, t, b1.up (by omega), b2, by omega, b4, ?_⟩
      rw [R14_3, if_pos (by simp only [decide_eq_true_eq]; omega)]
      refine ⟨p1, p2, ?_⟩
      rw [if_neg hc]
      exact ⟨by rw [i64_iff]; omega, b5⟩

theorem ex14 (x0 : (List Int × Int × Int × Unit)) (h : P14 x0) : ∃ y s, Q14 x0 y s := by
  have h0 : x0.2.1 ≤ 800000000 := h.2.2
  obtain ⟨p1, s1, a, b, _⟩ := pick_ok (SrcOk.self h) 6 (by omega)
  have b := b (by decide)
  obtain ⟨y, t, b1, b2, b3, b4, b5⟩ := run14 (g23_0 x0 6).toNat (g23_0 x0 6) _ [] _ (by omega) s1 (by omega) rfl (fun _ h => by cases h)
  simp only [List.length_nil] at b3
  refine ⟨y, t, b1.up (by omega), b2, by omega, b4, (g23_0 x0 6).toNat + 1 + 1, ?_⟩
  rw [R14]
  exact ⟨p1, b5⟩

def g14_0 (x0 : (List Int × Int × Int × Unit)) : List (ByteArray × ByteArray × ByteArray × Unit) := (sel2 [] x0 (Q14 x0)).1
def u14_0 (x0 : (List Int × Int × Int × Unit)) : (List Int × Int × Int × Unit) := (sel2 [] x0 (Q14 x0)).2
theorem q14 (x0 : (List Int × Int × Int × Unit)) (h : P14 x0) : Q14 x0 (g14_0 x0) (u14_0 x0) := by
  obtain ⟨y, s, hq⟩ := ex14 x0 h
  exact sel2_spec hq

def S14 : Am.Spec := { sig := sig14, pre := fun ⟨x0, _⟩ => P14 x0, upd := fun ⟨x0, _⟩ => [some ⟨(.cons (.sl (.int .u8)) (.cons (.int .i64) (.cons (.int .u64) .unit))), [u14_0 x0]⟩], res := fun ⟨x0, _⟩ => [⟨.sl (.cons .str (.cons .str (.cons .str .unit))), g14_0 x0⟩], kds := kds14 }
theorem con14 : Contract Try.prog 14 S14 := contract_of Try.func14 hb14 (Nat.le_of_ble_eq_true (by kernel_rfl)) (fun ⟨x0, _⟩ h hwf K q =>
  let ⟨n, hn⟩ := (q14 x0 h).2.2.2.2
  (snd14 n).1 x0 _ _ hn K q)

end
end Go.Proofs.Ytohojjcoikkmcaa

/- Function 5 (spec.R8Blocks): its runs between cut points. Written by a program of this repo (gen). -/
set_option linter.unusedVariables false
set_option linter.unusedSimpArgs false
set_option maxRecDepth 100000
namespace Go.Proofs.Ytohojjcoikkmcaa
open Go Go.Am Go.Proofs
noncomputable section
def ext5 : Ext := [(13, S13), (14, S14)]
theorem call5_13 : Callable Try.prog 13 := ⟨Try.f13, Try.func13, by kernel_rfl, by kernel_rfl⟩
theorem call5_14 : Callable Try.prog 14 := ⟨Try.f14, Try.func14, by kernel_rfl, by kernel_rfl⟩
theorem ext5Ok : ExtOk Try.prog ext5 := ⟨⟨call5_13, con13⟩, ⟨call5_14, con14⟩, trivial⟩

noncomputable def b5 : Code := bodyOf Try.f5
theorem hb5 : Try.f5.body = some b5 := by kernel_rfl
def sig5 : List AT := [AT.v (Ty.sl (Ty.int IntKind.u8))]
def tys5 : List Ty := [Ty.sl (Ty.cons Ty.str (Ty.cons Ty.str (Ty.cons Ty.str Ty.unit)))]
def kds5 : List RK := []
def oks5 : List AT := owns sig5
def P5 (x0 : List Int) : Prop := ((P14 (g13_0 x0)) ∧ True)
def g5_0 (x0 : List Int) : List (ByteArray × ByteArray × ByteArray × Unit) := g14_0 (g13_0 x0)
theorem p5_0 (x0 : List Int) : runF tab ext5 false 8 [] 2000 [] oks5 kds5 tys5 Try.f5.results [] [.code b5] (entE 0 0 sig5 (x0, ())) (entL sig5 (x0, ())) = some ([Dyn.mk (Ty.sl (Ty.cons Ty.str (Ty.cons Ty.str (Ty.cons Ty.str Ty.unit)))) (g14_0 (g13_0 x0))], [], [True, P14 (g13_0 x0)]) := by kernel_rfl
theorem at5 (x0 : List Int) (h : P5 x0) (K : Ctx) (q : Nat → Value) : AtV Try.prog 5 (PostR kds5 oks5 [⟨Ty.sl (Ty.cons Ty.str (Ty.cons Ty.str (Ty.cons Ty.str Ty.unit))), g5_0 x0⟩] [] [] q K) 8 K q [] [.code b5] (entE 0 0 sig5 (x0, ())) (entL sig5 (x0, ())) := by
  unfold P5 at h
  unfold g5_0
  obtain ⟨s0, h⟩ := h
  exact AtV.fin Try.func5 tabOk ext5Ok mixed (p5_0 x0) ⟨trivial, s0, trivial⟩

def S5 : Am.Spec := { sig := sig5, pre := fun ⟨x0, _⟩ => P5 x0, res := fun ⟨x0, _⟩ => [⟨Ty.sl (Ty.cons Ty.str (Ty.cons Ty.str (Ty.cons Ty.str Ty.unit))), g5_0 x0⟩], kds := kds5 }
theorem con5 : Contract Try.prog 5 S5 := contract_of Try.func5 hb5 (Nat.le_of_ble_eq_true (by kernel_rfl)) (fun ⟨x0, _⟩ h _ K q => at5 x0 h K q)


end
end Go.Proofs.Ytohojjcoikkmcaa

/- Function 27 (impl.IsName): its runs between cut points. Written by a program of this repo (gen). -/
set_option linter.unusedVariables false
set_option linter.unusedSimpArgs false
set_option maxRecDepth 100000
namespace Go.Proofs.Ytohojjcoikkmcaa
open Go Go.Am Go.Proofs
noncomputable section
def ext27 : Ext := []
theorem ext27Ok : ExtOk Try.prog ext27 := trivial

noncomputable def b27 : Code := bodyOf Try.f27
theorem hb27 : Try.f27.body = some b27 := by kernel_rfl
def sig27 : List AT := [AT.v (Ty.str)]
def tys27 : List Ty := [Ty.bool]
def kds27 : List RK := []
def oks27 : List AT := owns sig27
def E27_4 (v18 : Int) (x0 : ByteArray) : Env := [(16, PV.a (Atom.osl 0 Option.none)), (17, PV.a (Atom.val (Value.int IntKind.i64 (↑(List.length (bytesOf x0)) : Int)))), (18, PV.a (Atom.val (Value.int IntKind.i64 v18)))]
def L27_4 (v18 : Int) (x0 : ByteArray) : Heap := [Option.some (Arr.mk (Ty.int IntKind.u8) (bytesOf x0) Bool.false Option.none Option.none)]
mutual
def R27 : Nat → ByteArray → List Dyn → Prop
  | 0, _, _ => False
  | n + 1, x0, ds => (if (Decidable.decide ((↑(ByteArray.size x0) : Int) < 1)) = true then (ds = [Dyn.mk Ty.bool Bool.false]) else (if (Decidable.decide ((↑(ByteArray.size x0) : Int) > 10)) = true then (ds = [Dyn.mk Ty.bool Bool.false]) else (R27_4 n (0) (x0) ds)))
def R27_4 : Nat → Int → ByteArray → List Dyn → Prop
  | 0, _, _, _ => False
  | n + 1, v18, x0, ds => (if (Decidable.decide (v18 < (↑(List.length (bytesOf x0)) : Int))) = true then ((0 ≤ v18) ∧ (v18 < (↑(List.length (bytesOf x0)) : Int)) ∧ (if (Decidable.decide (List.getD (bytesOf x0) (Int.toNat v18) 0 ≥ 97)) = true then (if (Decidable.decide (List.getD (bytesOf x0) (Int.toNat v18) 0 ≥ 48)) = true then (if (!Decidable.decide (List.getD (bytesOf x0) (Int.toNat v18) 0 ≤ 122)) = true then (if (v18 == 0) = true then (ds = [Dyn.mk Ty.bool Bool.false]) else (if (!Decidable.decide (List.getD (bytesOf x0) (Int.toNat v18) 0 ≤ 57)) = true then (ds = [Dyn.mk Ty.bool Bool.false]) else ((InR IntKind.i64 (v18 + 1)) ∧ (R27_4 n (v18 + 1) (x0) ds)))) else ((InR IntKind.i64 (v18 + 1)) ∧ (R27_4 n (v18 + 1) (x0) ds))) else (if (!Decidable.decide (List.getD (bytesOf x0) (Int.toNat v18) 0 ≤ 122)) = true then (if (v18 == 0) = true then (ds = [Dyn.mk Ty.bool Bool.false]) else (ds = [Dyn.mk Ty.bool Bool.false])) else ((InR IntKind.i64 (v18 + 1)) ∧ (R27_4 n (v18 + 1) (x0) ds)))) else (if (Decidable.decide (List.getD (bytesOf x0) (Int.toNat v18) 0 ≥ 48)) = true then (if (v18 == 0) = true then (ds = [Dyn.mk Ty.bool Bool.false]) else (if (!Decidable.decide (List.getD (bytesOf x0) (Int.toNat v18) 0 ≤ 57)) = true then (ds = [Dyn.mk Ty.bool Bool.false]) else ((InR IntKind.i64 (v18 + 1)) ∧ (R27_4 n (v18 + 1) (x0) ds)))) else (if (v18 == 0) = true then (ds = [Dyn.mk Ty.bool Bool.false]) else (ds = [Dyn.mk Ty.bool Bool.false]))))) else (ds = [Dyn.mk Ty.bool Bool.true]))
end
theorem p27_0 (x0 : ByteArray) : runF tab ext27 false 46 [] 2000 [] oks27 kds27 tys27 Try.f27.results [true, true] [.code b27] (entE 0 0 sig27 (x0, ())) (entL sig27 (x0, ())) = some ([Dyn.mk Ty.bool Bool.false], [], [Decidable.decide ((↑(ByteArray.size x0) : Int) < 1) = Bool.true, Bool.true = Bool.true]) := by kernel_rfl
theorem p27_1 (x0 : ByteArray) : runF tab ext27 false 46 [] 2000 [] oks27 kds27 tys27 Try.f27.results [false, true] [.code b27] (entE 0 0 sig27 (x0, ())) (entL sig27 (x0, ())) = some ([Dyn.mk Ty.bool Bool.false], [], [Decidable.decide ((↑(ByteArray.size x0) : Int) < 1) = Bool.false, Decidable.decide ((↑(ByteArray.size x0) : Int) > 10) = Bool.true]) := by kernel_rfl
theorem p27_2 (x0 : ByteArray) : Am.runN tab ext27 false 46 [] 2000 [] [] [16, 17, 18] [0] [false, false] [.code b27] (entE 0 0 sig27 (x0, ())) (entL sig27 (x0, ())) = some (cutAt b27 4, E27_4 (0) (x0), L27_4 (0) (x0), [Decidable.decide ((↑(ByteArray.size x0) : Int) < 1) = Bool.false, Decidable.decide ((↑(ByteArray.size x0) : Int) > 10) = Bool.false]) := by kernel_rfl
theorem p27_3 (v18 : Int) (x0 : ByteArray) : runF tab ext27 false 46 [] 2000 [] oks27 kds27 tys27 Try.f27.results [true, true, true, true, true, true] (cutAt b27 4) (E27_4 v18 x0) (L27_4 v18 x0) = some ([Dyn.mk Ty.bool Bool.false], [], [Decidable.decide (v18 < (↑(List.length (bytesOf x0)) : Int)) = Bool.true, 0 ≤ v18, v18 < (↑(List.length (bytesOf x0)) : Int), Decidable.decide (List.getD (bytesOf x0) (Int.toNat v18) 0 ≥ 97) = Bool.true, Decidable.decide (List.getD (bytesOf x0) (Int.toNat v18) 0 ≥ 48) = Bool.true, (!Decidable.decide (List.getD (bytesOf x0) (Int.toNat v18) 0 ≤ 122)) = Bool.true, (v18 == 0) = Bool.true, Bool.true = Bool.true]) := by kernel_rfl
theorem p27_4 (v18 : Int) (x0 : ByteArray) : runF tab ext27 false 46 [] 2000 [] oks27 kds27 tys27 Try.f27.results [true, true, true, true, false, true] (cutAt b27 4) (E27_4 v18 x0) (L27_4 v18 x0) = some ([Dyn.mk Ty.bool Bool.false], [], [Decidable.decide (v18 < (↑(List.length (bytesOf x0)) : Int)) = Bool.true, 0 ≤ v18, v18 < (↑(List.length (bytesOf x0)) : Int), Decidable.decide (List.getD (bytesOf x0) (Int.toNat v18) 0 ≥ 97) = Bool.true, Decidable.decide (List.getD (bytesOf x0) (Int.toNat v18) 0 ≥ 48) = Bool.true, (!Decidable.decide (List.getD (bytesOf x0) (Int.toNat v18) 0 ≤ 122)) = Bool.true, (v18 == 0) = Bool.false, (!Decidable.decide (List.getD (bytesOf x0) (Int.toNat v18) 0 ≤ 57)) = Bool.true]) := by kernel_rfl
theorem p27_5 (v18 : Int) (x0 : ByteArray) : Am.runN tab ext27 false 46 [] 2000 [] [] [16, 17, 18] [0] [true, true, true, true, false, false] (cutAt b27 4) (E27_4 v18 x0) (L27_4 v18 x0) = some (cutAt b27 4, E27_4 (v18 + 1) (x0), L27_4 (v18 + 1) (x0), [Decidable.decide (v18 < (↑(List.length (bytesOf x0)) : Int)) = Bool.true, 0 ≤ v18, v18 < (↑(List.length (bytesOf x0)) : Int), Decidable.decide (List.getD (bytesOf x0) (Int.toNat v18) 0 ≥ 97) = Bool.true, Decidable.decide (List.getD (bytesOf x0) (Int.toNat v18) 0 ≥ 48) = Bool.true, (!Decidable.decide (List.getD (bytesOf x0) (Int.toNat v18) 0 ≤ 122)) = Bool.true, (v18 == 0) = Bool.false, (!Decidable.decide (List.getD (bytesOf x0) (Int.toNat v18) 0 ≤ 57)) = Bool.false, InR IntKind.i64 (v18 + 1)]) := by kernel_rfl
theorem p27_6 (v18 : Int) (x0 : ByteArray) : Am.runN tab ext27 false 46 [] 2000 [] [] [16, 17, 18] [0] [true, true, true, false, false] (cutAt b27 4) (E27_4 v18 x0) (L27_4 v18 x0) = some (cutAt b27 4, E27_4 (v18 + 1) (x0), L27_4 (v18 + 1) (x0), [Decidable.decide (v18 < (↑(List.length (bytesOf x0)) : Int)) = Bool.true, 0 ≤ v18, v18 < (↑(List.length (bytesOf x0)) : Int), Decidable.decide (List.getD (bytesOf x0) (Int.toNat v18) 0 ≥ 97) = Bool.true, Decidable.decide (List.getD (bytesOf x0) (Int.toNat v18) 0 ≥ 48) = Bool.true, (!Decidable.decide (List.getD (bytesOf x0) (Int.toNat v18) 0 ≤ 122)) = Bool.false, Bool.false = Bool.false, InR IntKind.i64 (v18 + 1)]) := by kernel_rfl
theorem p27_7 (v18 : Int) (x0 : ByteArray) : runF tab ext27 false 46 [] 2000 [] oks27 kds27 tys27 Try.f27.results [true, true, false, true, true, true] (cutAt b27 4) (E27_4 v18 x0) (L27_4 v18 x0) = some ([Dyn.mk Ty.bool Bool.false], [], [Decidable.decide (v18 < (↑(List.length (bytesOf x0)) : Int)) = Bool.true, 0 ≤ v18, v18 < (↑(List.length (bytesOf x0)) : Int), Decidable.decide (List.getD (bytesOf x0) (Int.toNat v18) 0 ≥ 97) = Bool.true, Decidable.decide (List.getD (bytesOf x0) (Int.toNat v18) 0 ≥ 48) = Bool.false, (!Decidable.decide (List.getD (bytesOf x0) (Int.toNat v18) 0 ≤ 122)) = Bool.true, (v18 == 0) = Bool.true, Bool.true = Bool.true]) := by kernel_rfl
theorem p27_8 (v18 : Int) (x0 : ByteArray) : runF tab ext27 false 46 [] 2000 [] oks27 kds27 tys27 Try.f27.results [true, true, false, true, false, true] (cutAt b27 4) (E27_4 v18 x0) (L27_4 v18 x0) = some ([Dyn.mk Ty.bool Bool.false], [], [Decidable.decide (v18 < (↑(List.length (bytesOf x0)) : Int)) = Bool.true, 0 ≤ v18, v18 < (↑(List.length (bytesOf x0)) : Int), Decidable.decide (List.getD (bytesOf x0) (Int.toNat v18) 0 ≥ 97) = Bool.true, Decidable.decide (List.getD (bytesOf x0) (Int.toNat v18) 0 ≥ 48) = Bool.false, (!Decidable.decide (List.getD (bytesOf x0) (Int.toNat v18) 0 ≤ 122)) = Bool.true, (v18 == 0) = Bool.false, Bool.true = Bool.true]) := by kernel_rfl
theorem p27_9 (v18 : Int) (x0 : ByteArray) : Am.runN tab ext27 false 46 [] 2000 [] [] [16, 17, 18] [0] [true, true, false, false, false] (cutAt b27 4) (E27_4 v18 x0) (L27_4 v18 x0) = some (cutAt b27 4, E27_4 (v18 + 1) (x0), L27_4 (v18 + 1) (x0), [Decidable.decide (v18 < (↑(List.length (bytesOf x0)) : Int)) = Bool.true, 0 ≤ v18, v18 < (↑(List.length (bytesOf x0)) : Int), Decidable.decide (List.getD (bytesOf x0) (Int.toNat v18) 0 ≥ 97) = Bool.true, Decidable.decide (List.getD (bytesOf x0) (Int.toNat v18) 0 ≥ 48) = Bool.false, (!Decidable.decide (List.getD (bytesOf x0) (Int.toNat v18) 0 ≤ 122)) = Bool.false, Bool.false = Bool.false, InR IntKind.i64 (v18 + 1)]) := by kernel_rfl
theorem p27_10 (v18 : Int) (x0 : ByteArray) : runF tab ext27 false 46 [] 2000 [] oks27 kds27 tys27 Try.f27.results [true, false, true, true, true, true] (cutAt b27 4) (E27_4 v18 x0) (L27_4 v18 x0) = some ([Dyn.mk Ty.bool Bool.false], [], [Decidable.decide (v18 < (↑(List.length (bytesOf x0)) : Int)) = Bool.true, 0 ≤ v18, v18 < (↑(List.length (bytesOf x0)) : Int), Decidable.decide (List.getD (bytesOf x0) (Int.toNat v18) 0 ≥ 97) = Bool.false, Decidable.decide (List.getD (bytesOf x0) (Int.toNat v18) 0 ≥ 48) = Bool.true, Bool.true = Bool.true, (v18 == 0) = Bool.true, Bool.true = Bool.true]) := by kernel_rfl
theorem p27_11 (v18 : Int) (x0 : ByteArray) : runF tab ext27 false 46 [] 2000 [] oks27 kds27 tys27 Try.f27.results [true, false, true, true, false, true] (cutAt b27 4) (E27_4 v18 x0) (L27_4 v18 x0) = some ([Dyn.mk Ty.bool Bool.false], [], [Decidable.decide (v18 < (↑(List.length (bytesOf x0)) : Int)) = Bool.true, 0 ≤ v18, v18 < (↑(List.length (bytesOf x0)) : Int), Decidable.decide (List.getD (bytesOf x0) (Int.toNat v18) 0 ≥ 97) = Bool.false, Decidable.decide (List.getD (bytesOf x0) (Int.toNat v18) 0 ≥ 48) = Bool.true, Bool.true = Bool.true, (v18 == 0) = Bool.false, (!Decidable.decide (List.getD (bytesOf x0) (Int.toNat v18) 0 ≤ 57)) = Bool.true]) := by kernel_rfl
theorem p27_12 (v18 : Int) (x0 : ByteArray) : Am.runN tab ext27 false 46 [] 2000 [] [] [16, 17, 18] [0] [true, false, true, true, false, false] (cutAt b27 4) (E27_4 v18 x0) (L27_4 v18 x0) = some (cutAt b27 4, E27_4 (v18 + 1) (x0), L27_4 (v18 + 1) (x0), [Decidable.decide (v18 < (↑(List.length (bytesOf x0)) : Int)) = Bool.true, 0 ≤ v18, v18 < (↑(List.length (bytesOf x0)) : Int), Decidable.decide (List.getD (bytesOf x0) (Int.toNat v18) 0 ≥ 97) = Bool.false, Decidable.decide (List.getD (bytesOf x0) (Int.toNat v18) 0 ≥ 48) = Bool.true, Bool.true = Bool.true, (v18 == 0) = Bool.false, (!Decidable.decide (List.getD (bytesOf x0) (Int.toNat v18) 0 ≤ 57)) = Bool.false, InR IntKind.i64 (v18 + 1)]) := by kernel_rfl
theorem p27_13 (v18 : Int) (x0 : ByteArray) : runF tab ext27 false 46 [] 2000 [] oks27 kds27 tys27 Try.f27.results [true, false, false, true, true, true] (cutAt b27 4) (E27_4 v18 x0) (L27_4 v18 x0) = some ([Dyn.mk Ty.bool Bool.false], [], [Decidable.decide (v18 < (↑(List.length (bytesOf x0)) : Int)) = Bool.true, 0 ≤ v18, v18 < (↑(List.length (bytesOf x0)) : Int), Decidable.decide (List.getD (bytesOf x0) (Int.toNat v18) 0 ≥ 97) = Bool.false, Decidable.decide (List.getD (bytesOf x0) (Int.toNat v18) 0 ≥ 48) = Bool.false, Bool.true = Bool.true, (v18 == 0) = Bool.true, Bool.true = Bool.true]) := by kernel_rfl
theorem p27_14 (v18 : Int) (x0 : ByteArray) : runF tab ext27 false 46 [] 2000 [] oks27 kds27 tys27 Try.f27.results [true, false, false, true, false, true] (cutAt b27 4) (E27_4 v18 x0) (L27_4 v18 x0) = some ([Dyn.mk Ty.bool Bool.false], [], [Decidable.decide (v18 < (↑(List.length (bytesOf x0)) : Int)) = Bool.true, 0 ≤ v18, v18 < (↑(List.length (bytesOf x0)) : Int), Decidable.decide (List.getD (bytesOf x0) (Int.toNat v18) 0 ≥ 97) = Bool.false, Decidable.decide (List.getD (bytesOf x0) (Int.toNat v18) 0 ≥ 48) = Bool.false, Bool.true = Bool.true, (v18 == 0) = Bool.false, Bool.true = Bool.true]) := by kernel_rfl
theorem p27_15 (v18 : Int) (x0 : ByteArray) : runF tab ext27 false 46 [] 2000 [] oks27 kds27 tys27 Try.f27.results [false] (cutAt b27 4) (E27_4 v18 x0) (L27_4 v18 x0) = some ([Dyn.mk Ty.bool Bool.true], [], [Decidable.decide (v18 < (↑(List.length (bytesOf x0)) : Int)) = Bool.false]) := by kernel_rfl
theorem snd27 : ∀ n, (∀ (x0 : ByteArray) ds, R27 n x0 ds → ∀ K q, AtV Try.prog 27 (PostR kds27 oks27 ds [] [] q K) 46 K q [] [.code b27] (entE 0 0 sig27 (x0, ())) (entL sig27 (x0, ()))) ∧ (∀ (v18 : Int) (x0 : ByteArray) ds, R27_4 n v18 x0 ds → ∀ K q, AtV Try.prog 27 (PostR kds27 oks27 ds [] [] q K) 46 K q [] (cutAt b27 4) (E27_4 v18 x0) (L27_4 v18 x0)) := by
  intro n
  induction n with
  | zero => exact ⟨fun _ _ h => by simp only [R27] at h, fun _ _ _ h => by simp only [R27_4] at h⟩
  | succ n ih =>
  obtain ⟨ih, ih4⟩ := ih
  refine ⟨?_, ?_⟩
  · intro x0 ds h K q
    rw [R27] at h
    by_cases b0 : (Decidable.decide ((↑(ByteArray.size x0) : Int) < 1)) = true
    · rw [if_pos b0] at h
      subst h
      exact AtV.fin Try.func27 tabOk ext27Ok mixed (p27_0 x0) ⟨b0, rfl, trivial⟩
    · rw [if_neg b0] at h
      replace b0 := Bool.eq_false_iff.2 b0
      by_cases b1 : (Decidable.decide ((↑(ByteArray.size x0) : Int) > 10)) = true
      · rw [if_pos b1] at h
        subst h
        exact AtV.fin Try.func27 tabOk ext27Ok mixed (p27_1 x0) ⟨b0, b1, trivial⟩
      · rw [if_neg b1] at h
        replace b1 := Bool.eq_false_iff.2 b1
        exact AtV.runN tabOk ext27Ok mixed (p27_2 x0) ⟨b0, b1, trivial⟩ (ih4 _ _ _ h K q)

  · intro v18 x0 ds h K q
    rw [R27_4] at h
    by_cases b0 : (Decidable.decide (v18 < (↑(List.length (bytesOf x0)) : Int))) = true
    · rw [if_pos b0] at h
      obtain ⟨s0, s1, h⟩ := h
      by_cases b1 : (Decidable.decide (List.getD (bytesOf x0) (Int.toNat v18) 0 ≥ 97)) = true
      · rw [if_pos b1] at h
        by_cases b2 : (Decidable.decide (List.getD (bytesOf x0) (Int.toNat v18) 0 ≥ 48)) = true
        · rw [if_pos b2] at h
          by_cases b3 : (!Decidable.decide (List.getD (bytesOf x0) (Int.toNat v18) 0 ≤ 122)) = true
          · rw [if_pos b3] at h
            by_cases b4 : (v18 == 0) = true
            · rw [if_pos b4] at h
              subst h
              exact AtV.fin Try.func27 tabOk ext27Ok mixed (p27_3 v18 x0) ⟨b0, s0, s1, b1, b2, b3, b4, rfl, trivial⟩
            · rw [if_neg b4] at h
              replace b4 := Bool.eq_false_iff.2 b4
              by_cases b5 : (!Decidable.decide (List.getD (bytesOf x0) (Int.toNat v18) 0 ≤ 57)) = true
              · rw [if_pos b5] at h
                subst h
                exact AtV.fin Try.func27 tabOk ext27Ok mixed (p27_4 v18 x0) ⟨b0, s0, s1, b1, b2, b3, b4, b5, trivial⟩
              · rw [if_neg b5] at h
                replace b5 := Bool.eq_false_iff.2 b5
                obtain ⟨s2, h⟩ := h
                exact AtV.runN tabOk ext27Ok mixed (p27_5 v18 x0) ⟨b0, s0, s1, b1, b2, b3, b4, b5, s2, trivial⟩ (ih4 _ _ _ h K q)
          · rw [if_neg b3] at h
            replace b3 := Bool.eq_false_iff.2 b3
            obtain ⟨s2, h⟩ := h
            exact AtV.runN tabOk ext27Ok mixed (p27_6 v18 x0) ⟨b0, s0, s1, b1, b2, b3, rfl, s2, trivial⟩ (ih4 _ _ _ h K q)
        · rw [if_neg b2] at h
          replace b2 := Bool.eq_false_iff.2 b2
          by_cases b3 : (!Decidable.decide (List.getD (bytesOf x0) (Int.toNat v18) 0 ≤ 122)) = true
          · rw [if_pos b3] at h
            by_cases b4 : (v18 == 0) = true
            · rw [if_pos b4] at h
              subst h
              exact AtV.fin Try.func27 tabOk ext27Ok mixed (p27_7 v18 x0) ⟨b0, s0, s1, b1, b2, b3, b4, rfl, trivial⟩
            · rw [if_neg b4] at h
              replace b4 := Bool.eq_false_iff.2 b4
              subst h
              exact AtV.fin Try.func27 tabOk ext27Ok mixed (p27_8 v18 x0) ⟨b0, s0, s1, b1, b2, b3, b4, rfl, trivial⟩
          · rw [if_neg b3] at h
            replace b3 := Bool.eq_false_iff.2 b3
            obtain ⟨s2, h⟩ := h
            exact AtV.runN tabOk ext27Ok mixed (p27_9 v18 x0) ⟨b0, s0, s1, b1, b2, b3, rfl, s2, trivial⟩ (ih4 _ _ _ h K q)
      · rw [if_neg b1] at h
        replace b1 := Bool.eq_false_iff.2 b1
        by_cases b2 : (Decidable.decide (List.getD (bytesOf x0) (Int.toNat v18) 0 ≥ 48)) = true
        · rw [if_pos b2] at h
          by_cases b3 : (v18 == 0) = true
          · rw [if_pos b3] at h
            subst h
            exact AtV.fin Try.func27 tabOk ext27Ok mixed (p27_10 v18 x0) ⟨b0, s0, s1, b1, b2, rfl, b3, rfl, trivial⟩
          · rw [if_neg b3] at h
            replace b3 := Bool.eq_false_iff.2 b3
            by_cases b4 : (!Decidable.decide (List.getD (bytesOf x0) (Int.toNat v18) 0 ≤ 57)) = true
            · rw [if_pos b4] at h
              subst h
              exact AtV.fin Try.func27 tabOk ext27Ok mixed (p27_11 v18 x0) ⟨b0, s0, s1, b1, b2, rfl, b3, b4, trivial⟩
            · rw [if_neg b4] at h
              replace b4 := Bool.eq_false_iff.2 b4
              obtain ⟨s2, h⟩ := h
              exact AtV.runN tabOk ext27Ok mixed (p27_12 v18 x0) ⟨b0, s0, s1, b1, b2, rfl, b3, b4, s2, trivial⟩ (ih4 _ _ _ h K q)
        · rw [if_neg b2] at h
          replace b2 := Bool.eq_false_iff.2 b2
          by_cases b3 : (v18 == 0) = true
          · rw [if_pos b3] at h
            subst h
            exact AtV.fin Try.func27 tabOk ext27Ok mixed (p27_13 v18 x0) ⟨b0, s0, s1, b1, b2, rfl, b3, rfl, trivial⟩
          · rw [if_neg b3] at h
            replace b3 := Bool.eq_false_iff.2 b3
            subst h
            exact AtV.fin Try.func27 tabOk ext27Ok mixed (p27_14 v18 x0) ⟨b0, s0, s1, b1, b2, rfl, b3, rfl, trivial⟩
    · rw [if_neg b0] at h
      replace b0 := Bool.eq_false_iff.2 b0
      subst h
      exact AtV.fin Try.func27 tabOk ext27Ok mixed (p27_15 v18 x0) ⟨b0, trivial⟩



def ok27 (i : Nat) (b : Int) : Bool := (decide (97 ≤ b) && decide (b ≤ 122)) || (!(i == 0) && (decide (48 ≤ b) && decide (b ≤ 57)))
def g27_0 (x0 : ByteArray) : Bool := decide (1 ≤ x0.size) && decide (x0.size ≤ 10) && allI ok27 0 (bytesOf x0)
def P27 (x0 : ByteArray) : Prop := True

theorem step27 (n i : Nat) (x0 : ByteArray) (hw : Wf .str x0) (hi : i < (bytesOf x0).length) (ds : List Dyn) :
    R27_4 (n + 1) (i : Int) x0 ds ↔ (if ok27 i ((bytesOf x0).getD i 0) = true then R27_4 n ((i : Int) + 1) x0 ds else ds = [⟨.bool, false⟩]) := by
  have hu := inR_up (xs := bytesOf x0) (by rw [bytesOf_length]; exact hw) hi
  rw [R27_4, if_pos (by simp; omega)]
  simp only [Int.toNat_natCast]
  have hb : (0 : Int) ≤ (i : Int) ∧ (i : Int) < ((bytesOf x0).length : Int) := by omega
  have hz : ((i : Int) == 0) = (i == 0) := by
    cases i with
    | zero => rfl
    | succ k => simp; omega
  simp only [hz, ok27, hu, true_and, hb.1, hb.2, ge_iff_le]
  by_cases h1 : (97 : Int) ≤ (bytesOf x0).getD i 0 <;> by_cases h2 : (bytesOf x0).getD i 0 ≤ 122 <;> by_cases h3 : (48 : Int) ≤ (bytesOf x0).getD i 0 <;> by_cases h4 : (bytesOf x0).getD i 0 ≤ 57 <;> rcases Bool.eq_false_or_eq_true (i == 0) with e0 | e0 <;> first | (exfalso; omega) | simp only [h1, h2, h3, h4, e0, decide_true, decide_false, Bool.not_true, Bool.not_false, Bool.true_and, Bool.false_and, Bool.and_true, Bool.and_false, Bool.true_or, Bool.or_true, Bool.or_false, Bool.false_or, if_true, if_false, Bool.false_eq_true]

theorem top27 (x0 : ByteArray) (hw : Wf .str x0) : R27 (x0.size + 1 + 1) x0 [⟨.bool, g27_0 x0⟩] := by
  have hl := bytesOf_length x0
  rw [R27]
  by_cases h0 : (x0.size : Int) < 1
  · rw [if_pos (by simpa using h0)]
    have : ¬ 1 ≤ x0.size := by omega
    simp [g27_0, this]
  · rw [if_neg (by simpa using h0)]
    by_cases h1 : (x0.size : Int) > 10
    · rw [if_pos (by simpa using h1)]
      have : ¬ x0.size ≤ 10 := by omega
      simp [g27_0, this]
    · rw [if_neg (by simpa using h1)]
      have key := loop_testI (bytesOf x0) 0 ok27 [(⟨.bool, false⟩ : Dyn)] [⟨.bool, true⟩] (fun n i ds => R27_4 n i x0 ds) (fun n => ?_) (fun n i hi hok ds hr => ?_) (fun n i hi hok => ?_)
      · rw [hl] at key
        have e : g27_0 x0 = allI ok27 0 (bytesOf x0) := by
          have a : 1 ≤ x0.size := by omega
          have b : x0.size ≤ 10 := by omega
          simp [g27_0, a, b]
        rw [e]
        cases h : allI ok27 0 (bytesOf x0) with
        | true => rw [if_pos h] at key; exact key
        | false => rw [if_neg (by rw [h]; simp)] at key; exact key
      · show R27_4 (n + 1) ((bytesOf x0).length : Int) x0 _
        rw [R27_4, if_neg (by simp)]
      · exact (step27 n i x0 hw hi ds).2 (by rw [if_pos hok]; exact hr)
      · exact (step27 n i x0 hw hi _).2 (by rw [if_neg (by rw [hok]; simp)])

def S27 : Am.Spec := { sig := sig27, pre := fun ⟨x0, _⟩ => P27 x0, res := fun ⟨x0, _⟩ => [⟨Ty.bool, g27_0 x0⟩] }
theorem con27 : Contract Try.prog 27 S27 := contract_of Try.func27 hb27 (Nat.le_of_ble_eq_true (by kernel_rfl)) (fun ⟨x0, _⟩ h hwf K q =>
  (snd27 _).1 x0 _ (top27 x0 hwf.1) K q)

end
end Go.Proofs.Ytohojjcoikkmcaa

/- The contracts of the library that this program uses, laid at this program. Written by a tool of the kit. -/
set_option linter.unusedVariables false
set_option maxRecDepth 100000
namespace Go.Proofs
open Go.Shelf
def Try.lays144_ren : Go.Shelf.Ren := ⟨fun | 144 => 28 | 143 => 42 | 219 => 49 | 217 => 54 | 225 => 55 | 224 => 56 | 267 => 57 | 266 => 59 | 314 => 60 | n => n, fun | 9 => 9 | 4 => 4 | 3 => 3 | 5 => 5 | 46 => 73 | 146 => 83 | 51 => 82 | n => n, fun | 1 => 0 | n => n⟩
theorem Try.lays144 : Go.Proofs.Lays.n144 Try.prog Try.lays144_ren := {
  mixed := by kernel_rfl
  f143 := Try.func42.trans (congrArg some (by kernel_rfl))
  f144 := Try.func28.trans (congrArg some (by kernel_rfl))
  f217 := Try.func54.trans (congrArg some (by kernel_rfl))
  f219 := Try.func49.trans (congrArg some (by kernel_rfl))
  f224 := Try.func56.trans (congrArg some (by kernel_rfl))
  f225 := Try.func55.trans (congrArg some (by kernel_rfl))
  f266 := Try.func59.trans (congrArg some (by kernel_rfl))
  f267 := Try.func57.trans (congrArg some (by kernel_rfl))
  f314 := Try.func60.trans (congrArg some (by kernel_rfl))
  t3 := Try.underlying3
  a3 := Try.isAgg3
  z3 := Try.sizeOf3
  v3 := Try.zeroValue3
  t4 := Try.underlying4
  a4 := Try.isAgg4
  z4 := Try.sizeOf4
  v4 := Try.zeroValue4
  t5 := Try.underlying5
  a5 := Try.isAgg5
  z5 := Try.sizeOf5
  v5 := Try.zeroValue5
  t9 := Try.underlying9
  a9 := Try.isAgg9
  z9 := Try.sizeOf9
  v9 := Try.zeroValue9
  t46 := Try.underlying73
  a46 := Try.isAgg73
  z46 := Try.sizeOf73
  v46 := Try.zeroValue73
  t51 := Try.underlying82
  a51 := Try.isAgg82
  z51 := Try.sizeOf82
  v51 := Try.zeroValue82
  t146 := Try.underlying83
  a146 := Try.isAgg83
  z146 := Try.sizeOf83
  v146 := Try.zeroValue83
  g1 := by kernel_rfl }
open Go.RowKit Go.Lib in theorem Try.strings_Contains (s sub : ByteArray) (m : Int) (w : World) (hs : s.size < 4294967281) (hm : w.cell? ⟨0, 0, none⟩ = some (.int .i64 m)) :
    Calls Try.prog 28 #[.string s, .string sub] w fun e w' => e = .returned (.bool (Lib.contains s.data.toList sub.data.toList)) ∧ w' = w := Any.strings_Contains Try.lays144 s sub m w hs hm
end Go.Proofs

/- Function 28 (strings.Contains): its contract, off what is known of the library. -/
set_option linter.unusedVariables false
set_option linter.unusedSimpArgs false
set_option maxRecDepth 100000
namespace Go.Proofs.Ytohojjcoikkmcaa
open Go Go.Am Go.Proofs

def sig28 : List AT := [AT.v Ty.str, AT.v Ty.str]
def g28_0 (x0 x1 : ByteArray) : Bool := Lib.contains x0.data.toList x1.data.toList
def P28 (x0 x1 : ByteArray) : Prop := x0.size < 4294967281
def S28 : Am.Spec := { sig := sig28, pre := fun ⟨x0, x1, _⟩ => P28 x0 x1, res := fun ⟨x0, x1, _⟩ => [⟨Ty.bool, g28_0 x0 x1⟩] }
theorem con28 : Contract Try.prog 28 S28 := contract_flat rfl fun w ⟨x0, x1, _⟩ vs bss hg hp hw ha => by
  obtain ⟨v0, s0, _, _, rfl, _, ⟨_, rfl, _⟩, v1, s1, _, _, rfl, _, ⟨_, rfl, _⟩, rfl, _⟩ := ha
  refine ⟨fun d hd => by rw [List.mem_singleton.1 hd]; exact ⟨rfl, trivial⟩, ?_⟩
  obtain ⟨m, hm⟩ := maxLenG hg
  refine (Try.strings_Contains x0 x1 m w hp hm).mono ?_
  rintro e w' ⟨rfl, rfl⟩
  exact ⟨rfl, Kept.refl _ _⟩

end Go.Proofs.Ytohojjcoikkmcaa

/- Function 16 (impl.ValidBlock): its runs between cut points. Written by a program of this repo (gen). -/
set_option linter.unusedVariables false
set_option linter.unusedSimpArgs false
set_option maxRecDepth 100000
namespace Go.Proofs.Ytohojjcoikkmcaa
open Go Go.Am Go.Proofs
noncomputable section
def ext16 : Ext := [(27, S27), (28, S28)]
theorem call16_27 : Callable Try.prog 27 := ⟨Try.f27, Try.func27, by kernel_rfl, by kernel_rfl⟩
theorem call16_28 : Callable Try.prog 28 := ⟨Try.f28, Try.func28, by kernel_rfl, by kernel_rfl⟩
theorem ext16Ok : ExtOk Try.prog ext16 := ⟨⟨call16_27, con27⟩, ⟨call16_28, con28⟩, trivial⟩

noncomputable def b16 : Code := bodyOf Try.f16
theorem hb16 : Try.f16.body = some b16 := by kernel_rfl
def sig16 : List AT := [AT.v (Ty.cons Ty.str (Ty.cons Ty.str (Ty.cons Ty.str Ty.unit)))]
def tys16 : List Ty := [Ty.bool]
def kds16 : List RK := []
def oks16 : List AT := owns sig16
def P16 (x0 : ByteArray × ByteArray × ByteArray × Unit) : Prop := (if (g27_0 (Prod.fst x0)) = true then (if (g27_0 (Prod.fst (Prod.snd x0))) = true then (if (Decidable.decide ((↑(ByteArray.size (Prod.fst (Prod.snd (Prod.snd x0)))) : Int) ≤ 400)) = true then ((P28 (Prod.fst (Prod.snd (Prod.snd x0))) (ByteArray.mk #[10])) ∧ True) else True) else True) else True)
def g16_0 (x0 : ByteArray × ByteArray × ByteArray × Unit) : Bool := (if (g27_0 (Prod.fst x0)) = true then (if (g27_0 (Prod.fst (Prod.snd x0))) = true then (if (Decidable.decide ((↑(ByteArray.size (Prod.fst (Prod.snd (Prod.snd x0)))) : Int) ≤ 400)) = true then !g28_0 (Prod.fst (Prod.snd (Prod.snd x0))) (ByteArray.mk #[10]) else Bool.false) else Bool.false) else Bool.false)
theorem p16_0 (x0 : ByteArray × ByteArray × ByteArray × Unit) : runF tab ext16 false 23 [] 2000 [] oks16 kds16 tys16 Try.f16.results [true, true, true] [.code b16] (entE 0 0 sig16 (x0, ())) (entL sig16 (x0, ())) = some ([Dyn.mk Ty.bool !g28_0 (Prod.fst (Prod.snd (Prod.snd x0))) (ByteArray.mk #[10])], [], [True, g27_0 (Prod.fst x0) = Bool.true, True, g27_0 (Prod.fst (Prod.snd x0)) = Bool.true, Decidable.decide ((↑(ByteArray.size (Prod.fst (Prod.snd (Prod.snd x0)))) : Int) ≤ 400) = Bool.true, P28 (Prod.fst (Prod.snd (Prod.snd x0))) (ByteArray.mk #[10])]) := by kernel_rfl
theorem p16_1 (x0 : ByteArray × ByteArray × ByteArray × Unit) : runF tab ext16 false 23 [] 2000 [] oks16 kds16 tys16 Try.f16.results [true, true, false] [.code b16] (entE 0 0 sig16 (x0, ())) (entL sig16 (x0, ())) = some ([Dyn.mk Ty.bool Bool.false], [], [True, g27_0 (Prod.fst x0) = Bool.true, True, g27_0 (Prod.fst (Prod.snd x0)) = Bool.true, Decidable.decide ((↑(ByteArray.size (Prod.fst (Prod.snd (Prod.snd x0)))) : Int) ≤ 400) = Bool.false]) := by kernel_rfl
theorem p16_2 (x0 : ByteArray × ByteArray × ByteArray × Unit) : runF tab ext16 false 23 [] 2000 [] oks16 kds16 tys16 Try.f16.results [true, false, false] [.code b16] (entE 0 0 sig16 (x0, ())) (entL sig16 (x0, ())) = some ([Dyn.mk Ty.bool Bool.false], [], [True, g27_0 (Prod.fst x0) = Bool.true, True, g27_0 (Prod.fst (Prod.snd x0)) = Bool.false, Bool.false = Bool.false]) := by kernel_rfl
theorem p16_3 (x0 : ByteArray × ByteArray × ByteArray × Unit) : runF tab ext16 false 23 [] 2000 [] oks16 kds16 tys16 Try.f16.results [false, false, false] [.code b16] (entE 0 0 sig16 (x0, ())) (entL sig16 (x0, ())) = some ([Dyn.mk Ty.bool Bool.false], [], [True, g27_0 (Prod.fst x0) = Bool.false, Bool.false = Bool.false, Bool.false = Bool.false]) := by kernel_rfl
theorem at16 (x0 : ByteArray × ByteArray × ByteArray × Unit) (h : P16 x0) (K : Ctx) (q : Nat → Value) : AtV Try.prog 16 (PostR kds16 oks16 [⟨Ty.bool, g16_0 x0⟩] [] [] q K) 23 K q [] [.code b16] (entE 0 0 sig16 (x0, ())) (entL sig16 (x0, ())) := by
  unfold P16 at h
  unfold g16_0
  by_cases b0 : (g27_0 (Prod.fst x0)) = true
  · try simp only [if_pos b0] at h ⊢
    by_cases b1 : (g27_0 (Prod.fst (Prod.snd x0))) = true
    · try simp only [if_pos b1] at h ⊢
      by_cases b2 : (Decidable.decide ((↑(ByteArray.size (Prod.fst (Prod.snd (Prod.snd x0)))) : Int) ≤ 400)) = true
      · try simp only [if_pos b2] at h ⊢
        obtain ⟨s0, h⟩ := h
        exact AtV.fin Try.func16 tabOk ext16Ok mixed (p16_0 x0) ⟨trivial, b0, trivial, b1, b2, s0, trivial⟩
      · try simp only [if_neg b2] at h ⊢
        replace b2 := Bool.eq_false_iff.2 b2
        exact AtV.fin Try.func16 tabOk ext16Ok mixed (p16_1 x0) ⟨trivial, b0, trivial, b1, b2, trivial⟩
    · try simp only [if_neg b1] at h ⊢
      replace b1 := Bool.eq_false_iff.2 b1
      exact AtV.fin Try.func16 tabOk ext16Ok mixed (p16_2 x0) ⟨trivial, b0, trivial, b1, rfl, trivial⟩
  · try simp only [if_neg b0] at h ⊢
    replace b0 := Bool.eq_false_iff.2 b0
    exact AtV.fin Try.func16 tabOk ext16Ok mixed (p16_3 x0) ⟨trivial, b0, rfl, rfl, trivial⟩

def S16 : Am.Spec := { sig := sig16, pre := fun ⟨x0, _⟩ => P16 x0, res := fun ⟨x0, _⟩ => [⟨Ty.bool, g16_0 x0⟩], kds := kds16 }
theorem con16 : Contract Try.prog 16 S16 := contract_of Try.func16 hb16 (Nat.le_of_ble_eq_true (by kernel_rfl)) (fun ⟨x0, _⟩ h _ K q => at16 x0 h K q)


theorem pre16 (x : ByteArray × ByteArray × ByteArray × Unit) : P16 x := by
  unfold P16
  split
  · split
    · split
      · rename_i h
        simp only [decide_eq_true_eq] at h
        refine ⟨?_, trivial⟩
        show x.2.2.1.size < 4294967281
        omega
      · trivial
    · trivial
  · trivial

end
end Go.Proofs.Ytohojjcoikkmcaa

/- Function 48 (cmp.isNaN[string]): its runs between cut points. Written by a program of this repo (gen). -/
set_option linter.unusedVariables false
set_option linter.unusedSimpArgs false
set_option maxRecDepth 100000
namespace Go.Proofs.Ytohojjcoikkmcaa
open Go Go.Am Go.Proofs
noncomputable section
def ext48 : Ext := []
theorem ext48Ok : ExtOk Try.prog ext48 := trivial

noncomputable def b48 : Code := bodyOf Try.f48
theorem hb48 : Try.f48.body = some b48 := by kernel_rfl
def sig48 : List AT := [AT.v (Ty.str)]
def tys48 : List Ty := [Ty.bool]
def kds48 : List RK := []
def oks48 : List AT := owns sig48
def P48 (x0 : ByteArray) : Prop := True
def g48_0 (x0 : ByteArray) : Bool := !ByteArray.toList x0 == ByteArray.toList x0
theorem p48_0 (x0 : ByteArray) : runF tab ext48 false 6 [] 2000 [] oks48 kds48 tys48 Try.f48.results [] [.code b48] (entE 0 0 sig48 (x0, ())) (entL sig48 (x0, ())) = some ([Dyn.mk Ty.bool !ByteArray.toList x0 == ByteArray.toList x0], [], []) := by kernel_rfl
theorem at48 (x0 : ByteArray) (h : P48 x0) (K : Ctx) (q : Nat → Value) : AtV Try.prog 48 (PostR kds48 oks48 [⟨Ty.bool, g48_0 x0⟩] [] [] q K) 6 K q [] [.code b48] (entE 0 0 sig48 (x0, ())) (entL sig48 (x0, ())) := by
  unfold P48 at h
  unfold g48_0
  exact AtV.fin Try.func48 tabOk ext48Ok mixed (p48_0 x0) trivial

def S48 : Am.Spec := { sig := sig48, pre := fun ⟨x0, _⟩ => P48 x0, res := fun ⟨x0, _⟩ => [⟨Ty.bool, g48_0 x0⟩], kds := kds48 }
theorem con48 : Contract Try.prog 48 S48 := contract_of Try.func48 hb48 (Nat.le_of_ble_eq_true (by kernel_rfl)) (fun ⟨x0, _⟩ h _ K q => at48 x0 h K q)


end
end Go.Proofs.Ytohojjcoikkmcaa

/- Function 41 (cmp.Compare[string]): its runs between cut points. Written by a program of this repo (gen). -/
set_option linter.unusedVariables false
set_option linter.unusedSimpArgs false
set_option maxRecDepth 100000
namespace Go.Proofs.Ytohojjcoikkmcaa
open Go Go.Am Go.Proofs
noncomputable section
def ext41 : Ext := [(48, S48)]
theorem call41_48 : Callable Try.prog 48 := ⟨Try.f48, Try.func48, by kernel_rfl, by kernel_rfl⟩
theorem ext41Ok : ExtOk Try.prog ext41 := ⟨⟨call41_48, con48⟩, trivial⟩

noncomputable def b41 : Code := bodyOf Try.f41
theorem hb41 : Try.f41.body = some b41 := by kernel_rfl
def sig41 : List AT := [AT.v (Ty.str), AT.v (Ty.str)]
def tys41 : List Ty := [Ty.int IntKind.i64]
def kds41 : List RK := []
def oks41 : List AT := owns sig41
def P41 (x0 : ByteArray) (x1 : ByteArray) : Prop := True
def g41_0 (x0 : ByteArray) (x1 : ByteArray) : Int := (if (g48_0 x0) = true then (if (g48_0 x1) = true then 0 else -1) else (if (g48_0 x1) = true then 1 else (if (Op.bytesLess (ByteArray.toList x0) (ByteArray.toList x1)) = true then -1 else (if (!(Op.bytesLess (ByteArray.toList x0) (ByteArray.toList x1) || ByteArray.toList x0 == ByteArray.toList x1)) = true then 1 else 0))))
theorem p41_0 (x0 : ByteArray) (x1 : ByteArray) : runF tab ext41 false 20 [] 2000 [] oks41 kds41 tys41 Try.f41.results [true, true] [.code b41] (entE 0 0 sig41 (x0, x1, ())) (entL sig41 (x0, x1, ())) = some ([Dyn.mk (Ty.int IntKind.i64) 0], [], [True, True, g48_0 x0 = Bool.true, g48_0 x1 = Bool.true]) := by kernel_rfl
theorem p41_1 (x0 : ByteArray) (x1 : ByteArray) : runF tab ext41 false 20 [] 2000 [] oks41 kds41 tys41 Try.f41.results [true, false] [.code b41] (entE 0 0 sig41 (x0, x1, ())) (entL sig41 (x0, x1, ())) = some ([Dyn.mk (Ty.int IntKind.i64) (-1)], [], [True, True, g48_0 x0 = Bool.true, g48_0 x1 = Bool.false]) := by kernel_rfl
theorem p41_2 (x0 : ByteArray) (x1 : ByteArray) : runF tab ext41 false 20 [] 2000 [] oks41 kds41 tys41 Try.f41.results [false, true] [.code b41] (entE 0 0 sig41 (x0, x1, ())) (entL sig41 (x0, x1, ())) = some ([Dyn.mk (Ty.int IntKind.i64) 1], [], [True, True, g48_0 x0 = Bool.false, g48_0 x1 = Bool.true]) := by kernel_rfl
theorem p41_3 (x0 : ByteArray) (x1 : ByteArray) : runF tab ext41 false 20 [] 2000 [] oks41 kds41 tys41 Try.f41.results [false, false, true] [.code b41] (entE 0 0 sig41 (x0, x1, ())) (entL sig41 (x0, x1, ())) = some ([Dyn.mk (Ty.int IntKind.i64) (-1)], [], [True, True, g48_0 x0 = Bool.false, g48_0 x1 = Bool.false, Op.bytesLess (ByteArray.toList x0) (ByteArray.toList x1) = Bool.true]) := by kernel_rfl
theorem p41_4 (x0 : ByteArray) (x1 : ByteArray) : runF tab ext41 false 20 [] 2000 [] oks41 kds41 tys41 Try.f41.results [false, false, false, true] [.code b41] (entE 0 0 sig41 (x0, x1, ())) (entL sig41 (x0, x1, ())) = some ([Dyn.mk (Ty.int IntKind.i64) 1], [], [True, True, g48_0 x0 = Bool.false, g48_0 x1 = Bool.false, Op.bytesLess (ByteArray.toList x0) (ByteArray.toList x1) = Bool.false, (!(Op.bytesLess (ByteArray.toList x0) (ByteArray.toList x1) || ByteArray.toList x0 == ByteArray.toList x1)) = Bool.true]) := by kernel_rfl
theorem p41_5 (x0 : ByteArray) (x1 : ByteArray) : runF tab ext41 false 20 [] 2000 [] oks41 kds41 tys41 Try.f41.results [false, false, false, false] [.code b41] (entE 0 0 sig41 (x0, x1, ())) (entL sig41 (x0, x1, ())) = some ([Dyn.mk (Ty.int IntKind.i64) 0], [], [True, True, g48_0 x0 = Bool.false, g48_0 x1 = Bool.false, Op.bytesLess (ByteArray.toList x0) (ByteArray.toList x1) = Bool.false, (!(Op.bytesLess (ByteArray.toList x0) (ByteArray.toList x1) || ByteArray.toList x0 == ByteArray.toList x1)) = Bool.false]) := by kernel_rfl
theorem at41 (x0 : ByteArray) (x1 : ByteArray) (h : P41 x0 x1) (K : Ctx) (q : Nat → Value) : AtV Try.prog 41 (PostR kds41 oks41 [⟨Ty.int IntKind.i64, g41_0 x0 x1⟩] [] [] q K) 20 K q [] [.code b41] (entE 0 0 sig41 (x0, x1, ())) (entL sig41 (x0, x1, ())) := by
  unfold P41 at h
  unfold g41_0
  by_cases b0 : (g48_0 x0) = true
  · try simp only [if_pos b0] at h ⊢
    by_cases b1 : (g48_0 x1) = true
    · try simp only [if_pos b1] at h ⊢
      exact AtV.fin Try.func41 tabOk ext41Ok mixed (p41_0 x0 x1) ⟨trivial, trivial, b0, b1, trivial⟩
    · try simp only [if_neg b1] at h ⊢
      replace b1 := Bool.eq_false_iff.2 b1
      exact AtV.fin Try.func41 tabOk ext41Ok mixed (p41_1 x0 x1) ⟨trivial, trivial, b0, b1, trivial⟩
  · try simp only [if_neg b0] at h ⊢
    replace b0 := Bool.eq_false_iff.2 b0
    by_cases b1 : (g48_0 x1) = true
    · try simp only [if_pos b1] at h ⊢
      exact AtV.fin Try.func41 tabOk ext41Ok mixed (p41_2 x0 x1) ⟨trivial, trivial, b0, b1, trivial⟩
    · try simp only [if_neg b1] at h ⊢
      replace b1 := Bool.eq_false_iff.2 b1
      by_cases b2 : (Op.bytesLess (ByteArray.toList x0) (ByteArray.toList x1)) = true
      · try simp only [if_pos b2] at h ⊢
        exact AtV.fin Try.func41 tabOk ext41Ok mixed (p41_3 x0 x1) ⟨trivial, trivial, b0, b1, b2, trivial⟩
      · try simp only [if_neg b2] at h ⊢
        replace b2 := Bool.eq_false_iff.2 b2
        by_cases b3 : (!(Op.bytesLess (ByteArray.toList x0) (ByteArray.toList x1) || ByteArray.toList x0 == ByteArray.toList x1)) = true
        · try simp only [if_pos b3] at h ⊢
          exact AtV.fin Try.func41 tabOk ext41Ok mixed (p41_4 x0 x1) ⟨trivial, trivial, b0, b1, b2, b3, trivial⟩
        · try simp only [if_neg b3] at h ⊢
          replace b3 := Bool.eq_false_iff.2 b3
          exact AtV.fin Try.func41 tabOk ext41Ok mixed (p41_5 x0 x1) ⟨trivial, trivial, b0, b1, b2, b3, trivial⟩

def S41 : Am.Spec := { sig := sig41, pre := fun ⟨x0, x1, _⟩ => P41 x0 x1, res := fun ⟨x0, x1, _⟩ => [⟨Ty.int IntKind.i64, g41_0 x0 x1⟩], kds := kds41 }
theorem con41 : Contract Try.prog 41 S41 := contract_of Try.func41 hb41 (Nat.le_of_ble_eq_true (by kernel_rfl)) (fun ⟨x0, x1, _⟩ h _ K q => at41 x0 x1 h K q)


end
end Go.Proofs.Ytohojjcoikkmcaa

/- Function 40 (cmp.Or[int]): its runs between cut points. Written by a program of this repo (gen). -/
set_option linter.unusedVariables false
set_option linter.unusedSimpArgs false
set_option maxRecDepth 100000
namespace Go.Proofs.Ytohojjcoikkmcaa
open Go Go.Am Go.Proofs
noncomputable section
def ext40 : Ext := []
theorem ext40Ok : ExtOk Try.prog ext40 := trivial

noncomputable def b40 : Code := bodyOf Try.f40
theorem hb40 : Try.f40.body = some b40 := by kernel_rfl
def sig40 : List AT := [AT.v (Ty.sl (Ty.int IntKind.i64))]
def tys40 : List Ty := [Ty.int IntKind.i64]
def kds40 : List RK := []
def oks40 : List AT := owns sig40
def E40_3 (v8 : Int) (x0 : List Int) : Env := [(3, PV.a (Atom.val (Value.int IntKind.i64 0))), (6, PV.a (Atom.sl (Ty.int IntKind.i64) x0)), (7, PV.a (Atom.val (Value.int IntKind.i64 (↑(List.length x0) : Int)))), (8, PV.a (Atom.val (Value.int IntKind.i64 v8)))]
def L40_3 (v8 : Int) (x0 : List Int) : Heap := []
mutual
def R40 : Nat → List Int → List Dyn → Prop
  | 0, _, _ => False
  | n + 1, x0, ds => (R40_3 n (0) (x0) ds)
def R40_3 : Nat → Int → List Int → List Dyn → Prop
  | 0, _, _, _ => False
  | n + 1, v8, x0, ds => (if (Decidable.decide (v8 < (↑(List.length x0) : Int))) = true then ((0 ≤ v8) ∧ (v8 < (↑(List.length x0) : Int)) ∧ (if (List.getD x0 (Int.toNat v8) 0 != 0) = true then (ds = [Dyn.mk (Ty.int IntKind.i64) (List.getD x0 (Int.toNat v8) 0)]) else ((InR IntKind.i64 (v8 + 1)) ∧ (R40_3 n (v8 + 1) (x0) ds)))) else (ds = [Dyn.mk (Ty.int IntKind.i64) 0]))
end
theorem p40_0 (x0 : List Int) : Am.runN tab ext40 false 18 [] 2000 [] [] [3, 6, 7, 8] [] [] [.code b40] (entE 0 0 sig40 (x0, ())) (entL sig40 (x0, ())) = some (cutAt b40 3, E40_3 (0) (x0), L40_3 (0) (x0), []) := by kernel_rfl
theorem p40_1 (v8 : Int) (x0 : List Int) : runF tab ext40 false 18 [] 2000 [] oks40 kds40 tys40 Try.f40.results [true, true] (cutAt b40 3) (E40_3 v8 x0) (L40_3 v8 x0) = some ([Dyn.mk (Ty.int IntKind.i64) (List.getD x0 (Int.toNat v8) 0)], [], [Decidable.decide (v8 < (↑(List.length x0) : Int)) = Bool.true, 0 ≤ v8, v8 < (↑(List.length x0) : Int), (List.getD x0 (Int.toNat v8) 0 != 0) = Bool.true]) := by kernel_rfl
theorem p40_2 (v8 : Int) (x0 : List Int) : Am.runN tab ext40 false 18 [] 2000 [] [] [3, 6, 7, 8] [] [true, false] (cutAt b40 3) (E40_3 v8 x0) (L40_3 v8 x0) = some (cutAt b40 3, E40_3 (v8 + 1) (x0), L40_3 (v8 + 1) (x0), [Decidable.decide (v8 < (↑(List.length x0) : Int)) = Bool.true, 0 ≤ v8, v8 < (↑(List.length x0) : Int), (List.getD x0 (Int.toNat v8) 0 != 0) = Bool.false, InR IntKind.i64 (v8 + 1)]) := by kernel_rfl
theorem p40_3 (v8 : Int) (x0 : List Int) : runF tab ext40 false 18 [] 2000 [] oks40 kds40 tys40 Try.f40.results [false] (cutAt b40 3) (E40_3 v8 x0) (L40_3 v8 x0) = some ([Dyn.mk (Ty.int IntKind.i64) 0], [], [Decidable.decide (v8 < (↑(List.length x0) : Int)) = Bool.false]) := by kernel_rfl
theorem snd40 : ∀ n, (∀ (x0 : List Int) ds, R40 n x0 ds → ∀ K q, AtV Try.prog 40 (PostR kds40 oks40 ds [] [] q K) 18 K q [] [.code b40] (entE 0 0 sig40 (x0, ())) (entL sig40 (x0, ()))) ∧ (∀ (v8 : Int) (x0 : List Int) ds, R40_3 n v8 x0 ds → ∀ K q, AtV Try.prog 40 (PostR kds40 oks40 ds [] [] q K) 18 K q [] (cutAt b40 3) (E40_3 v8 x0) (L40_3 v8 x0)) := by
  intro n
  induction n with
  | zero => exact ⟨fun _ _ h => by simp only [R40] at h, fun _ _ _ h => by simp only [R40_3] at h⟩
  | succ n ih =>
  obtain ⟨ih, ih3⟩ := ih
  refine ⟨?_, ?_⟩
  · intro x0 ds h K q
    rw [R40] at h
    exact AtV.runN tabOk ext40Ok mixed (p40_0 x0) trivial (ih3 _ _ _ h K q)

  · intro v8 x0 ds h K q
    rw [R40_3] at h
    by_cases b0 : (Decidable.decide (v8 < (↑(List.length x0) : Int))) = true
    · rw [if_pos b0] at h
      obtain ⟨s0, s1, h⟩ := h
      by_cases b1 : (List.getD x0 (Int.toNat v8) 0 != 0) = true
      · rw [if_pos b1] at h
        subst h
        exact AtV.fin Try.func40 tabOk ext40Ok mixed (p40_1 v8 x0) ⟨b0, s0, s1, b1, trivial⟩
      · rw [if_neg b1] at h
        replace b1 := Bool.eq_false_iff.2 b1
        obtain ⟨s2, h⟩ := h
        exact AtV.runN tabOk ext40Ok mixed (p40_2 v8 x0) ⟨b0, s0, s1, b1, s2, trivial⟩ (ih3 _ _ _ h K q)
    · rw [if_neg b0] at h
      replace b0 := Bool.eq_false_iff.2 b0
      subst h
      exact AtV.fin Try.func40 tabOk ext40Ok mixed (p40_3 v8 x0) ⟨b0, trivial⟩



def g40_0 : List Int → Int
  | [] => 0
  | x :: r => if x != 0 then x else g40_0 r
def P40 (x0 : List Int) : Prop := True

theorem goL40 : ∀ (xs : List Int), goL (fun (_ : Unit) (x : Int) => if (x != 0) = true then Except.error [(⟨.int .i64, x⟩ : Dyn)] else .ok ()) (fun _ => [⟨.int .i64, (0 : Int)⟩]) () xs = [⟨.int .i64, g40_0 xs⟩]
  | [] => rfl
  | x :: r => by
    simp only [goL, g40_0]
    cases h : x != 0 with
    | true => simp
    | false => simpa using goL40 r

theorem top40 (x0 : List Int) (hm : x0.length ≤ maxLen) : R40 (x0.length + 1 + 1) x0 [⟨.int .i64, g40_0 x0⟩] := by
  rw [R40, ← goL40]
  refine loop_all x0 0 _ _ (fun _ _ => True) (fun n i _ ds => R40_3 n i x0 ds) trivial ?_ ?_
  · intro n b _
    show R40_3 (n + 1) x0.length x0 _
    rw [R40_3, if_neg (by simp)]
  · intro n i b hi _
    cases h : (x0.getD i 0 != 0) with
    | true =>
      show R40_3 (n + 1) (i : Int) x0 _
      rw [R40_3, if_pos (by simp; omega)]
      refine ⟨by omega, by omega, ?_⟩
      simp only [Int.toNat_natCast]
      rw [if_pos h] <;> trivial
    | false =>
      refine ⟨trivial, fun ds hr => ?_⟩
      rw [R40_3, if_pos (by simp; omega)]
      refine ⟨by omega, by omega, ?_⟩
      simp only [Int.toNat_natCast]
      rw [if_neg (by rw [h]; simp)]
      exact ⟨inR_up hm hi, hr⟩

def S40 : Am.Spec := { sig := sig40, pre := fun ⟨x0, _⟩ => P40 x0, res := fun ⟨x0, _⟩ => [⟨Ty.int .i64, g40_0 x0⟩] }
theorem con40 : Contract Try.prog 40 S40 := contract_of Try.func40 hb40 (Nat.le_of_ble_eq_true (by kernel_rfl)) (fun ⟨x0, _⟩ h hwf K q =>
  (snd40 _).1 x0 _ (top40 x0 hwf.1.1) K q)

end
end Go.Proofs.Ytohojjcoikkmcaa

/- Function 26 (impl.compareBlocks): its runs between cut points. Written by a program of this repo (gen). -/
set_option linter.unusedVariables false
set_option linter.unusedSimpArgs false
set_option maxRecDepth 100000
namespace Go.Proofs.Ytohojjcoikkmcaa
open Go Go.Am Go.Proofs
noncomputable section
def ext26 : Ext := [(41, S41), (40, S40)]
theorem call26_41 : Callable Try.prog 41 := ⟨Try.f41, Try.func41, by kernel_rfl, by kernel_rfl⟩
theorem call26_40 : Callable Try.prog 40 := ⟨Try.f40, Try.func40, by kernel_rfl, by kernel_rfl⟩
theorem ext26Ok : ExtOk Try.prog ext26 := ⟨⟨call26_41, con41⟩, ⟨call26_40, con40⟩, trivial⟩

noncomputable def b26 : Code := bodyOf Try.f26
theorem hb26 : Try.f26.body = some b26 := by kernel_rfl
def sig26 : List AT := [AT.v (Ty.cons Ty.str (Ty.cons Ty.str (Ty.cons Ty.str Ty.unit))), AT.v (Ty.cons Ty.str (Ty.cons Ty.str (Ty.cons Ty.str Ty.unit)))]
def tys26 : List Ty := [Ty.int IntKind.i64]
def kds26 : List RK := []
def oks26 : List AT := owns sig26
def P26 (x0 : ByteArray × ByteArray × ByteArray × Unit) (x1 : ByteArray × ByteArray × ByteArray × Unit) : Prop := True
def g26_0 (x0 : ByteArray × ByteArray × ByteArray × Unit) (x1 : ByteArray × ByteArray × ByteArray × Unit) : Int := g40_0 [g41_0 (Prod.fst x0) (Prod.fst x1), g41_0 (Prod.fst (Prod.snd x0)) (Prod.fst (Prod.snd x1))]
theorem p26_0 (x0 : ByteArray × ByteArray × ByteArray × Unit) (x1 : ByteArray × ByteArray × ByteArray × Unit) : runF tab ext26 false 17 [] 2000 [] oks26 kds26 tys26 Try.f26.results [] [.code b26] (entE 0 0 sig26 (x0, x1, ())) (entL sig26 (x0, x1, ())) = some ([Dyn.mk (Ty.int IntKind.i64) (g40_0 [g41_0 (Prod.fst x0) (Prod.fst x1), g41_0 (Prod.fst (Prod.snd x0)) (Prod.fst (Prod.snd x1))])], [], [True, True, True]) := by kernel_rfl
theorem at26 (x0 : ByteArray × ByteArray × ByteArray × Unit) (x1 : ByteArray × ByteArray × ByteArray × Unit) (h : P26 x0 x1) (K : Ctx) (q : Nat → Value) : AtV Try.prog 26 (PostR kds26 oks26 [⟨Ty.int IntKind.i64, g26_0 x0 x1⟩] [] [] q K) 17 K q [] [.code b26] (entE 0 0 sig26 (x0, x1, ())) (entL sig26 (x0, x1, ())) := by
  unfold P26 at h
  unfold g26_0
  exact AtV.fin Try.func26 tabOk ext26Ok mixed (p26_0 x0 x1) ⟨trivial, trivial, trivial, trivial⟩

def S26 : Am.Spec := { sig := sig26, pre := fun ⟨x0, x1, _⟩ => P26 x0 x1, res := fun ⟨x0, x1, _⟩ => [⟨Ty.int IntKind.i64, g26_0 x0 x1⟩], kds := kds26 }
theorem con26 : Contract Try.prog 26 S26 := contract_of Try.func26 hb26 (Nat.le_of_ble_eq_true (by kernel_rfl)) (fun ⟨x0, x1, _⟩ h _ K q => at26 x0 x1 h K q)


end
end Go.Proofs.Ytohojjcoikkmcaa

/- Function 15 (impl.ValidBlocks): its runs between cut points. Written by a program of this repo (gen). -/
set_option linter.unusedVariables false
set_option linter.unusedSimpArgs false
set_option maxRecDepth 100000
namespace Go.Proofs.Ytohojjcoikkmcaa
open Go Go.Am Go.Proofs
noncomputable section
def ext15 : Ext := [(16, S16), (26, S26)]
theorem call15_16 : Callable Try.prog 16 := ⟨Try.f16, Try.func16, by kernel_rfl, by kernel_rfl⟩
theorem call15_26 : Callable Try.prog 26 := ⟨Try.f26, Try.func26, by kernel_rfl, by kernel_rfl⟩
theorem ext15Ok : ExtOk Try.prog ext15 := ⟨⟨call15_16, con16⟩, ⟨call15_26, con26⟩, trivial⟩

noncomputable def b15 : Code := bodyOf Try.f15
theorem hb15 : Try.f15.body = some b15 := by kernel_rfl
def sig15 : List AT := [AT.v (Ty.sl (Ty.cons Ty.str (Ty.cons Ty.str (Ty.cons Ty.str Ty.unit))))]
def tys15 : List Ty := [Ty.bool]
def kds15 : List RK := []
def oks15 : List AT := owns sig15
def E15_2 (v7 : Int) (x0 : List (ByteArray × ByteArray × ByteArray × Unit)) : Env := [(0, PV.a (Atom.sl (Ty.cons Ty.str (Ty.cons Ty.str (Ty.cons Ty.str Ty.unit))) x0)), (5, PV.a (Atom.sl (Ty.cons Ty.str (Ty.cons Ty.str (Ty.cons Ty.str Ty.unit))) x0)), (6, PV.a (Atom.val (Value.int IntKind.i64 (↑(List.length x0) : Int)))), (7, PV.a (Atom.val (Value.int IntKind.i64 v7)))]
def L15_2 (v7 : Int) (x0 : List (ByteArray × ByteArray × ByteArray × Unit)) : Heap := []
mutual
def R15 : Nat → List (ByteArray × ByteArray × ByteArray × Unit) → List Dyn → Prop
  | 0, _, _ => False
  | n + 1, x0, ds => (R15_2 n (0) (x0) ds)
def R15_2 : Nat → Int → List (ByteArray × ByteArray × ByteArray × Unit) → List Dyn → Prop
  | 0, _, _, _ => False
  | n + 1, v7, x0, ds => (if (Decidable.decide (v7 < (↑(List.length x0) : Int))) = true then ((0 ≤ v7) ∧ (v7 < (↑(List.length x0) : Int)) ∧ ((P16 (List.getD x0 (Int.toNat v7) (ByteArray.empty, ByteArray.empty, ByteArray.empty, ()))) ∧ (if (!g16_0 (List.getD x0 (Int.toNat v7) (ByteArray.empty, ByteArray.empty, ByteArray.empty, ()))) = true then (ds = [Dyn.mk Ty.bool Bool.false]) else (if (Decidable.decide (v7 > 0)) = true then ((InR IntKind.i64 (v7 - 1)) ∧ ((0 ≤ v7 - 1) ∧ (v7 - 1 < (↑(List.length x0) : Int)) ∧ (if (Decidable.decide (g26_0 (List.getD x0 (Int.toNat (v7 - 1)) (ByteArray.empty, ByteArray.empty, ByteArray.empty, ())) (List.getD x0 (Int.toNat v7) (ByteArray.empty, ByteArray.empty, ByteArray.empty, ())) ≥ 0)) = true then (ds = [Dyn.mk Ty.bool Bool.false]) else ((InR IntKind.i64 (v7 + 1)) ∧ (R15_2 n (v7 + 1) (x0) ds))))) else ((InR IntKind.i64 (v7 + 1)) ∧ (R15_2 n (v7 + 1) (x0) ds)))))) else (ds = [Dyn.mk Ty.bool (Decidable.decide ((↑(List.length x0) : Int) ≤ 32))]))
end
theorem p15_0 (x0 : List (ByteArray × ByteArray × ByteArray × Unit)) : Am.runN tab ext15 false 33 [] 2000 [] [] [0, 5, 6, 7] [] [] [.code b15] (entE 0 0 sig15 (x0, ())) (entL sig15 (x0, ())) = some (cutAt b15 2, E15_2 (0) (x0), L15_2 (0) (x0), []) := by kernel_rfl
theorem p15_1 (v7 : Int) (x0 : List (ByteArray × ByteArray × ByteArray × Unit)) : runF tab ext15 false 33 [] 2000 [] oks15 kds15 tys15 Try.f15.results [true, true, true] (cutAt b15 2) (E15_2 v7 x0) (L15_2 v7 x0) = some ([Dyn.mk Ty.bool Bool.false], [], [Decidable.decide (v7 < (↑(List.length x0) : Int)) = Bool.true, 0 ≤ v7, v7 < (↑(List.length x0) : Int), P16 (List.getD x0 (Int.toNat v7) (ByteArray.empty, ByteArray.empty, ByteArray.empty, ())), (!g16_0 (List.getD x0 (Int.toNat v7) (ByteArray.empty, ByteArray.empty, ByteArray.empty, ()))) = Bool.true, Bool.true = Bool.true]) := by kernel_rfl
theorem p15_2 (v7 : Int) (x0 : List (ByteArray × ByteArray × ByteArray × Unit)) : runF tab ext15 false 33 [] 2000 [] oks15 kds15 tys15 Try.f15.results [true, false, true, true] (cutAt b15 2) (E15_2 v7 x0) (L15_2 v7 x0) = some ([Dyn.mk Ty.bool Bool.false], [], [Decidable.decide (v7 < (↑(List.length x0) : Int)) = Bool.true, 0 ≤ v7, v7 < (↑(List.length x0) : Int), P16 (List.getD x0 (Int.toNat v7) (ByteArray.empty, ByteArray.empty, ByteArray.empty, ())), (!g16_0 (List.getD x0 (Int.toNat v7) (ByteArray.empty, ByteArray.empty, ByteArray.empty, ()))) = Bool.false, Decidable.decide (v7 > 0) = Bool.true, InR IntKind.i64 (v7 - 1), 0 ≤ v7 - 1, v7 - 1 < (↑(List.length x0) : Int), True, Decidable.decide (g26_0 (List.getD x0 (Int.toNat (v7 - 1)) (ByteArray.empty, ByteArray.empty, ByteArray.empty, ())) (List.getD x0 (Int.toNat v7) (ByteArray.empty, ByteArray.empty, ByteArray.empty, ())) ≥ 0) = Bool.true]) := by kernel_rfl
theorem p15_3 (v7 : Int) (x0 : List (ByteArray × ByteArray × ByteArray × Unit)) : Am.runN tab ext15 false 33 [] 2000 [] [] [0, 5, 6, 7] [] [true, false, true, false] (cutAt b15 2) (E15_2 v7 x0) (L15_2 v7 x0) = some (cutAt b15 2, E15_2 (v7 + 1) (x0), L15_2 (v7 + 1) (x0), [Decidable.decide (v7 < (↑(List.length x0) : Int)) = Bool.true, 0 ≤ v7, v7 < (↑(List.length x0) : Int), P16 (List.getD x0 (Int.toNat v7) (ByteArray.empty, ByteArray.empty, ByteArray.empty, ())), (!g16_0 (List.getD x0 (Int.toNat v7) (ByteArray.empty, ByteArray.empty, ByteArray.empty, ()))) = Bool.false, Decidable.decide (v7 > 0) = Bool.true, InR IntKind.i64 (v7 - 1), 0 ≤ v7 - 1, v7 - 1 < (↑(List.length x0) : Int), True, Decidable.decide (g26_0 (List.getD x0 (Int.toNat (v7 - 1)) (ByteArray.empty, ByteArray.empty, ByteArray.empty, ())) (List.getD x0 (Int.toNat v7) (ByteArray.empty, ByteArray.empty, ByteArray.empty, ())) ≥ 0) = Bool.false, InR IntKind.i64 (v7 + 1)]) := by kernel_rfl
theorem p15_4 (v7 : Int) (x0 : List (ByteArray × ByteArray × ByteArray × Unit)) : Am.runN tab ext15 false 33 [] 2000 [] [] [0, 5, 6, 7] [] [true, false, false, false] (cutAt b15 2) (E15_2 v7 x0) (L15_2 v7 x0) = some (cutAt b15 2, E15_2 (v7 + 1) (x0), L15_2 (v7 + 1) (x0), [Decidable.decide (v7 < (↑(List.length x0) : Int)) = Bool.true, 0 ≤ v7, v7 < (↑(List.length x0) : Int), P16 (List.getD x0 (Int.toNat v7) (ByteArray.empty, ByteArray.empty, ByteArray.empty, ())), (!g16_0 (List.getD x0 (Int.toNat v7) (ByteArray.empty, ByteArray.empty, ByteArray.empty, ()))) = Bool.false, Decidable.decide (v7 > 0) = Bool.false, Bool.false = Bool.false, InR IntKind.i64 (v7 + 1)]) := by kernel_rfl
theorem p15_5 (v7 : Int) (x0 : List (ByteArray × ByteArray × ByteArray × Unit)) : runF tab ext15 false 33 [] 2000 [] oks15 kds15 tys15 Try.f15.results [false] (cutAt b15 2) (E15_2 v7 x0) (L15_2 v7 x0) = some ([Dyn.mk Ty.bool (Decidable.decide ((↑(List.length x0) : Int) ≤ 32))], [], [Decidable.decide (v7 < (↑(List.length x0) : Int)) = Bool.false]) := by kernel_rfl
theorem snd15 : ∀ n, (∀ (x0 : List (ByteArray × ByteArray × ByteArray × Unit)) ds, R15 n x0 ds → ∀ K q, AtV Try.prog 15 (PostR kds15 oks15 ds [] [] q K) 33 K q [] [.code b15] (entE 0 0 sig15 (x0, ())) (entL sig15 (x0, ()))) ∧ (∀ (v7 : Int) (x0 : List (ByteArray × ByteArray × ByteArray × Unit)) ds, R15_2 n v7 x0 ds → ∀ K q, AtV Try.prog 15 (PostR kds15 oks15 ds [] [] q K) 33 K q [] (cutAt b15 2) (E15_2 v7 x0) (L15_2 v7 x0)) := by
  intro n
  induction n with
  | zero => exact ⟨fun _ _ h => by simp only [R15] at h, fun _ _ _ h => by simp only [R15_2] at h⟩
  | succ n ih =>
  obtain ⟨ih, ih2⟩ := ih
  refine ⟨?_, ?_⟩
  · intro x0 ds h K q
    rw [R15] at h
    exact AtV.runN tabOk ext15Ok mixed (p15_0 x0) trivial (ih2 _ _ _ h K q)

  · intro v7 x0 ds h K q
    rw [R15_2] at h
    by_cases b0 : (Decidable.decide (v7 < (↑(List.length x0) : Int))) = true
    · rw [if_pos b0] at h
      obtain ⟨s0, s1, h⟩ := h
      obtain ⟨s2, h⟩ := h
      by_cases b1 : (!g16_0 (List.getD x0 (Int.toNat v7) (ByteArray.empty, ByteArray.empty, ByteArray.empty, ()))) = true
      · rw [if_pos b1] at h
        subst h
        exact AtV.fin Try.func15 tabOk ext15Ok mixed (p15_1 v7 x0) ⟨b0, s0, s1, s2, b1, rfl, trivial⟩
      · rw [if_neg b1] at h
        replace b1 := Bool.eq_false_iff.2 b1
        by_cases b2 : (Decidable.decide (v7 > 0)) = true
        · rw [if_pos b2] at h
          obtain ⟨s3, h⟩ := h
          obtain ⟨s4, s5, h⟩ := h
          by_cases b3 : (Decidable.decide (g26_0 (List.getD x0 (Int.toNat (v7 - 1)) (ByteArray.empty, ByteArray.empty, ByteArray.empty, ())) (List.getD x0 (Int.toNat v7) (ByteArray.empty, ByteArray.empty, ByteArray.empty, ())) ≥ 0)) = true
          · rw [if_pos b3] at h
            subst h
            exact AtV.fin Try.func15 tabOk ext15Ok mixed (p15_2 v7 x0) ⟨b0, s0, s1, s2, b1, b2, s3, s4, s5, trivial, b3, trivial⟩
          · rw [if_neg b3] at h
            replace b3 := Bool.eq_false_iff.2 b3
            obtain ⟨s6, h⟩ := h
            exact AtV.runN tabOk ext15Ok mixed (p15_3 v7 x0) ⟨b0, s0, s1, s2, b1, b2, s3, s4, s5, trivial, b3, s6, trivial⟩ (ih2 _ _ _ h K q)
        · rw [if_neg b2] at h
          replace b2 := Bool.eq_false_iff.2 b2
          obtain ⟨s3, h⟩ := h
          exact AtV.runN tabOk ext15Ok mixed (p15_4 v7 x0) ⟨b0, s0, s1, s2, b1, b2, rfl, s3, trivial⟩ (ih2 _ _ _ h K q)
    · rw [if_neg b0] at h
      replace b0 := Bool.eq_false_iff.2 b0
      subst h
      exact AtV.fin Try.func15 tabOk ext15Ok mixed (p15_5 v7 x0) ⟨b0, trivial⟩



def ok15 (x0 : List (ByteArray × ByteArray × ByteArray × Unit)) (i : Nat) (x : ByteArray × ByteArray × ByteArray × Unit) : Bool :=
  g16_0 x && (i == 0 || !decide (g26_0 (x0.getD (i - 1) (ByteArray.empty, ByteArray.empty, ByteArray.empty, ())) x ≥ 0))
def g15_0 (x0 : List (ByteArray × ByteArray × ByteArray × Unit)) : Bool := allI (ok15 x0) 0 x0 && decide (x0.length ≤ 32)
def P15 (x0 : List (ByteArray × ByteArray × ByteArray × Unit)) : Prop := True

theorem step15 (n i : Nat) (x0 : List (ByteArray × ByteArray × ByteArray × Unit)) (hm : x0.length ≤ maxLen) (hi : i < x0.length) (ds : List Dyn) :
    (if ok15 x0 i (x0.getD i (ByteArray.empty, ByteArray.empty, ByteArray.empty, ())) = true then R15_2 n ((i : Int) + 1) x0 ds else ds = [⟨.bool, false⟩]) → R15_2 (n + 1) (i : Int) x0 ds := by
  intro h
  have hu := inR_up hm hi
  rw [R15_2, if_pos (by simp; omega)]
  refine ⟨by omega, by omega, ?_⟩
  simp only [Int.toNat_natCast]
  unfold ok15 at h
  refine ⟨pre16 _, ?_⟩
  by_cases h1 : g16_0 (x0.getD i (ByteArray.empty, ByteArray.empty, ByteArray.empty, ())) = true
  case neg =>
    have h1 := Bool.eq_false_iff.2 h1
    rw [h1] at h
    rw [if_pos (by rw [h1]; rfl)]
    simpa using h
  case pos =>
    rw [h1] at h
    rw [if_neg (by rw [h1]; simp)]
    by_cases h0 : (i : Int) > 0
    · rw [if_pos (by simpa using h0)]
      have hi0 : (i == 0) = false := by simp; omega
      have e : ((i : Int) - 1).toNat = i - 1 := by omega
      refine ⟨by rw [i64_iff]; have : maxLen ≤ 9223372036854775807 := by decide
                 omega, by omega, by omega, ?_⟩
      rw [e]
      by_cases h2 : g26_0 (x0.getD (i - 1) (ByteArray.empty, ByteArray.empty, ByteArray.empty, ())) (x0.getD i (ByteArray.empty, ByteArray.empty, ByteArray.empty, ())) ≥ 0
      · rw [if_pos (by simpa using h2)]
        rw [hi0, decide_eq_true h2] at h
        simpa using h
      · rw [if_neg (by simpa using h2)]
        rw [hi0, decide_eq_false h2] at h
        exact ⟨hu, by simpa using h⟩
    · rw [if_neg (by simpa using h0)]
      have hi0 : (i == 0) = true := by simp; omega
      rw [hi0] at h
      exact ⟨hu, by simpa using h⟩

theorem top15 (x0 : List (ByteArray × ByteArray × ByteArray × Unit)) (hw : x0.length ≤ maxLen) : R15 (x0.length + 1 + 1) x0 [⟨.bool, g15_0 x0⟩] := by
  rw [R15]
  have key := loop_testI x0 (ByteArray.empty, ByteArray.empty, ByteArray.empty, ()) (ok15 x0) [(⟨.bool, false⟩ : Dyn)] [⟨.bool, decide (x0.length ≤ 32)⟩] (fun n i ds => R15_2 n i x0 ds) (fun n => ?_) (fun n i hi hok ds hr => ?_) (fun n i hi hok => ?_)
  · unfold g15_0
    cases h : allI (ok15 x0) 0 x0 with
    | true => rw [if_pos h] at key; simpa using key
    | false => rw [if_neg (by rw [h]; simp)] at key; simpa using key
  · rw [R15_2, if_neg (by simp)]
    have hc : decide ((x0.length : Int) ≤ 32) = decide (x0.length ≤ 32) := by
      congr 1; exact propext ⟨fun h => by omega, fun h => by omega⟩
    rw [hc]
  · exact step15 n i x0 hw hi ds (by rw [if_pos hok]; exact hr)
  · exact step15 n i x0 hw hi _ (by rw [if_neg (by rw [hok]; simp)])

def S15 : Am.Spec := { sig := sig15, pre := fun ⟨x0, _⟩ => P15 x0, res := fun ⟨x0, _⟩ => [⟨Ty.bool, g15_0 x0⟩] }
theorem con15 : Contract Try.prog 15 S15 := contract_of Try.func15 hb15 (Nat.le_of_ble_eq_true (by kernel_rfl)) (fun ⟨x0, _⟩ h hwf K q =>
  (snd15 _).1 x0 _ (top15 x0 hwf.1.1) K q)

end
end Go.Proofs.Ytohojjcoikkmcaa

/- Function 20 (slices.Clone[[]impl.Block,impl.Block]): its contract, off what is known of the library. -/
set_option linter.unusedVariables false
set_option linter.unusedSimpArgs false
set_option maxRecDepth 100000
namespace Go.Proofs.Ytohojjcoikkmcaa
open Go Go.Am Go.Proofs

set_option maxHeartbeats 2000000 in
theorem nil20 (w : World) : Calls Try.prog 20 #[.slice none 0 0] w fun e w' => e = .returned (.slice none 0 0) ∧ w' = w := by
  have mixed := mixed
  have q22 : ∀ (w : World) (a : Option Addr) (n c n' c' : Nat), (binOp .eql 24 (.slice a n c) (.slice none n' c')).run Try.prog w = .ok (.bool a.isNone) w := fun w a n c n' c' => Lib.run_eql_slice_nil w _ _ a n c n' c' Try.underlying24
  go_enter Try.func20, Try.ntmps20
  go_wp2
  go_ret
  exact ⟨rfl, rfl⟩

set_option maxHeartbeats 4000000 in
theorem some20 (w : World) (a : Addr) (n c : Nat) (news : List Value) (hl : news.length = n * (Ty.size (Ty.cons Ty.str (Ty.cons Ty.str (Ty.cons Ty.str Ty.unit))))) (hn : n ≤ 1048576) (hc : ∀ (j : Nat) (u : Value), news[j]? = some u → w.cell? (a.add j) = some u) (h1 : ∀ u ∈ news, u.oneCell' = true) :
    Calls Try.prog 20 #[.slice (some a) n c] w fun r w' => ∃ v', r = .returned v' ∧ w'.ownsRow w.heap.size 27 (Ty.size (Ty.cons Ty.str (Ty.cons Ty.str (Ty.cons Ty.str Ty.unit)))) v' n news ∧ Go.RowKit.Below w.heap.size w w' := by
  have mixed := mixed
  have q22 : ∀ (w : World) (a : Option Addr) (n c n' c' : Nat), (binOp .eql 24 (.slice a n c) (.slice none n' c')).run Try.prog w = .ok (.bool a.isNone) w := fun w a n c n' c' => Lib.run_eql_slice_nil w _ _ a n c n' c' Try.underlying24
  have hinfo : TIOk Try.prog 24 (tabGet tab 24) := tabOk 24
  obtain ⟨_, _, ⟨_, ⟨i0, hi0, hz1, z, hz0, hzs, _⟩⟩, hby⟩ := hinfo
  rw [hi0] at hby
  simp only [Option.map_some, Option.some.injEq] at hby
  have hzs' : z.cells.size = Ty.size (Ty.cons Ty.str (Ty.cons Ty.str (Ty.cons Ty.str Ty.unit))) := by rw [← Array.length_toList, hzs]; rfl
  have A : Aside (∀ (j : Nat) (u : Value), news[j]? = some u → w.cell? (a.add j) = some u) := hc
  clear hc
  go_enter Try.func20, Try.ntmps20
  go_wp2_with (at_builtin; refine wpList_append_own _ rfl _ _ 24 rfl w.heap.size 27 i0 z (Ty.size (Ty.cons Ty.str (Ty.cons Ty.str (Ty.cons Ty.str Ty.unit)))) i0.bytes Try.underlying24 hi0 hz0 hz1 rfl hzs' (by decide) _ _ _ rfl (World.ownsRow_made w #[] 0 (Nat.le_refl _) (Nat.zero_le _) (by simp)) a n c news rfl ?qc1 ?qc2 ?qc3 ?qc4 ?qc5 ?qc6 ?_)
  case qc1 => exact hl
  case qc2 => intro j u hj; exact Lib.cell?_alloc_some _ (A.out j u hj)
  case qc3 => exact h1
  case qc4 => unfold maxLen; omega
  case qc5 => rw [hby]; omega
  case qc6 => simp
  intro v' w1 hown hgrow hnil
  go_wp2
  go_ret
  exact ⟨v', rfl, by simpa using hown, ((Go.RowKit.Below.refl _ w).alloc (Nat.le_refl _) _).grown hgrow (by simp) (by intro k hk; simp [Value.ownBlock] at hk; omega)⟩

def sig20 : List AT := [AT.v (Ty.sl (Ty.cons Ty.str (Ty.cons Ty.str (Ty.cons Ty.str Ty.unit))))]
def g20_0 (x0 : List (ByteArray × ByteArray × ByteArray × Unit)) : List (ByteArray × ByteArray × ByteArray × Unit) := x0
def P20 (x0 : List (ByteArray × ByteArray × ByteArray × Unit)) : Prop := x0.length ≤ 1048576
def S20 : Am.Spec := { sig := sig20, pre := fun ⟨x0, _⟩ => P20 x0, res := fun ⟨x0, _⟩ => [⟨Ty.sl (Ty.cons Ty.str (Ty.cons Ty.str (Ty.cons Ty.str Ty.unit))), g20_0 x0⟩] }
theorem con20 : Contract Try.prog 20 S20 := clone_contract (t := (Ty.cons Ty.str (Ty.cons Ty.str (Ty.cons Ty.str Ty.unit)))) (e := 27) rfl nil20 some20

end Go.Proofs.Ytohojjcoikkmcaa

/- Function 30 (slices.BinarySearchFunc[[]impl.Block,impl.Block,impl.Block]): its runs between cut points. Written by a program of this repo (gen). -/
set_option linter.unusedVariables false
set_option linter.unusedSimpArgs false
set_option maxRecDepth 100000
namespace Go.Proofs.Ytohojjcoikkmcaa
open Go Go.Am Go.Proofs
noncomputable section
def ext30c26 : Ext := [(26, S26)]
theorem call30c26_26 : Callable Try.prog 26 := ⟨Try.f26, Try.func26, by kernel_rfl, by kernel_rfl⟩
theorem ext30c26Ok : ExtOk Try.prog ext30c26 := ⟨⟨call30c26_26, con26⟩, trivial⟩

noncomputable def b30c26 : Code := bodyOf Try.f30
theorem hb30c26 : Try.f30.body = some b30c26 := by kernel_rfl
def sig30c26 : List AT := [AT.v (Ty.sl (Ty.cons Ty.str (Ty.cons Ty.str (Ty.cons Ty.str Ty.unit)))), AT.v (Ty.cons Ty.str (Ty.cons Ty.str (Ty.cons Ty.str Ty.unit))), AT.fn 26 []]
def tys30c26 : List Ty := [Ty.int IntKind.i64, Ty.bool]
def kds30c26 : List RK := []
def oks30c26 : List AT := owns sig30c26
def E30c26_3 (v9 : Int) (v10 : Int) (x0 : List (ByteArray × ByteArray × ByteArray × Unit)) (x1 : ByteArray × ByteArray × ByteArray × Unit) : Env := [(0, PV.a (Atom.sl (Ty.cons Ty.str (Ty.cons Ty.str (Ty.cons Ty.str Ty.unit))) x0)), (2, PV.fn 26 []), (4, PV.a (Atom.optr 0 0 [])), (8, PV.a (Atom.val (Value.int IntKind.i64 (↑(List.length x0) : Int)))), (9, PV.a (Atom.val (Value.int IntKind.i64 v9))), (10, PV.a (Atom.val (Value.int IntKind.i64 v10)))]
def L30c26_3 (v9 : Int) (v10 : Int) (x0 : List (ByteArray × ByteArray × ByteArray × Unit)) (x1 : ByteArray × ByteArray × ByteArray × Unit) : Heap := [Option.some (Arr.mk (Ty.cons Ty.str (Ty.cons Ty.str (Ty.cons Ty.str Ty.unit))) [x1] Bool.true Option.none (Option.some Bool.false))]
mutual
def R30c26 : Nat → List (ByteArray × ByteArray × ByteArray × Unit) → ByteArray × ByteArray × ByteArray × Unit → List Dyn → Prop
  | 0, _, _, _ => False
  | n + 1, x0, x1, ds => (R30c26_3 n (0) ((↑(List.length x0) : Int)) (x0) (x1) ds)
def R30c26_3 : Nat → Int → Int → List (ByteArray × ByteArray × ByteArray × Unit) → ByteArray × ByteArray × ByteArray × Unit → List Dyn → Prop
  | 0, _, _, _, _, _ => False
  | n + 1, v9, v10, x0, x1, ds => (if (Decidable.decide (v9 < v10)) = true then ((InR IntKind.i64 (v9 + v10)) ∧ ((InR IntKind.u64 (v9 + v10)) ∧ ((InR IntKind.u64 (Int.fdiv (v9 + v10) 2)) ∧ ((InR IntKind.i64 (Int.fdiv (v9 + v10) 2)) ∧ ((0 ≤ Int.fdiv (v9 + v10) 2) ∧ (Int.fdiv (v9 + v10) 2 < (↑(List.length x0) : Int)) ∧ (if (Decidable.decide (g26_0 (List.getD x0 (Int.toNat (Int.fdiv (v9 + v10) 2)) (ByteArray.empty, ByteArray.empty, ByteArray.empty, ())) x1 < 0)) = true then ((InR IntKind.i64 (Int.fdiv (v9 + v10) 2 + 1)) ∧ (R30c26_3 n (Int.fdiv (v9 + v10) 2 + 1) (v10) (x0) (x1) ds)) else (R30c26_3 n (v9) (Int.fdiv (v9 + v10) 2) (x0) (x1) ds))))))) else (if (Decidable.decide (v9 < (↑(List.length x0) : Int))) = true then ((0 ≤ v9) ∧ (v9 < (↑(List.length x0) : Int)) ∧ (ds = [Dyn.mk (Ty.int IntKind.i64) v9, Dyn.mk Ty.bool (g26_0 (List.getD x0 (Int.toNat v9) (ByteArray.empty, ByteArray.empty, ByteArray.empty, ())) x1 == 0)])) else (ds = [Dyn.mk (Ty.int IntKind.i64) v9, Dyn.mk Ty.bool Bool.false])))
end
theorem p30c26_0 (x0 : List (ByteArray × ByteArray × ByteArray × Unit)) (x1 : ByteArray × ByteArray × ByteArray × Unit) : Am.runN tab ext30c26 false 49 [] 2000 [] [] [0, 2, 4, 8, 9, 10] [0] [] [.code b30c26] (entE 0 0 sig30c26 (x0, x1, (), ())) (entL sig30c26 (x0, x1, (), ())) = some (cutAt b30c26 3, E30c26_3 (0) ((↑(List.length x0) : Int)) (x0) (x1), L30c26_3 (0) ((↑(List.length x0) : Int)) (x0) (x1), []) := by kernel_rfl
theorem p30c26_1 (v9 : Int) (v10 : Int) (x0 : List (ByteArray × ByteArray × ByteArray × Unit)) (x1 : ByteArray × ByteArray × ByteArray × Unit) : Am.runN tab ext30c26 false 49 [] 2000 [] [] [0, 2, 4, 8, 9, 10] [0] [true, true] (cutAt b30c26 3) (E30c26_3 v9 v10 x0 x1) (L30c26_3 v9 v10 x0 x1) = some (cutAt b30c26 3, E30c26_3 (Int.fdiv (v9 + v10) 2 + 1) (v10) (x0) (x1), L30c26_3 (Int.fdiv (v9 + v10) 2 + 1) (v10) (x0) (x1), [Decidable.decide (v9 < v10) = Bool.true, InR IntKind.i64 (v9 + v10), InR IntKind.u64 (v9 + v10), (0 : Int) ≤ (1 : Int), InR IntKind.u64 (Int.fdiv (v9 + v10) 2), InR IntKind.i64 (Int.fdiv (v9 + v10) 2), 0 ≤ Int.fdiv (v9 + v10) 2, Int.fdiv (v9 + v10) 2 < (↑(List.length x0) : Int), True, Decidable.decide (g26_0 (List.getD x0 (Int.toNat (Int.fdiv (v9 + v10) 2)) (ByteArray.empty, ByteArray.empty, ByteArray.empty, ())) x1 < 0) = Bool.true, InR IntKind.i64 (Int.fdiv (v9 + v10) 2 + 1)]) := by kernel_rfl
theorem p30c26_2 (v9 : Int) (v10 : Int) (x0 : List (ByteArray × ByteArray × ByteArray × Unit)) (x1 : ByteArray × ByteArray × ByteArray × Unit) : Am.runN tab ext30c26 false 49 [] 2000 [] [] [0, 2, 4, 8, 9, 10] [0] [true, false] (cutAt b30c26 3) (E30c26_3 v9 v10 x0 x1) (L30c26_3 v9 v10 x0 x1) = some (cutAt b30c26 3, E30c26_3 (v9) (Int.fdiv (v9 + v10) 2) (x0) (x1), L30c26_3 (v9) (Int.fdiv (v9 + v10) 2) (x0) (x1), [Decidable.decide (v9 < v10) = Bool.true, InR IntKind.i64 (v9 + v10), InR IntKind.u64 (v9 + v10), (0 : Int) ≤ (1 : Int), InR IntKind.u64 (Int.fdiv (v9 + v10) 2), InR IntKind.i64 (Int.fdiv (v9 + v10) 2), 0 ≤ Int.fdiv (v9 + v10) 2, Int.fdiv (v9 + v10) 2 < (↑(List.length x0) : Int), True, Decidable.decide (g26_0 (List.getD x0 (Int.toNat (Int.fdiv (v9 + v10) 2)) (ByteArray.empty, ByteArray.empty, ByteArray.empty, ())) x1 < 0) = Bool.false]) := by kernel_rfl
theorem p30c26_3 (v9 : Int) (v10 : Int) (x0 : List (ByteArray × ByteArray × ByteArray × Unit)) (x1 : ByteArray × ByteArray × ByteArray × Unit) : runF tab ext30c26 false 49 [] 2000 [] oks30c26 kds30c26 tys30c26 Try.f30.results [false, true] (cutAt b30c26 3) (E30c26_3 v9 v10 x0 x1) (L30c26_3 v9 v10 x0 x1) = some ([Dyn.mk (Ty.int IntKind.i64) v9, Dyn.mk Ty.bool (g26_0 (List.getD x0 (Int.toNat v9) (ByteArray.empty, ByteArray.empty, ByteArray.empty, ())) x1 == 0)], [], [Decidable.decide (v9 < v10) = Bool.false, Decidable.decide (v9 < (↑(List.length x0) : Int)) = Bool.true, 0 ≤ v9, v9 < (↑(List.length x0) : Int), True]) := by kernel_rfl
theorem p30c26_4 (v9 : Int) (v10 : Int) (x0 : List (ByteArray × ByteArray × ByteArray × Unit)) (x1 : ByteArray × ByteArray × ByteArray × Unit) : runF tab ext30c26 false 49 [] 2000 [] oks30c26 kds30c26 tys30c26 Try.f30.results [false, false] (cutAt b30c26 3) (E30c26_3 v9 v10 x0 x1) (L30c26_3 v9 v10 x0 x1) = some ([Dyn.mk (Ty.int IntKind.i64) v9, Dyn.mk Ty.bool Bool.false], [], [Decidable.decide (v9 < v10) = Bool.false, Decidable.decide (v9 < (↑(List.length x0) : Int)) = Bool.false]) := by kernel_rfl
theorem snd30c26 : ∀ n, (∀ (x0 : List (ByteArray × ByteArray × ByteArray × Unit)) (x1 : ByteArray × ByteArray × ByteArray × Unit) ds, R30c26 n x0 x1 ds → ∀ K q, AtV Try.prog 30 (PostR kds30c26 oks30c26 ds [] [] q K) 49 K q [] [.code b30c26] (entE 0 0 sig30c26 (x0, x1, (), ())) (entL sig30c26 (x0, x1, (), ()))) ∧ (∀ (v9 : Int) (v10 : Int) (x0 : List (ByteArray × ByteArray × ByteArray × Unit)) (x1 : ByteArray × ByteArray × ByteArray × Unit) ds, R30c26_3 n v9 v10 x0 x1 ds → ∀ K q, AtV Try.prog 30 (PostR kds30c26 oks30c26 ds [] [] q K) 49 K q [] (cutAt b30c26 3) (E30c26_3 v9 v10 x0 x1) (L30c26_3 v9 v10 x0 x1)) := by
  intro n
  induction n with
  | zero => exact ⟨fun _ _ _ h => by simp only [R30c26] at h, fun _ _ _ _ _ h => by simp only [R30c26_3] at h⟩
  | succ n ih =>
  obtain ⟨ih, ih3⟩ := ih
  refine ⟨?_, ?_⟩
  · intro x0 x1 ds h K q
    rw [R30c26] at h
    exact AtV.runN tabOk ext30c26Ok mixed (p30c26_0 x0 x1) trivial (ih3 _ _ _ _ _ h K q)

  · intro v9 v10 x0 x1 ds h K q
    rw [R30c26_3] at h
    by_cases b0 : (Decidable.decide (v9 < v10)) = true
    · rw [if_pos b0] at h
      obtain ⟨s0, h⟩ := h
      obtain ⟨s1, h⟩ := h
      obtain ⟨s2, h⟩ := h
      obtain ⟨s3, h⟩ := h
      obtain ⟨s4, s5, h⟩ := h
      by_cases b1 : (Decidable.decide (g26_0 (List.getD x0 (Int.toNat (Int.fdiv (v9 + v10) 2)) (ByteArray.empty, ByteArray.empty, ByteArray.empty, ())) x1 < 0)) = true
      · rw [if_pos b1] at h
        obtain ⟨s6, h⟩ := h
        exact AtV.runN tabOk ext30c26Ok mixed (p30c26_1 v9 v10 x0 x1) ⟨b0, s0, s1, (by decide), s2, s3, s4, s5, trivial, b1, s6, trivial⟩ (ih3 _ _ _ _ _ h K q)
      · rw [if_neg b1] at h
        replace b1 := Bool.eq_false_iff.2 b1
        exact AtV.runN tabOk ext30c26Ok mixed (p30c26_2 v9 v10 x0 x1) ⟨b0, s0, s1, (by decide), s2, s3, s4, s5, trivial, b1, trivial⟩ (ih3 _ _ _ _ _ h K q)
    · rw [if_neg b0] at h
      replace b0 := Bool.eq_false_iff.2 b0
      by_cases b1 : (Decidable.decide (v9 < (↑(List.length x0) : Int))) = true
      · rw [if_pos b1] at h
        obtain ⟨s0, s1, h⟩ := h
        subst h
        exact AtV.fin Try.func30 tabOk ext30c26Ok mixed (p30c26_3 v9 v10 x0 x1) ⟨b0, b1, s0, s1, trivial, trivial⟩
      · rw [if_neg b1] at h
        replace b1 := Bool.eq_false_iff.2 b1
        subst h
        exact AtV.fin Try.func30 tabOk ext30c26Ok mixed (p30c26_4 v9 v10 x0 x1) ⟨b0, b1, trivial⟩



def p30c26 (x0 : List (ByteArray × ByteArray × ByteArray × Unit)) (x1 : ByteArray × ByteArray × ByteArray × Unit) (h : Nat) : Bool := decide (g26_0 (x0.getD h (ByteArray.empty, ByteArray.empty, ByteArray.empty, ())) x1 < 0)
def k30c26 (x0 : List (ByteArray × ByteArray × ByteArray × Unit)) (x1 : ByteArray × ByteArray × ByteArray × Unit) : Nat := bsearch (p30c26 x0 x1) (x0.length + 1) 0 x0.length
def f30c26 (x0 : List (ByteArray × ByteArray × ByteArray × Unit)) (x1 : ByteArray × ByteArray × ByteArray × Unit) (k : Nat) : Bool := if k < x0.length then g26_0 (x0.getD k (ByteArray.empty, ByteArray.empty, ByteArray.empty, ())) x1 == 0 else false
def g30c26_0 (x0 : List (ByteArray × ByteArray × ByteArray × Unit)) (x1 : ByteArray × ByteArray × ByteArray × Unit) : Int := (k30c26 x0 x1 : Nat)
def g30c26_1 (x0 : List (ByteArray × ByteArray × ByteArray × Unit)) (x1 : ByteArray × ByteArray × ByteArray × Unit) : Bool := f30c26 x0 x1 (k30c26 x0 x1)
def P30c26 (x0 : List (ByteArray × ByteArray × ByteArray × Unit)) (x1 : ByteArray × ByteArray × ByteArray × Unit) : Prop := x0.length ≤ 4611686018427387903

theorem u64_iff (n : Int) : InR .u64 n ↔ 0 ≤ n ∧ n ≤ 18446744073709551615 := by
  have e1 : (IntKind.u64).min = 0 := by decide
  have e2 : (IntKind.u64).max = 18446744073709551615 := by decide
  simp only [InR, e1, e2]

theorem run30c26 (x0 : List (ByteArray × ByteArray × ByteArray × Unit)) (x1 : ByteArray × ByteArray × ByteArray × Unit) (hm : x0.length ≤ 4611686018427387903) : ∀ (k i j : Nat), j - i < k → i ≤ j → j ≤ x0.length →
    R30c26_3 k (i : Int) (j : Int) x0 x1 [⟨.int .i64, ((bsearch (p30c26 x0 x1) k i j : Nat) : Int)⟩, ⟨.bool, f30c26 x0 x1 (bsearch (p30c26 x0 x1) k i j)⟩] := by
  intro k
  induction k with
  | zero => intro i j h; omega
  | succ k ih =>
    intro i j h hij hj
    rw [R30c26_3]
    by_cases hlt : i < j
    · rw [if_pos (by simpa using hlt)]
      have e : Int.fdiv ((i : Int) + (j : Int)) 2 = (((i + j) / 2 : Nat) : Int) := by
        rw [Int.fdiv_eq_ediv_of_nonneg _ (by omega)]
        omega
      rw [e]
      simp only [Int.toNat_natCast, i64_iff, u64_iff]
      refine ⟨by omega, by omega, by omega, by omega, by omega, by omega, ?_⟩
      simp only [bsearch, if_pos hlt]
      by_cases hp : p30c26 x0 x1 ((i + j) / 2) = true
      · rw [if_pos hp, if_pos (by exact hp)]
        refine ⟨by omega, ?_⟩
        exact ih ((i + j) / 2 + 1) j (by omega) (by omega) hj
      · rw [if_neg hp, if_neg (by exact hp)]
        exact ih i ((i + j) / 2) (by omega) (by omega) (by omega)
    · rw [if_neg (by simpa using hlt)]
      simp only [bsearch, if_neg hlt, f30c26]
      by_cases hl : i < x0.length
      · rw [if_pos (by simpa using hl)]
        refine ⟨by omega, by omega, ?_⟩
        simp [hl]
      · rw [if_neg (by simpa using hl)]
        simp [hl]

def S30c26 : Am.Spec := { sig := sig30c26, pre := fun ⟨x0, x1, _⟩ => P30c26 x0 x1, res := fun ⟨x0, x1, _⟩ => [⟨Ty.int .i64, g30c26_0 x0 x1⟩, ⟨Ty.bool, g30c26_1 x0 x1⟩] }
theorem con30c26 : Contract Try.prog 30 S30c26 := contract_of Try.func30 hb30c26 (Nat.le_of_ble_eq_true (by kernel_rfl)) (fun ⟨x0, x1, _⟩ h hwf K q =>
  (snd30c26 (x0.length + 1 + 1)).1 x0 x1 _ (by rw [R30c26]; exact run30c26 x0 x1 h (x0.length + 1) 0 x0.length (by omega) (by omega) (Nat.le_refl _)) K q)

end
end Go.Proofs.Ytohojjcoikkmcaa
