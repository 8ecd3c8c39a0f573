/- Several texts in one: the functions that this law reaches, and their laws. -/
import Derived.Test.YtpellcnihifdaaaGreatDoorZ3A
import Derived.Test.YtpellcnihifdaaaGreatDoorZ3B
import Derived.Test.YtpellcnihifdaaaGreatDoorZ3C
import Derived.Test.YtpellcnihifdaaaGreatDoorZ3D
import Derived.Shelf.Small.Bits
import Derived.Shelf.Utf8.RuneCount
import Derived.Shelf.Strconv.Itoa0
import Derived.Shelf.Strings.Search1
import Derived.Shelf.Strings.Search2
import Derived.Shelf.Strings.Search3
import Derived.Shelf.Strings.Count
import Derived.Shelf.LaysM
import Derived.Shelf.Strings.Shaped
import Derived.Shelf.Sort.Plain
import Derived.Shelf.Strings.Split
import Derived.Shelf.Strings.SplitShaped
import Derived.Shelf.Unicode.Decode
import Derived.Shelf.Strings.RuneCount
import Derived.Shelf.Strings.Explode
import Derived.Shelf.Unicode.DecodeSlow
import Derived.Shelf.Unicode.DecodeAny
import Derived.Shelf.Slices.In.SortNone
import Derived.Ground.SlgfProg
import Derived.Shelf.SlicesE.IndexFunc

/- The contracts of the library that this program uses, laid at this program. Written by a tool of the kit. -/
set_option linter.unusedVariables false
set_option maxRecDepth 100000
namespace Go.Proofs
open Go.Shelf
def Tryz.lays190_ren : Go.Shelf.Ren := ⟨fun | 190 => 44 | 125 => 63 | 258 => 62 | 128 => 85 | 129 => 86 | 302 => 76 | 303 => 77 | 304 => 78 | 305 => 79 | 306 => 80 | 307 => 81 | 308 => 82 | 309 => 83 | 310 => 84 | 333 => 95 | 329 => 96 | 330 => 97 | 334 => 98 | 335 => 99 | 336 => 74 | 344 => 105 | n => n, fun | 31 => 28 | 9 => 9 | 3 => 3 | 46 => 96 | 0 => 0 | 51 => 112 | 53 => 64 | 4 => 4 | 183 => 104 | 182 => 103 | 131 => 109 | 5 => 5 | 218 => 121 | 222 => 125 | 228 => 128 | 229 => 129 | n => n, fun | n => n⟩
theorem Tryz.lays190 : Go.Proofs.Lays.n190 Tryz.prog Tryz.lays190_ren := {
  mixed := by kernel_rfl
  f125 := Tryz.func63.trans (congrArg some (by kernel_rfl))
  f128 := Tryz.func85.trans (congrArg some (by kernel_rfl))
  f129 := Tryz.func86.trans (congrArg some (by kernel_rfl))
  f190 := Tryz.func44.trans (congrArg some (by kernel_rfl))
  f258 := Tryz.func62.trans (congrArg some (by kernel_rfl))
  f302 := Tryz.func76.trans (congrArg some (by kernel_rfl))
  f303 := Tryz.func77.trans (congrArg some (by kernel_rfl))
  f304 := Tryz.func78.trans (congrArg some (by kernel_rfl))
  f305 := Tryz.func79.trans (congrArg some (by kernel_rfl))
  f306 := Tryz.func80.trans (congrArg some (by kernel_rfl))
  f307 := Tryz.func81.trans (congrArg some (by kernel_rfl))
  f308 := Tryz.func82.trans (congrArg some (by kernel_rfl))
  f309 := Tryz.func83.trans (congrArg some (by kernel_rfl))
  f310 := Tryz.func84.trans (congrArg some (by kernel_rfl))
  f329 := Tryz.func96.trans (congrArg some (by kernel_rfl))
  f330 := Tryz.func97.trans (congrArg some (by kernel_rfl))
  f333 := Tryz.func95.trans (congrArg some (by kernel_rfl))
  f334 := Tryz.func98.trans (congrArg some (by kernel_rfl))
  f335 := Tryz.func99.trans (congrArg some (by kernel_rfl))
  f336 := Tryz.func74.trans (congrArg some (by kernel_rfl))
  f344 := Tryz.func105.trans (congrArg some (by kernel_rfl))
  t0 := Tryz.underlying0
  a0 := Tryz.isAgg0
  z0 := Tryz.sizeOf0
  v0 := Tryz.zeroValue0
  t3 := Tryz.underlying3
  a3 := Tryz.isAgg3
  z3 := Tryz.sizeOf3
  v3 := Tryz.zeroValue3
  t4 := Tryz.underlying4
  a4 := Tryz.isAgg4
  z4 := Tryz.sizeOf4
  v4 := Tryz.zeroValue4
  t5 := Tryz.underlying5
  a5 := Tryz.isAgg5
  z5 := Tryz.sizeOf5
  v5 := Tryz.zeroValue5
  t9 := Tryz.underlying9
  a9 := Tryz.isAgg9
  z9 := Tryz.sizeOf9
  v9 := Tryz.zeroValue9
  t31 := Tryz.underlying28
  a31 := Tryz.isAgg28
  z31 := Tryz.sizeOf28
  v31 := Tryz.zeroValue28
  t46 := Tryz.underlying96
  a46 := Tryz.isAgg96
  z46 := Tryz.sizeOf96
  v46 := Tryz.zeroValue96
  t51 := Tryz.underlying112
  a51 := Tryz.isAgg112
  z51 := Tryz.sizeOf112
  v51 := Tryz.zeroValue112
  t53 := Tryz.underlying64
  a53 := Tryz.isAgg64
  z53 := Tryz.sizeOf64
  v53 := Tryz.zeroValue64
  t131 := Tryz.underlying109
  a131 := Tryz.isAgg109
  z131 := Tryz.sizeOf109
  v131 := Tryz.zeroValue109
  t182 := Tryz.underlying103
  a182 := Tryz.isAgg103
  z182 := Tryz.sizeOf103
  v182 := Tryz.zeroValue103
  t183 := Tryz.underlying104
  a183 := Tryz.isAgg104
  z183 := Tryz.sizeOf104
  v183 := Tryz.zeroValue104
  t218 := Tryz.underlying121
  a218 := Tryz.isAgg121
  z218 := Tryz.sizeOf121
  v218 := Tryz.zeroValue121
  t222 := Tryz.underlying125
  a222 := Tryz.isAgg125
  z222 := Tryz.sizeOf125
  v222 := Tryz.zeroValue125
  t228 := Tryz.underlying128
  a228 := Tryz.isAgg128
  z228 := Tryz.sizeOf128
  v228 := Tryz.zeroValue128
  t229 := Tryz.underlying129
  a229 := Tryz.isAgg129
  z229 := Tryz.sizeOf129
  v229 := Tryz.zeroValue129 }
open Go.Sort Go.RowKit in theorem Tryz.slices_Sort_string (blk off cap : Nat) (ss : List (List UInt8)) (w : World) (hH : Holds encStr w blk off ss.toArray) (hblk : blk < w.heap.size) (hsz : ss.length < 4611686018427387904) :
    Calls Tryz.prog 44 #[.slice (some ⟨blk, off, none⟩) ss.length cap] w fun e w' =>
      e = .returned (.tuple #[]) ∧ ∃ n os, w' = grow (putRow encStr (Sort.ahead w n) blk off (ss.mergeSort fun x y => decide (x ≤ y)).toArray) os := Any.slices_Sort_string Tryz.lays190 blk off cap ss w hH hblk hsz
def Tryz.lays146_ren : Go.Shelf.Ren := ⟨fun | 146 => 29 | 221 => 51 | 268 => 67 | 138 => 68 | 143 => 69 | 195 => 87 | 197 => 88 | 218 => 89 | 219 => 90 | 260 => 100 | 217 => 101 | 225 => 102 | 224 => 103 | 267 => 104 | 266 => 106 | 314 => 107 | n => n, fun | 9 => 9 | 31 => 28 | 3 => 3 | 4 => 4 | 0 => 0 | 105 => 115 | 21 => 21 | 5 => 5 | 46 => 96 | 119 => 131 | 139 => 134 | 138 => 133 | 146 => 135 | 51 => 112 | n => n, fun | 1 => 0 | 3 => 1 | 4 => 2 | n => n⟩
theorem Tryz.lays146 : Go.Proofs.Lays.n146 Tryz.prog Tryz.lays146_ren := {
  mixed := by kernel_rfl
  f138 := Tryz.func68.trans (congrArg some (by kernel_rfl))
  f143 := Tryz.func69.trans (congrArg some (by kernel_rfl))
  f146 := Tryz.func29.trans (congrArg some (by kernel_rfl))
  f195 := Tryz.func87.trans (congrArg some (by kernel_rfl))
  f197 := Tryz.func88.trans (congrArg some (by kernel_rfl))
  f217 := Tryz.func101.trans (congrArg some (by kernel_rfl))
  f218 := Tryz.func89.trans (congrArg some (by kernel_rfl))
  f219 := Tryz.func90.trans (congrArg some (by kernel_rfl))
  f221 := Tryz.func51.trans (congrArg some (by kernel_rfl))
  f224 := Tryz.func103.trans (congrArg some (by kernel_rfl))
  f225 := Tryz.func102.trans (congrArg some (by kernel_rfl))
  f260 := Tryz.func100.trans (congrArg some (by kernel_rfl))
  f266 := Tryz.func106.trans (congrArg some (by kernel_rfl))
  f267 := Tryz.func104.trans (congrArg some (by kernel_rfl))
  f268 := Tryz.func67.trans (congrArg some (by kernel_rfl))
  f314 := Tryz.func107.trans (congrArg some (by kernel_rfl))
  t0 := Tryz.underlying0
  a0 := Tryz.isAgg0
  z0 := Tryz.sizeOf0
  v0 := Tryz.zeroValue0
  t3 := Tryz.underlying3
  a3 := Tryz.isAgg3
  z3 := Tryz.sizeOf3
  v3 := Tryz.zeroValue3
  t4 := Tryz.underlying4
  a4 := Tryz.isAgg4
  z4 := Tryz.sizeOf4
  v4 := Tryz.zeroValue4
  t5 := Tryz.underlying5
  a5 := Tryz.isAgg5
  z5 := Tryz.sizeOf5
  v5 := Tryz.zeroValue5
  t9 := Tryz.underlying9
  a9 := Tryz.isAgg9
  z9 := Tryz.sizeOf9
  v9 := Tryz.zeroValue9
  t21 := Tryz.underlying21
  a21 := Tryz.isAgg21
  z21 := Tryz.sizeOf21
  v21 := Tryz.zeroValue21
  t31 := Tryz.underlying28
  a31 := Tryz.isAgg28
  z31 := Tryz.sizeOf28
  v31 := Tryz.zeroValue28
  t46 := Tryz.underlying96
  a46 := Tryz.isAgg96
  z46 := Tryz.sizeOf96
  v46 := Tryz.zeroValue96
  t51 := Tryz.underlying112
  a51 := Tryz.isAgg112
  z51 := Tryz.sizeOf112
  v51 := Tryz.zeroValue112
  t105 := Tryz.underlying115
  a105 := Tryz.isAgg115
  z105 := Tryz.sizeOf115
  v105 := Tryz.zeroValue115
  t119 := Tryz.underlying131
  a119 := Tryz.isAgg131
  z119 := Tryz.sizeOf131
  t138 := Tryz.underlying133
  a138 := Tryz.isAgg133
  z138 := Tryz.sizeOf133
  v138 := Tryz.zeroValue133
  t139 := Tryz.underlying134
  a139 := Tryz.isAgg134
  z139 := Tryz.sizeOf134
  v139 := Tryz.zeroValue134
  t146 := Tryz.underlying135
  a146 := Tryz.isAgg135
  z146 := Tryz.sizeOf135
  v146 := Tryz.zeroValue135
  g1 := by kernel_rfl
  g3 := by kernel_rfl
  g4 := by kernel_rfl }
open Go.RowKit Go.Lib in theorem Tryz.strings_Split (s sep : ByteArray) (m : Int) (w : World) (hs : s.size < 4294967281) (hm : w.cell? ⟨0, 0, none⟩ = some (.int .i64 m)) (h1 : 1 ≤ sep.size) :
    Calls Tryz.prog 29 #[.string s, .string sep] w fun e w' =>
      e = .returned (.slice (some ⟨w.heap.size, 0, none⟩) (Lib.countB s sep + 1) (Lib.countB s sep + 1)) ∧ w' = w.alloc (.cells ((Lib.splitB sep 0 (Lib.countB s sep) s).map Value.string).toArray 9) := Any.strings_Split Tryz.lays146 (by kernel_rfl) s sep m w hs hm h1
open Go.RowKit Go.Sort in theorem Tryz.slices_Sort_string_none (p : Option Addr) (cap : Nat) (w : World) :
    Calls Tryz.prog 44 #[.slice p 0 cap] w fun e w' => e = .returned (.tuple #[]) ∧ w' = w := Any.slices_Sort_string_none Tryz.lays190 p cap w
end Go.Proofs

/- Function 44 (slices.Sort[[]string,string]): its contract, off what is known of the library. -/
set_option linter.unusedVariables false
set_option linter.unusedSimpArgs false
set_option maxRecDepth 100000
namespace Go.Proofs.YtpellcnihifdaaaGreatDoor
open Go Go.Am Go.Proofs

def sig44 : List AT := [AT.own Ty.str]
def u44_0 (x0 : List ByteArray) : List ByteArray := sortB x0
def P44 (x0 : List ByteArray) : Prop := x0.length ≤ 1048576
def S44 : Am.Spec := { sig := sig44, pre := fun ⟨x0, _⟩ => P44 x0, upd := fun ⟨x0, _⟩ => [some ⟨Ty.str, u44_0 x0⟩], res := fun _ => [] }

theorem u44_perm (x0 : List ByteArray) : (u44_0 x0).Perm x0 := sortB_perm x0

theorem u44_bls (x0 : List ByteArray) : bls (u44_0 x0) = (bls x0).mergeSort fun x y => decide (x ≤ y) := by
  unfold u44_0 sortB bls sbl
  rw [List.map_map]
  conv => rhs; rw [← List.map_id (List.mergeSort _ _)]
  rfl

theorem con44 : Contract Tryz.prog 44 S44 := by
  refine Contract0.up rfl rfl ?_
  rintro w ⟨x0, u⟩ vs bss hgo hp ⟨v, s, b, bs, rfl, rfl, ho, rfl, rfl⟩ hn
  have hp : x0.length ≤ 1048576 := hp
  simp only [List.flatten_cons, List.flatten_nil, List.append_nil] at hn ⊢
  obtain ⟨hs, hcase⟩ := strs_own ho
  have hlen : (u44_0 x0).length = x0.length := (u44_perm x0).length_eq
  have hs' : ∀ y ∈ u44_0 x0, y.size ≤ maxLen := fun y hy => hs y ((u44_perm x0).mem_iff.1 hy)
  have hm : x0.length ≤ maxLen := by unfold maxLen; omega
  rcases hcase with ⟨ad, rfl, rfl, rfl⟩ | ⟨b', off, cap, cur, ty, fz, rfl, h2, h3, h4, h5, h6, rfl, h8⟩
  · refine (Tryz.slices_Sort_string_none ad 0 w).mono ?_
    rintro e w' ⟨rfl, rfl⟩
    refine ⟨[], [[]], [], rfl, Kept.refl _ _, ⟨rfl, rfl⟩, ⟨_, _, _, _, rfl, rfl, ?_, rfl, rfl⟩, by simp, by simp⟩
    exact ⟨_, rfl, by simp [u44_0, sortB, bls, sbl], .inl ⟨_, rfl, by simp [u44_0, sortB, bls, sbl], rfl⟩⟩
  · have hb : b' < w.heap.size := by
      rcases Nat.lt_or_ge b' w.heap.size with h | h
      · exact h
      · rw [Array.getElem?_eq_none h] at h5; cases h5
    have hbl : (bls x0).length = x0.length := by simp [bls]
    have := Tryz.slices_Sort_string b' off cap (bls x0) w (strs_holds h5 h6 h8) hb (by rw [hbl]; omega)
    rw [hbl] at this
    refine this.mono ?_
    rintro e w' ⟨rfl, n, os, hw⟩
    rw [← u44_bls] at hw
    obtain ⟨g1, g2⟩ := strs_turned hlen hm hs' h2 h3 h4 h5 h6 hw
    refine ⟨[], [[b']], [], rfl, g2, ⟨rfl, rfl⟩, ⟨_, _, _, _, rfl, rfl, g1, rfl, rfl⟩, by simp, fun b hb hg => ?_⟩
    simp at hb
    exact hg.2 (by simp [hb])

end Go.Proofs.YtpellcnihifdaaaGreatDoor

/- Function 27 (impl.under): its runs between cut points. Written by a program of this repo (gen). -/
set_option linter.unusedVariables false
set_option linter.unusedSimpArgs false
set_option maxRecDepth 100000
namespace Go.Proofs.YtpellcnihifdaaaGreatDoor
open Go Go.Am Go.Proofs
noncomputable section
def ext27 : Ext := [(46, S46), (43, S43), (44, S44)]
theorem call27_46 : Callable Tryz.prog 46 := ⟨Tryz.f46, Tryz.func46, by kernel_rfl, by kernel_rfl⟩
theorem call27_43 : Callable Tryz.prog 43 := ⟨Tryz.f43, Tryz.func43, by kernel_rfl, by kernel_rfl⟩
theorem call27_44 : Callable Tryz.prog 44 := ⟨Tryz.f44, Tryz.func44, by kernel_rfl, by kernel_rfl⟩
theorem ext27Ok : ExtOk Tryz.prog ext27 := ⟨⟨call27_46, con46⟩, ⟨call27_43, con43⟩, ⟨call27_44, con44⟩, trivial⟩

noncomputable def b27 : Code := bodyOf Tryz.f27
theorem hb27 : Tryz.f27.body = some b27 := by kernel_rfl
def sig27 : List AT := [AT.v (Ty.sl (Ty.cons Ty.str (Ty.cons (Ty.sl Ty.str) Ty.unit))), AT.v (Ty.str)]
def tys27 : List Ty := [Ty.sl Ty.str]
def kds27 : List RK := []
def oks27 : List AT := owns sig27
def E27_4 (v7 : Int) (h0 : List ByteArray) (h1 : List ByteArray) (x0 : List (ByteArray × List ByteArray × Unit)) : Env := [(0, PV.a (Atom.sl (Ty.cons Ty.str (Ty.cons (Ty.sl Ty.str) Ty.unit)) x0)), (5, PV.a (Atom.osl 0 Option.none)), (6, PV.a (Atom.osl 1 Option.none)), (7, PV.a (Atom.val (Value.int IntKind.i64 v7)))]
def L27_4 (v7 : Int) (h0 : List ByteArray) (h1 : List ByteArray) (x0 : List (ByteArray × List ByteArray × Unit)) : Heap := [Option.some (Arr.mk Ty.str h0 Bool.false Option.none Option.none), Option.some (Arr.mk Ty.str h1 Bool.false Option.none Option.none)]
def E27_7 (v29 : Int) (h0 : List ByteArray) (h1 : List ByteArray) (x0 : List (ByteArray × List ByteArray × Unit)) (v7 : Int) (h1a : List ByteArray) : Env := [(0, PV.a (Atom.sl (Ty.cons Ty.str (Ty.cons (Ty.sl Ty.str) Ty.unit)) x0)), (5, PV.a (Atom.osl 0 Option.none)), (6, PV.a (Atom.osl 1 Option.none)), (7, PV.a (Atom.val (Value.int IntKind.i64 v7))), (27, PV.a (Atom.sl Ty.str (Prod.fst (Prod.snd (List.getD x0 (Int.toNat (g46_0 x0 (List.getD h1a (Int.toNat v7) ByteArray.empty))) (ByteArray.empty, [], ())))))), (28, PV.a (Atom.val (Value.int IntKind.i64 (↑(List.length (Prod.fst (Prod.snd (List.getD x0 (Int.toNat (g46_0 x0 (List.getD h1a (Int.toNat v7) ByteArray.empty))) (ByteArray.empty, [], ()))))) : Int)))), (29, PV.a (Atom.val (Value.int IntKind.i64 v29)))]
def L27_7 (v29 : Int) (h0 : List ByteArray) (h1 : List ByteArray) (x0 : List (ByteArray × List ByteArray × Unit)) (v7 : Int) (h1a : List ByteArray) : Heap := [Option.some (Arr.mk Ty.str h0 Bool.false Option.none Option.none), Option.some (Arr.mk Ty.str h1 Bool.false Option.none Option.none)]
mutual
def R27 : Nat → List (ByteArray × List ByteArray × Unit) → ByteArray → List Dyn → Prop
  | 0, _, _, _ => False
  | n + 1, x0, x1, ds => (R27_4 n (0) ([]) ([x1]) (x0) ds)
def R27_4 : Nat → Int → List ByteArray → List ByteArray → List (ByteArray × List ByteArray × Unit) → List Dyn → Prop
  | 0, _, _, _, _, _ => False
  | n + 1, v7, h0, h1, x0, ds => (if (Decidable.decide (v7 < (↑(List.length h1) : Int))) = true then ((0 ≤ v7) ∧ (v7 < (↑(List.length h1) : Int)) ∧ ((0 ≤ g46_0 x0 (List.getD h1 (Int.toNat v7) ByteArray.empty)) ∧ (g46_0 x0 (List.getD h1 (Int.toNat v7) ByteArray.empty) < (↑(List.length x0) : Int)) ∧ (R27_7 n (0) (h0) (h1) (x0) (v7) (h1) ds))) else ((P44 h0) ∧ (List.length (u44_0 h0) = List.length h0) ∧ (ds = [Dyn.mk (Ty.sl Ty.str) (u44_0 h0)])))
def R27_7 : Nat → Int → List ByteArray → List ByteArray → List (ByteArray × List ByteArray × Unit) → Int → List ByteArray → List Dyn → Prop
  | 0, _, _, _, _, _, _, _ => False
  | n + 1, v29, h0, h1, x0, v7, h1a, ds => (if (Decidable.decide (v29 < (↑(List.length (Prod.fst (Prod.snd (List.getD x0 (Int.toNat (g46_0 x0 (List.getD h1a (Int.toNat v7) ByteArray.empty))) (ByteArray.empty, [], ()))))) : Int))) = true then ((0 ≤ v29) ∧ (v29 < (↑(List.length (Prod.fst (Prod.snd (List.getD x0 (Int.toNat (g46_0 x0 (List.getD h1a (Int.toNat v7) ByteArray.empty))) (ByteArray.empty, [], ()))))) : Int)) ∧ (if (!g43_0 h0 (List.getD (Prod.fst (Prod.snd (List.getD x0 (Int.toNat (g46_0 x0 (List.getD h1a (Int.toNat v7) ByteArray.empty))) (ByteArray.empty, [], ())))) (Int.toNat v29) ByteArray.empty)) = true then (((List.length h0 + 1) * 16 ≤ 140737488355328) ∧ (((List.length h1 + 1) * 16 ≤ 140737488355328) ∧ ((InR IntKind.i64 (v29 + 1)) ∧ (R27_7 n (v29 + 1) (h0 ++ [List.getD (Prod.fst (Prod.snd (List.getD x0 (Int.toNat (g46_0 x0 (List.getD h1a (Int.toNat v7) ByteArray.empty))) (ByteArray.empty, [], ())))) (Int.toNat v29) ByteArray.empty]) (h1 ++ [List.getD (Prod.fst (Prod.snd (List.getD x0 (Int.toNat (g46_0 x0 (List.getD h1a (Int.toNat v7) ByteArray.empty))) (ByteArray.empty, [], ())))) (Int.toNat v29) ByteArray.empty]) (x0) (v7) (h1a) ds)))) else ((InR IntKind.i64 (v29 + 1)) ∧ (R27_7 n (v29 + 1) (h0) (h1) (x0) (v7) (h1a) ds)))) else ((InR IntKind.i64 (v7 + 1)) ∧ (R27_4 n (v7 + 1) (h0) (h1) (x0) ds)))
end
theorem snd27 : ∀ n, (∀ (x0 : List (ByteArray × List ByteArray × Unit)) (x1 : ByteArray) ds, R27 n x0 x1 ds → ∀ K q, AtV Tryz.prog 27 (PostR kds27 oks27 ds [] [] q K) 49 K q [] [.code b27] (entE 0 0 sig27 (x0, x1, ())) (entL sig27 (x0, x1, ()))) ∧ (∀ (v7 : Int) (h0 : List ByteArray) (h1 : List ByteArray) (x0 : List (ByteArray × List ByteArray × Unit)) ds, R27_4 n v7 h0 h1 x0 ds → ∀ K q, AtV Tryz.prog 27 (PostR kds27 oks27 ds [] [] q K) 49 K q [] (cutAt b27 4) (E27_4 v7 h0 h1 x0) (L27_4 v7 h0 h1 x0)) ∧ (∀ (v29 : Int) (h0 : List ByteArray) (h1 : List ByteArray) (x0 : List (ByteArray × List ByteArray × Unit)) (v7 : Int) (h1a : List ByteArray) ds, R27_7 n v29 h0 h1 x0 v7 h1a ds → ∀ K q, AtV Tryz.prog 27 (PostR kds27 oks27 ds [] [] q K) 49 K q [] (cutAt b27 7) (E27_7 v29 h0 h1 x0 v7 h1a) (L27_7 v29 h0 h1 x0 v7 h1a)) := by
  intro n
  induction n with
  | zero => exact ⟨fun _ _ _ h => by simp only [R27] at h, fun _ _ _ _ _ h => by simp only [R27_4] at h, fun _ _ _ _ _ _ _ h => by simp only [R27_7] at h⟩
  | succ n ih =>
  obtain ⟨ih, ih4, ih7⟩ := ih
  refine ⟨?_, ?_, ?_⟩
  · intro x0 x1 ds h K q
    rw [R27] at h
    exact AtV.go tabOk ext27Ok mixed false [] [(5, Ty.str)] [0, 5, 6, 7] [1, 0] [] trivial (ih4 _ _ _ _ _ h K q) (by kernel_rfl)

  · intro v7 h0 h1 x0 ds h K q
    rw [R27_4] at h
    by_cases b0 : (Decidable.decide (v7 < (↑(List.length h1) : Int))) = true
    · rw [if_pos b0] at h
      obtain ⟨s0, s1, h⟩ := h
      obtain ⟨s2, s3, h⟩ := h
      exact AtV.go tabOk ext27Ok mixed false [] [] [0, 5, 6, 7, 27, 28, 29] [0, 1] [true] (a1 b0 (a1 s0 (a1 s1 (a1 trivial (a1 s2 (a1 s3 trivial)))))) (ih7 _ _ _ _ _ _ _ h K q) (by kernel_rfl)
    · rw [if_neg b0] at h
      replace b0 := Bool.eq_false_iff.2 b0
      obtain ⟨s0, s1, h⟩ := h
      subst h
      exact AtV.ret Tryz.func27 tabOk ext27Ok mixed false [] tys27 [false] (a1 b0 (a1 s0 (a1 s1 trivial))) (by kernel_rfl)

  · intro v29 h0 h1 x0 v7 h1a ds h K q
    rw [R27_7] at h
    by_cases b0 : (Decidable.decide (v29 < (↑(List.length (Prod.fst (Prod.snd (List.getD x0 (Int.toNat (g46_0 x0 (List.getD h1a (Int.toNat v7) ByteArray.empty))) (ByteArray.empty, [], ()))))) : Int))) = true
    · rw [if_pos b0] at h
      obtain ⟨s0, s1, h⟩ := h
      by_cases b1 : (!g43_0 h0 (List.getD (Prod.fst (Prod.snd (List.getD x0 (Int.toNat (g46_0 x0 (List.getD h1a (Int.toNat v7) ByteArray.empty))) (ByteArray.empty, [], ())))) (Int.toNat v29) ByteArray.empty)) = true
      · rw [if_pos b1] at h
        obtain ⟨s2, h⟩ := h
        obtain ⟨s3, h⟩ := h
        obtain ⟨s4, h⟩ := h
        exact AtV.go tabOk ext27Ok mixed false [] [] [0, 5, 6, 7, 27, 28, 29] [0, 1] [true, true] (a1 b0 (a1 s0 (a1 s1 (a1 trivial (a1 b1 (a1 s2 (a1 s3 (a1 s4 trivial)))))))) (ih7 _ _ _ _ _ _ _ h K q) (by kernel_rfl)
      · rw [if_neg b1] at h
        replace b1 := Bool.eq_false_iff.2 b1
        obtain ⟨s2, h⟩ := h
        exact AtV.go tabOk ext27Ok mixed false [] [] [0, 5, 6, 7, 27, 28, 29] [0, 1] [true, false] (a1 b0 (a1 s0 (a1 s1 (a1 trivial (a1 b1 (a1 s2 trivial)))))) (ih7 _ _ _ _ _ _ _ h K q) (by kernel_rfl)
    · rw [if_neg b0] at h
      replace b0 := Bool.eq_false_iff.2 b0
      obtain ⟨s0, h⟩ := h
      exact AtV.go tabOk ext27Ok mixed false [] [(5, Ty.str)] [0, 5, 6, 7] [0, 1] [false] (a1 b0 (a1 s0 trivial)) (ih4 _ _ _ _ _ h K q) (by kernel_rfl)



abbrev RL27 := ByteArray × List ByteArray × Unit
abbrev und27 (x0 : List RL27) (a : ByteArray) : List ByteArray := (x0.getD (g46_0 x0 a).toNat (ByteArray.empty, [], ())).2.1
def add27 (all : List ByteArray) (n : ByteArray) : List ByteArray := if (!g43_0 all n) = true then all ++ [n] else all
def vis27 (x0 : List RL27) (all : List ByteArray) (a : ByteArray) : List ByteArray := (und27 x0 a).foldl add27 all
def bfs27 (x0 : List RL27) (x1 : ByteArray) : Nat → Nat → List ByteArray → List ByteArray
  | 0, _, all => all
  | f + 1, k, all => if k < all.length + 1 then bfs27 x0 x1 f (k + 1) (vis27 x0 all ((x1 :: all).getD k ByteArray.empty)) else all
def g27_0 (x0 : List RL27) (x1 : ByteArray) : List ByteArray := sortB (bfs27 x0 x1 (x0.length + 2) 0 [])
def In27 (x0 : List RL27) (n : ByteArray) : Prop := 0 ≤ g46_0 x0 n ∧ g46_0 x0 n < (x0.length : Int)
def P27 (x0 : List RL27) (x1 : ByteArray) : Prop := x0.length ≤ 1000 ∧ (∀ r ∈ x0, ∀ n ∈ r.2.1, In27 x0 n) ∧ In27 x0 x1

theorem has27 (l : List ByteArray) (n : ByteArray) : g43_0 l n = true ↔ n ∈ l := by
  show decide (g61_0 l n ≥ 0) = true ↔ n ∈ l
  rw [any61, List.any_eq_true]
  unfold is61
  constructor
  · rintro ⟨y, hy, h⟩
    rw [(bytes_eq _ _).1 h]
    exact hy
  · exact fun h => ⟨n, h, (bytes_eq _ _).2 rfl⟩

theorem nodup_le27 : ∀ (l m : List ByteArray), l.Nodup → (∀ x ∈ l, x ∈ m) → l.length ≤ m.length
  | [], _, _, _ => Nat.zero_le _
  | a :: l, m, hn, hs => by
    obtain ⟨h1, h2⟩ := List.nodup_cons.1 hn
    obtain ⟨s, t, rfl⟩ := List.append_of_mem (hs a (List.mem_cons_self ..))
    have := nodup_le27 l (s ++ t) h2 fun x hx => by
      have h := hs x (List.mem_cons_of_mem _ hx)
      simp only [List.mem_append, List.mem_cons] at h ⊢
      rcases h with h | h | h
      · exact .inl h
      · exact absurd (h ▸ hx) h1
      · exact .inr h
    simp only [List.length_append, List.length_cons] at this ⊢
    omega

def Ok27 (x0 : List RL27) (all : List ByteArray) : Prop := all.Nodup ∧ ∀ n ∈ all, In27 x0 n

theorem role27 {x0 : List RL27} {n : ByteArray} (h : In27 x0 n) : n ∈ x0.map fun r => r.1 := by
  have h0 := h.1
  have hl := h.2
  unfold In27 at h
  have e : g46_0 x0 n = idx (x0.findIdx? fun r => g65_0 r n) := rfl
  rw [e] at h0
  cases hf : x0.findIdx? fun r => g65_0 r n with
  | none => rw [hf] at h0; exact absurd h0 (by decide)
  | some k =>
    obtain ⟨hk, hr, _⟩ := List.findIdx?_eq_some_iff_getElem.1 hf
    have hr : (ByteArray.toList x0[k].1 == ByteArray.toList n) = true := hr
    rw [List.mem_map]
    exact ⟨x0[k], List.getElem_mem hk, (bytes_eq _ _).1 hr⟩

theorem Ok27.le {x0 : List RL27} {all : List ByteArray} (h : Ok27 x0 all) : all.length ≤ x0.length := by
  have := nodup_le27 all (x0.map fun r => r.1) h.1 fun n hn => role27 (h.2 n hn)
  rwa [List.length_map] at this

theorem Ok27.add {x0 : List RL27} {all : List ByteArray} (h : Ok27 x0 all) {n : ByteArray} (hn : In27 x0 n) : Ok27 x0 (add27 all n) := by
  unfold add27
  by_cases c : g43_0 all n = true
  · rw [if_neg (by rw [c]; decide)]
    exact h
  · rw [if_pos (by rw [Bool.eq_false_iff.2 c]; rfl)]
    have c : n ∉ all := fun hh => c ((has27 all n).2 hh)
    refine ⟨?_, fun x hx => ?_⟩
    · rw [List.nodup_append]
      exact ⟨h.1, by simp, fun a ha b hb => by simp at hb; subst hb; exact fun e => c (e ▸ ha)⟩
    · rcases List.mem_append.1 hx with hx | hx
      · exact h.2 x hx
      · rw [List.mem_singleton.1 hx]; exact hn

theorem unds27 {x0 : List RL27} (hp : ∀ r ∈ x0, ∀ n ∈ r.2.1, In27 x0 n) {a : ByteArray} (ha : In27 x0 a) : ∀ n ∈ und27 x0 a, In27 x0 n := by
  exact hp _ (mem_getD x0 _ _ (by have := ha.1; have := ha.2; omega))

theorem Ok27.fold {x0 : List RL27} : ∀ (l : List ByteArray) {all : List ByteArray}, Ok27 x0 all → (∀ n ∈ l, In27 x0 n) → Ok27 x0 (l.foldl add27 all)
  | [], _, h, _ => h
  | a :: l, all, h, hl => Ok27.fold l (h.add (hl a (List.mem_cons_self ..))) fun n hn => hl n (List.mem_cons_of_mem _ hn)

theorem inner27 (x0 : List RL27) (x1 : ByteArray) (ds : List Dyn) (hx : x0.length ≤ 1000) (v7 : Int) (h1a : List ByteArray) (hu : ∀ n ∈ (x0.getD (g46_0 x0 (h1a.getD v7.toNat ByteArray.empty)).toNat (ByteArray.empty, [], ())).2.1, In27 x0 n) (hul : (x0.getD (g46_0 x0 (h1a.getD v7.toNat ByteArray.empty)).toNat (ByteArray.empty, [], ())).2.1.length ≤ maxLen) (i7 : InR .i64 (v7 + 1)) (m : Nat) :
    ∀ (k j : Nat) (h0 : List ByteArray), j + k = (x0.getD (g46_0 x0 (h1a.getD v7.toNat ByteArray.empty)).toNat (ByteArray.empty, [], ())).2.1.length → Ok27 x0 h0 → R27_4 m (v7 + 1) (((x0.getD (g46_0 x0 (h1a.getD v7.toNat ByteArray.empty)).toNat (ByteArray.empty, [], ())).2.1.drop j).foldl add27 h0) (x1 :: (((x0.getD (g46_0 x0 (h1a.getD v7.toNat ByteArray.empty)).toNat (ByteArray.empty, [], ())).2.1.drop j).foldl add27 h0)) x0 ds → R27_7 (m + k + 1) (j : Int) h0 (x1 :: h0) x0 v7 h1a ds := by
  intro k
  induction k with
  | zero =>
    intro j h0 hj ho hr
    rw [List.drop_eq_nil_of_le (by omega)] at hr
    show R27_7 (m + 0 + 1) _ _ _ _ _ _ _
    rw [R27_7, if_neg (show ¬ decide ((j : Int) < ((x0.getD (g46_0 x0 (h1a.getD v7.toNat ByteArray.empty)).toNat (ByteArray.empty, [], ())).2.1.length : Int)) = true by simp only [decide_eq_true_eq]; omega)]
    exact ⟨i7, hr⟩
  | succ k ih =>
    intro j h0 hj ho hr
    have hlt : j < (x0.getD (g46_0 x0 (h1a.getD v7.toNat ByteArray.empty)).toNat (ByteArray.empty, [], ())).2.1.length := by omega
    have hn := hu _ (mem_getD _ j ByteArray.empty hlt)
    rw [drop_get _ j ByteArray.empty hlt, List.foldl_cons] at hr
    have ih := ih (j + 1) _ (by omega) (ho.add hn) hr
    have hle := ho.le
    have e3 : (j : Int) + 1 = ((j + 1 : Nat) : Int) := by omega
    show R27_7 (m + k + 1 + 1) _ _ _ _ _ _ _
    rw [R27_7, if_pos (show decide ((j : Int) < ((x0.getD (g46_0 x0 (h1a.getD v7.toNat ByteArray.empty)).toNat (ByteArray.empty, [], ())).2.1.length : Int)) = true by simp only [decide_eq_true_eq]; omega)]
    simp only [Int.toNat_natCast]
    refine ⟨by omega, show (j : Int) < ((x0.getD (g46_0 x0 (h1a.getD v7.toNat ByteArray.empty)).toNat (ByteArray.empty, [], ())).2.1.length : Int) by omega, ?_⟩
    unfold add27 at ih
    by_cases c : (!g43_0 h0 ((x0.getD (g46_0 x0 (h1a.getD v7.toNat ByteArray.empty)).toNat (ByteArray.empty, [], ())).2.1.getD j ByteArray.empty)) = true
    · rw [if_pos c] at ih
      refine (if_pos c).mpr ?_
      exact ⟨by omega, by simp only [List.length_cons]; omega, by rw [e3]; exact inR_up (by omega) hlt, by rw [e3]; exact ih⟩
    · rw [if_neg c] at ih
      refine (if_neg c).mpr ?_
      exact ⟨by rw [e3]; exact inR_up (by omega) hlt, by rw [e3]; exact ih⟩

theorem grow27 : ∀ (l all : List ByteArray), all.length ≤ (l.foldl add27 all).length
  | [], _ => Nat.le_refl _
  | a :: l, all => by
    have h : all.length ≤ (add27 all a).length := by
      unfold add27
      split
      · simp
      · exact Nat.le_refl _
    exact Nat.le_trans h (grow27 l _)

theorem outer27 (x0 : List RL27) (x1 : ByteArray) (h : P27 x0 x1) (hw : ∀ r ∈ x0, r.2.1.length ≤ maxLen) : ∀ (f k : Nat) (all : List ByteArray), k ≤ all.length + 1 → Ok27 x0 all → x0.length + 2 ≤ f + k → ∃ m, R27_4 m (k : Int) all (x1 :: all) x0 [⟨.sl .str, sortB (bfs27 x0 x1 f k all)⟩] := by
  obtain ⟨h1, h2, h3⟩ := h
  intro f
  induction f with
  | zero =>
    intro k all hk ho hf
    have := ho.le
    omega
  | succ f ih =>
    intro k all hk ho hf
    have hle := ho.le
    by_cases c : k < all.length + 1
    · have hin : In27 x0 ((x1 :: all).getD k ByteArray.empty) := by
        rcases List.mem_cons.1 (mem_getD (x1 :: all) k ByteArray.empty (by rw [List.length_cons]; omega)) with e | e
        · rw [e]; exact h3
        · exact ho.2 _ e
      have hu := unds27 h2 hin
      have hr := mem_getD x0 (g46_0 x0 ((x1 :: all).getD k ByteArray.empty)).toNat (ByteArray.empty, [], ()) (by have := hin.1; have := hin.2; omega)
      have ho2 : Ok27 x0 (vis27 x0 all ((x1 :: all).getD k ByteArray.empty)) := Ok27.fold _ ho hu
      obtain ⟨m, hm⟩ := ih (k + 1) (vis27 x0 all ((x1 :: all).getD k ByteArray.empty)) (by have := grow27 (und27 x0 ((x1 :: all).getD k ByteArray.empty)) all; have e : vis27 x0 all ((x1 :: all).getD k ByteArray.empty) = (und27 x0 ((x1 :: all).getD k ByteArray.empty)).foldl add27 all := rfl; rw [e]; omega) ho2 (by omega)
      have e3 : ((k + 1 : Nat) : Int) = (k : Int) + 1 := by omega
      rw [e3] at hm
      have hi := inner27 x0 x1 _ h1 (k : Int) (x1 :: all) (by simp only [Int.toNat_natCast]; exact hu) (by simp only [Int.toNat_natCast]; exact hw _ hr) (by rw [i64_iff]; omega) m _ 0 all (by rw [Nat.zero_add]) ho (by simp only [Int.toNat_natCast, List.drop_zero]; exact hm)
      exact ⟨_ + 1, by
        rw [R27_4, if_pos (by simp only [decide_eq_true_eq, List.length_cons]; omega)]
        simp only [Int.toNat_natCast]
        unfold bfs27
        rw [if_pos c]
        exact ⟨by omega, by simp only [List.length_cons]; omega, hin.1, hin.2, hi⟩⟩
    · refine ⟨1, ?_⟩
      rw [R27_4, if_neg (by simp only [decide_eq_true_eq, List.length_cons]; omega)]
      unfold bfs27
      rw [if_neg c]
      exact ⟨by show _ ≤ 1048576; omega, (sortB_perm all).length_eq, rfl⟩

theorem top27 (x0 : List RL27) (x1 : ByteArray) (h : P27 x0 x1) (hw : ∀ r ∈ x0, r.2.1.length ≤ maxLen) : ∃ n, R27 n x0 x1 [⟨.sl .str, g27_0 x0 x1⟩] := by
  obtain ⟨m, hm⟩ := outer27 x0 x1 h hw (x0.length + 2) 0 [] (by simp) ⟨List.nodup_nil, fun n hn => by cases hn⟩ (by omega)
  exact ⟨m + 1, by rw [R27]; exact hm⟩

def S27 : Am.Spec := { sig := sig27, pre := fun ⟨x0, x1, _⟩ => P27 x0 x1, res := fun ⟨x0, x1, _⟩ => [⟨.sl .str, g27_0 x0 x1⟩] }
theorem con27 : Contract Tryz.prog 27 S27 := contract_of Tryz.func27 hb27 (Nat.le_of_ble_eq_true (by kernel_rfl)) (fun ⟨x0, x1, _⟩ h hwf K q =>
  let ⟨_, hn⟩ := top27 x0 x1 h (fun r hr => (hwf.1.2 r hr).2.1.1)
  (snd27 _).1 x0 x1 _ hn K q)

end
end Go.Proofs.YtpellcnihifdaaaGreatDoor

/- Function 50 (impl.ValidRoles$2): its runs between cut points. Written by a program of this repo (gen). -/
set_option linter.unusedVariables false
set_option linter.unusedSimpArgs false
set_option maxRecDepth 100000
namespace Go.Proofs.YtpellcnihifdaaaGreatDoor
open Go Go.Am Go.Proofs
noncomputable section
def ext50 : Ext := [(27, S27), (43, S43)]
theorem call50_27 : Callable Tryz.prog 27 := ⟨Tryz.f27, Tryz.func27, by kernel_rfl, by kernel_rfl⟩
theorem call50_43 : Callable Tryz.prog 43 := ⟨Tryz.f43, Tryz.func43, by kernel_rfl, by kernel_rfl⟩
theorem ext50Ok : ExtOk Tryz.prog ext50 := ⟨⟨call50_27, con27⟩, ⟨call50_43, con43⟩, trivial⟩

noncomputable def b50 : Code := bodyOf Tryz.f50
theorem hb50 : Tryz.f50.body = some b50 := by kernel_rfl
def sig50 : List AT := [AT.v (Ty.str), AT.p (.sl (.cons .str (.cons (.sl .str) .unit)))]
def tys50 : List Ty := [Ty.bool]
def kds50 : List RK := []
def oks50 : List AT := owns sig50
def P50 (x0 : ByteArray) (x1 : List (ByteArray × List ByteArray × Unit)) : Prop := ((P27 x1 x0) ∧ True)
def g50_0 (x0 : ByteArray) (x1 : List (ByteArray × List ByteArray × Unit)) : Bool := g43_0 (g27_0 x1 x0) x0
theorem at50 (x0 : ByteArray) (x1 : List (ByteArray × List ByteArray × Unit)) (h : P50 x0 x1) (K : Ctx) (q : Nat → Value) : AtV Tryz.prog 50 (PostR kds50 oks50 [⟨Ty.bool, g50_0 x0 x1⟩] [] [] q K) 9 K q [] [.code b50] (entE 0 0 sig50 (x0, x1, ())) (entL sig50 (x0, x1, ())) := by
  unfold P50 at h
  unfold g50_0
  obtain ⟨s0, h⟩ := h
  exact AtV.ret Tryz.func50 tabOk ext50Ok mixed false [] tys50 [] (a1 s0 (a1 trivial trivial)) (by kernel_rfl)

def S50 : Am.Spec := { sig := sig50, pre := fun ⟨x0, x1, _⟩ => P50 x0 x1, res := fun ⟨x0, x1, _⟩ => [⟨Ty.bool, g50_0 x0 x1⟩], kds := kds50 }
theorem con50 : Contract Tryz.prog 50 S50 := contract_of Tryz.func50 hb50 (Nat.le_of_ble_eq_true (by kernel_rfl)) (fun ⟨x0, x1, _⟩ h _ K q => at50 x0 x1 h K q)


end
end Go.Proofs.YtpellcnihifdaaaGreatDoor

/- Function 66 (slices.IndexFunc[[]string,string]): its runs between cut points. Written by a program of this repo (gen). -/
set_option linter.unusedVariables false
set_option linter.unusedSimpArgs false
set_option maxRecDepth 100000
namespace Go.Proofs.YtpellcnihifdaaaGreatDoor
open Go Go.Am Go.Proofs
noncomputable section
def ext66c50 : Ext := [(50, S50)]
theorem call66c50_50 : Callable Tryz.prog 50 := ⟨Tryz.f50, Tryz.func50, by kernel_rfl, by kernel_rfl⟩
theorem ext66c50Ok : ExtOk Tryz.prog ext66c50 := ⟨⟨call66c50_50, con50⟩, trivial⟩

noncomputable def b66c50 : Code := bodyOf Tryz.f66
theorem hb66c50 : Tryz.f66.body = some b66c50 := by kernel_rfl
def sig66c50 : List AT := [AT.v (Ty.sl Ty.str), AT.fn 50 [(true, (.sl (.cons .str (.cons (.sl .str) .unit))))]]
def tys66c50 : List Ty := [Ty.int IntKind.i64]
def kds66c50 : List RK := []
def oks66c50 : List AT := owns sig66c50
def E66c50_2 (v8 : Int) (x0 : List ByteArray) (x1 : List (ByteArray × List ByteArray × Unit)) : Env := [(0, PV.a (Atom.sl Ty.str x0)), (1, PV.fn 50 [Atom.ptr (Ty.sl (Ty.cons Ty.str (Ty.cons (Ty.sl Ty.str) Ty.unit))) x1]), (7, PV.a (Atom.val (Value.int IntKind.i64 (↑(List.length x0) : Int)))), (8, PV.a (Atom.val (Value.int IntKind.i64 v8)))]
def L66c50_2 (v8 : Int) (x0 : List ByteArray) (x1 : List (ByteArray × List ByteArray × Unit)) : Heap := []
mutual
def R66c50 : Nat → List ByteArray → List (ByteArray × List ByteArray × Unit) → List Dyn → Prop
  | 0, _, _, _ => False
  | n + 1, x0, x1, ds => (R66c50_2 n (0) (x0) (x1) ds)
def R66c50_2 : Nat → Int → List ByteArray → List (ByteArray × List ByteArray × Unit) → List Dyn → Prop
  | 0, _, _, _, _ => False
  | n + 1, v8, x0, x1, ds => (if (Decidable.decide (v8 < (↑(List.length x0) : Int))) = true then ((0 ≤ v8) ∧ (v8 < (↑(List.length x0) : Int)) ∧ ((P50 (List.getD x0 (Int.toNat v8) ByteArray.empty) x1) ∧ (if (g50_0 (List.getD x0 (Int.toNat v8) ByteArray.empty) x1) = true then (ds = [Dyn.mk (Ty.int IntKind.i64) v8]) else ((InR IntKind.i64 (v8 + 1)) ∧ (R66c50_2 n (v8 + 1) (x0) (x1) ds))))) else (ds = [Dyn.mk (Ty.int IntKind.i64) (-1)]))
end
theorem snd66c50 : ∀ n, (∀ (x0 : List ByteArray) (x1 : List (ByteArray × List ByteArray × Unit)) ds, R66c50 n x0 x1 ds → ∀ K q, AtV Tryz.prog 66 (PostR kds66c50 oks66c50 ds [] [] q K) 19 K q [] [.code b66c50] (entE 0 0 sig66c50 (x0, (x1, ()), ())) (entL sig66c50 (x0, (x1, ()), ()))) ∧ (∀ (v8 : Int) (x0 : List ByteArray) (x1 : List (ByteArray × List ByteArray × Unit)) ds, R66c50_2 n v8 x0 x1 ds → ∀ K q, AtV Tryz.prog 66 (PostR kds66c50 oks66c50 ds [] [] q K) 19 K q [] (cutAt b66c50 2) (E66c50_2 v8 x0 x1) (L66c50_2 v8 x0 x1)) := by
  intro n
  induction n with
  | zero => exact ⟨fun _ _ _ h => by simp only [R66c50] at h, fun _ _ _ _ h => by simp only [R66c50_2] at h⟩
  | succ n ih =>
  obtain ⟨ih, ih2⟩ := ih
  refine ⟨?_, ?_⟩
  · intro x0 x1 ds h K q
    rw [R66c50] at h
    exact AtV.go tabOk ext66c50Ok mixed false [] [] [0, 1, 7, 8] [] [] trivial (ih2 _ _ _ _ h K q) (by kernel_rfl)

  · intro v8 x0 x1 ds h K q
    rw [R66c50_2] at h
    by_cases b0 : (Decidable.decide (v8 < (↑(List.length x0) : Int))) = true
    · rw [if_pos b0] at h
      obtain ⟨s0, s1, h⟩ := h
      obtain ⟨s2, h⟩ := h
      by_cases b1 : (g50_0 (List.getD x0 (Int.toNat v8) ByteArray.empty) x1) = true
      · rw [if_pos b1] at h
        subst h
        exact AtV.ret Tryz.func66 tabOk ext66c50Ok mixed false [] tys66c50 [true, true] (a1 b0 (a1 s0 (a1 s1 (a1 s2 (a1 b1 trivial))))) (by kernel_rfl)
      · rw [if_neg b1] at h
        replace b1 := Bool.eq_false_iff.2 b1
        obtain ⟨s3, h⟩ := h
        exact AtV.go tabOk ext66c50Ok mixed false [] [] [0, 1, 7, 8] [] [true, false] (a1 b0 (a1 s0 (a1 s1 (a1 s2 (a1 b1 (a1 s3 trivial)))))) (ih2 _ _ _ _ h K q) (by kernel_rfl)
    · rw [if_neg b0] at h
      replace b0 := Bool.eq_false_iff.2 b0
      subst h
      exact AtV.ret Tryz.func66 tabOk ext66c50Ok mixed false [] tys66c50 [false] (a1 b0 trivial) (by kernel_rfl)



def g66c50_0 (x0 : List (ByteArray)) (y0 : List (ByteArray × List (ByteArray) × Unit)) : Int := idx (x0.findIdx? (fun x => g50_0 x y0))
def P66c50 (x0 : List (ByteArray)) (y0 : List (ByteArray × List (ByteArray) × Unit)) : Prop := ∀ x ∈ x0, P50 x y0

theorem top66c50 (x0 : List (ByteArray)) (y0 : List (ByteArray × List (ByteArray) × Unit)) (hm : x0.length ≤ maxLen) (hp : P66c50 x0 y0) : R66c50 (x0.length + 1 + 1) x0 y0 [⟨.int .i64, g66c50_0 x0 y0⟩] := by
  rw [R66c50]
  have key := loop_find x0 ByteArray.empty (fun x => g50_0 x y0) [(⟨.int .i64, -1⟩ : Dyn)] (fun k => [⟨.int .i64, k⟩]) (fun n i ds => R66c50_2 n i x0 y0 ds) (fun n => ?_) (fun n i hi hok ds hr => ?_) (fun n i hi hok => ?_)
  · unfold g66c50_0
    cases h : x0.findIdx? (fun x => g50_0 x y0) <;> rw [h] at key <;> exact key
  · rw [R66c50_2, if_neg (by simp)]
  · rw [R66c50_2, if_pos (by simp; omega)]
    simp only [Int.toNat_natCast]
    refine ⟨by omega, by omega, hp _ (mem_getD _ i _ hi), ?_⟩
    rw [if_neg (by rw [hok]; simp)]
    exact ⟨inR_up hm hi, hr⟩
  · rw [R66c50_2, if_pos (by simp; omega)]
    simp only [Int.toNat_natCast]
    refine ⟨by omega, by omega, hp _ (mem_getD _ i _ hi), ?_⟩
    rw [if_pos hok] <;> trivial

def S66c50 : Am.Spec := { sig := sig66c50, pre := fun ⟨x0, ⟨y0, _⟩, _⟩ => P66c50 x0 y0, res := fun ⟨x0, ⟨y0, _⟩, _⟩ => [⟨Ty.int .i64, g66c50_0 x0 y0⟩] }
theorem con66c50 : Contract Tryz.prog 66 S66c50 := contract_of Tryz.func66 hb66c50 (Nat.le_of_ble_eq_true (by kernel_rfl)) (fun ⟨x0, ⟨y0, _⟩, _⟩ h hwf K q =>
  (snd66c50 _).1 x0 y0 _ (top66c50 x0 y0 hwf.1.1 h) K q)

theorem any66c50 (x0 : List (ByteArray)) (y0 : List (ByteArray × List (ByteArray) × Unit)) : decide (g66c50_0 x0 y0 ≥ 0) = x0.any (fun x => g50_0 x y0) := by
  have := findIdx_any (fun x => g50_0 x y0) x0
  unfold g66c50_0
  cases h : x0.any (fun x => g50_0 x y0) with
  | true => rw [h] at this; simpa using this
  | false => rw [h] at this; simpa using this

end
end Go.Proofs.YtpellcnihifdaaaGreatDoor

/- Function 48 (slices.ContainsFunc[[]string,string]): its runs between cut points. Written by a program of this repo (gen). -/
set_option linter.unusedVariables false
set_option linter.unusedSimpArgs false
set_option maxRecDepth 100000
namespace Go.Proofs.YtpellcnihifdaaaGreatDoor
open Go Go.Am Go.Proofs
noncomputable section
def ext48c50 : Ext := [(66, S66c50), (50, S50)]
theorem call48c50_66 : Callable Tryz.prog 66 := ⟨Tryz.f66, Tryz.func66, by kernel_rfl, by kernel_rfl⟩
theorem call48c50_50 : Callable Tryz.prog 50 := ⟨Tryz.f50, Tryz.func50, by kernel_rfl, by kernel_rfl⟩
theorem ext48c50Ok : ExtOk Tryz.prog ext48c50 := ⟨⟨call48c50_66, con66c50⟩, ⟨call48c50_50, con50⟩, trivial⟩

noncomputable def b48c50 : Code := bodyOf Tryz.f48
theorem hb48c50 : Tryz.f48.body = some b48c50 := by kernel_rfl
def sig48c50 : List AT := [AT.v (Ty.sl Ty.str), AT.fn 50 [(true, (.sl (.cons .str (.cons (.sl .str) .unit))))]]
def tys48c50 : List Ty := [Ty.bool]
def kds48c50 : List RK := []
def oks48c50 : List AT := owns sig48c50
def P48c50 (x0 : List ByteArray) (x1 : List (ByteArray × List ByteArray × Unit)) : Prop := ((P66c50 x0 x1) ∧ True)
def g48c50_0 (x0 : List ByteArray) (x1 : List (ByteArray × List ByteArray × Unit)) : Bool := Decidable.decide (g66c50_0 x0 x1 ≥ 0)
theorem at48c50 (x0 : List ByteArray) (x1 : List (ByteArray × List ByteArray × Unit)) (h : P48c50 x0 x1) (K : Ctx) (q : Nat → Value) : AtV Tryz.prog 48 (PostR kds48c50 oks48c50 [⟨Ty.bool, g48c50_0 x0 x1⟩] [] [] q K) 9 K q [] [.code b48c50] (entE 0 0 sig48c50 (x0, (x1, ()), ())) (entL sig48c50 (x0, (x1, ()), ())) := by
  unfold P48c50 at h
  unfold g48c50_0
  obtain ⟨s0, h⟩ := h
  exact AtV.ret Tryz.func48 tabOk ext48c50Ok mixed false [] tys48c50 [] (a1 s0 trivial) (by kernel_rfl)

def S48c50 : Am.Spec := { sig := sig48c50, pre := fun ⟨x0, ⟨x1, _⟩, _⟩ => P48c50 x0 x1, res := fun ⟨x0, ⟨x1, _⟩, _⟩ => [⟨Ty.bool, g48c50_0 x0 x1⟩], kds := kds48c50 }
theorem con48c50 : Contract Tryz.prog 48 S48c50 := contract_of Tryz.func48 hb48c50 (Nat.le_of_ble_eq_true (by kernel_rfl)) (fun ⟨x0, ⟨x1, _⟩, _⟩ h _ K q => at48c50 x0 x1 h K q)


end
end Go.Proofs.YtpellcnihifdaaaGreatDoor

/- Function 26 (impl.ValidRoles): its runs between cut points. Written by a program of this repo (gen). -/
set_option linter.unusedVariables false
set_option linter.unusedSimpArgs false
set_option maxRecDepth 100000
namespace Go.Proofs.YtpellcnihifdaaaGreatDoor
open Go Go.Am Go.Proofs
noncomputable section
def ext26 : Ext := [(47, S47), (48, S48c49), (48, S48c50)]
theorem call26_47 : Callable Tryz.prog 47 := ⟨Tryz.f47, Tryz.func47, by kernel_rfl, by kernel_rfl⟩
theorem call26_48 : Callable Tryz.prog 48 := ⟨Tryz.f48, Tryz.func48, by kernel_rfl, by kernel_rfl⟩
theorem ext26Ok : ExtOk Tryz.prog ext26 := ⟨⟨call26_47, con47⟩, ⟨call26_48, con48c49⟩, ⟨call26_48, con48c50⟩, trivial⟩

noncomputable def b26 : Code := bodyOf Tryz.f26
theorem hb26 : Tryz.f26.body = some b26 := by kernel_rfl
def sig26 : List AT := [AT.v (Ty.sl (Ty.cons Ty.str (Ty.cons (Ty.sl Ty.str) Ty.unit)))]
def tys26 : List Ty := [Ty.bool]
def kds26 : List RK := []
def oks26 : List AT := owns sig26
def E26_3 (v10 : Int) (h1 : List ByteArray) (x0 : List (ByteArray × List ByteArray × Unit)) : Env := [(1, PV.a (Atom.optr 0 0 [])), (3, PV.a (Atom.osl 1 Option.none)), (8, PV.a (Atom.sl (Ty.cons Ty.str (Ty.cons (Ty.sl Ty.str) Ty.unit)) x0)), (9, PV.a (Atom.val (Value.int IntKind.i64 (↑(List.length x0) : Int)))), (10, PV.a (Atom.val (Value.int IntKind.i64 v10)))]
def L26_3 (v10 : Int) (h1 : List ByteArray) (x0 : List (ByteArray × List ByteArray × Unit)) : Heap := [Option.some (Arr.mk (Ty.sl (Ty.cons Ty.str (Ty.cons (Ty.sl Ty.str) Ty.unit))) [x0] Bool.true Option.none (Option.some Bool.false)), Option.some (Arr.mk Ty.str h1 Bool.false Option.none Option.none)]
def E26_10 (v30 : Int) (x0 : List (ByteArray × List ByteArray × Unit)) (h1 : List ByteArray) : Env := [(1, PV.a (Atom.optr 0 0 [])), (3, PV.a (Atom.osl 1 Option.none)), (28, PV.a (Atom.sl (Ty.cons Ty.str (Ty.cons (Ty.sl Ty.str) Ty.unit)) x0)), (29, PV.a (Atom.val (Value.int IntKind.i64 (↑(List.length x0) : Int)))), (30, PV.a (Atom.val (Value.int IntKind.i64 v30)))]
def L26_10 (v30 : Int) (x0 : List (ByteArray × List ByteArray × Unit)) (h1 : List ByteArray) : Heap := [Option.some (Arr.mk (Ty.sl (Ty.cons Ty.str (Ty.cons (Ty.sl Ty.str) Ty.unit))) [x0] Bool.true Option.none (Option.some Bool.false)), Option.some (Arr.mk Ty.str h1 Bool.false Option.none Option.none)]
mutual
def R26 : Nat → List (ByteArray × List ByteArray × Unit) → List Dyn → Prop
  | 0, _, _ => False
  | n + 1, x0, ds => (R26_3 n (0) ([]) (x0) ds)
def R26_3 : Nat → Int → List ByteArray → List (ByteArray × List ByteArray × Unit) → List Dyn → Prop
  | 0, _, _, _, _ => False
  | n + 1, v10, h1, x0, ds => (if (Decidable.decide (v10 < (↑(List.length x0) : Int))) = true then ((0 ≤ v10) ∧ (v10 < (↑(List.length x0) : Int)) ∧ (((List.length h1 + 1) * 16 ≤ 140737488355328) ∧ ((InR IntKind.i64 (v10 + 1)) ∧ (R26_3 n (v10 + 1) (h1 ++ [Prod.fst (List.getD x0 (Int.toNat v10) (ByteArray.empty, [], ()))]) (x0) ds)))) else (if (Decidable.decide ((↑(List.length x0) : Int) > 12)) = true then (ds = [Dyn.mk Ty.bool Bool.false]) else (if (!g47_0 h1) = true then (ds = [Dyn.mk Ty.bool Bool.false]) else (R26_10 n (0) (x0) (h1) ds))))
def R26_10 : Nat → Int → List (ByteArray × List ByteArray × Unit) → List ByteArray → List Dyn → Prop
  | 0, _, _, _, _ => False
  | n + 1, v30, x0, h1, ds => (if (Decidable.decide (v30 < (↑(List.length x0) : Int))) = true then ((0 ≤ v30) ∧ (v30 < (↑(List.length x0) : Int)) ∧ (if (!g47_0 (Prod.fst (Prod.snd (List.getD x0 (Int.toNat v30) (ByteArray.empty, [], ()))))) = true then (ds = [Dyn.mk Ty.bool Bool.false]) else (if (g48c49_0 (Prod.fst (Prod.snd (List.getD x0 (Int.toNat v30) (ByteArray.empty, [], ())))) x0) = true then (ds = [Dyn.mk Ty.bool Bool.false]) else ((InR IntKind.i64 (v30 + 1)) ∧ (R26_10 n (v30 + 1) (x0) (h1) ds))))) else ((P48c50 h1 x0) ∧ (ds = [Dyn.mk Ty.bool !g48c50_0 h1 x0])))
end
theorem snd26 : ∀ n, (∀ (x0 : List (ByteArray × List ByteArray × Unit)) ds, R26 n x0 ds → ∀ K q, AtV Tryz.prog 26 (PostR kds26 oks26 ds [] [] q K) 49 K q [] [.code b26] (entE 0 0 sig26 (x0, ())) (entL sig26 (x0, ()))) ∧ (∀ (v10 : Int) (h1 : List ByteArray) (x0 : List (ByteArray × List ByteArray × Unit)) ds, R26_3 n v10 h1 x0 ds → ∀ K q, AtV Tryz.prog 26 (PostR kds26 oks26 ds [] [] q K) 49 K q [] (cutAt b26 3) (E26_3 v10 h1 x0) (L26_3 v10 h1 x0)) ∧ (∀ (v30 : Int) (x0 : List (ByteArray × List ByteArray × Unit)) (h1 : List ByteArray) ds, R26_10 n v30 x0 h1 ds → ∀ K q, AtV Tryz.prog 26 (PostR kds26 oks26 ds [] [] q K) 49 K q [] (cutAt b26 10) (E26_10 v30 x0 h1) (L26_10 v30 x0 h1)) := by
  intro n
  induction n with
  | zero => exact ⟨fun _ _ h => by simp only [R26] at h, fun _ _ _ _ h => by simp only [R26_3] at h, fun _ _ _ _ h => by simp only [R26_10] at h⟩
  | succ n ih =>
  obtain ⟨ih, ih3, ih10⟩ := ih
  refine ⟨?_, ?_, ?_⟩
  · intro x0 ds h K q
    rw [R26] at h
    exact AtV.go tabOk ext26Ok mixed false [] [(3, Ty.str)] [1, 3, 8, 9, 10] [0, 1] [] trivial (ih3 _ _ _ _ h K q) (by kernel_rfl)

  · intro v10 h1 x0 ds h K q
    rw [R26_3] at h
    by_cases b0 : (Decidable.decide (v10 < (↑(List.length x0) : Int))) = true
    · rw [if_pos b0] at h
      obtain ⟨s0, s1, h⟩ := h
      obtain ⟨s2, h⟩ := h
      obtain ⟨s3, h⟩ := h
      exact AtV.go tabOk ext26Ok mixed false [] [(3, Ty.str)] [1, 3, 8, 9, 10] [0, 1] [true] (a1 b0 (a1 s0 (a1 s1 (a1 s2 (a1 s3 trivial))))) (ih3 _ _ _ _ h K q) (by kernel_rfl)
    · rw [if_neg b0] at h
      replace b0 := Bool.eq_false_iff.2 b0
      by_cases b1 : (Decidable.decide ((↑(List.length x0) : Int) > 12)) = true
      · rw [if_pos b1] at h
        subst h
        exact AtV.ret Tryz.func26 tabOk ext26Ok mixed false [] tys26 [false, true, true] (a1 b0 (a1 b1 (a1 (rfl : Bool.true = Bool.true) trivial))) (by kernel_rfl)
      · rw [if_neg b1] at h
        replace b1 := Bool.eq_false_iff.2 b1
        by_cases b2 : (!g47_0 h1) = true
        · rw [if_pos b2] at h
          subst h
          exact AtV.ret Tryz.func26 tabOk ext26Ok mixed false [] tys26 [false, false, true] (a1 b0 (a1 b1 (a1 trivial (a1 b2 trivial)))) (by kernel_rfl)
        · rw [if_neg b2] at h
          replace b2 := Bool.eq_false_iff.2 b2
          exact AtV.go tabOk ext26Ok mixed false [] [] [1, 3, 28, 29, 30] [0, 1] [false, false, false] (a1 b0 (a1 b1 (a1 trivial (a1 b2 trivial)))) (ih10 _ _ _ _ h K q) (by kernel_rfl)

  · intro v30 x0 h1 ds h K q
    rw [R26_10] at h
    by_cases b0 : (Decidable.decide (v30 < (↑(List.length x0) : Int))) = true
    · rw [if_pos b0] at h
      obtain ⟨s0, s1, h⟩ := h
      by_cases b1 : (!g47_0 (Prod.fst (Prod.snd (List.getD x0 (Int.toNat v30) (ByteArray.empty, [], ()))))) = true
      · rw [if_pos b1] at h
        subst h
        exact AtV.ret Tryz.func26 tabOk ext26Ok mixed false [] tys26 [true, true, true] (a1 b0 (a1 s0 (a1 s1 (a1 trivial (a1 b1 (a1 (rfl : Bool.true = Bool.true) trivial)))))) (by kernel_rfl)
      · rw [if_neg b1] at h
        replace b1 := Bool.eq_false_iff.2 b1
        by_cases b2 : (g48c49_0 (Prod.fst (Prod.snd (List.getD x0 (Int.toNat v30) (ByteArray.empty, [], ())))) x0) = true
        · rw [if_pos b2] at h
          subst h
          exact AtV.ret Tryz.func26 tabOk ext26Ok mixed false [] tys26 [true, false, true] (a1 b0 (a1 s0 (a1 s1 (a1 trivial (a1 b1 (a1 trivial (a1 b2 trivial))))))) (by kernel_rfl)
        · rw [if_neg b2] at h
          replace b2 := Bool.eq_false_iff.2 b2
          obtain ⟨s2, h⟩ := h
          exact AtV.go tabOk ext26Ok mixed false [] [] [1, 3, 28, 29, 30] [0, 1] [true, false, false] (a1 b0 (a1 s0 (a1 s1 (a1 trivial (a1 b1 (a1 trivial (a1 b2 (a1 s2 trivial)))))))) (ih10 _ _ _ _ h K q) (by kernel_rfl)
    · rw [if_neg b0] at h
      replace b0 := Bool.eq_false_iff.2 b0
      obtain ⟨s0, h⟩ := h
      subst h
      exact AtV.ret Tryz.func26 tabOk ext26Ok mixed false [] tys26 [false] (a1 b0 (a1 s0 trivial)) (by kernel_rfl)



abbrev RL26 := ByteArray × List ByteArray × Unit
def nm26 (x0 : List RL26) : List ByteArray := x0.map fun r => r.1
def ok26 (x0 : List RL26) (r : RL26) : Bool := g47_0 r.2.1 && !g48c49_0 r.2.1 x0
def g26_0 (x0 : List RL26) : Bool := if decide (x0.length ≤ 12) = true then (if g47_0 (nm26 x0) = true then (if x0.all (ok26 x0) = true then !g48c50_0 (nm26 x0) x0 else false) else false) else false
def P26 (x0 : List RL26) : Prop := x0.length ≤ 1048576

theorem idx_lt26 {x0 : List RL26} {n : ByteArray} : g46_0 x0 n < (x0.length : Int) ∨ x0.length = 0 := by
  have e : g46_0 x0 n = idx (x0.findIdx? fun r => g65_0 r n) := rfl
  rw [e]
  cases hf : x0.findIdx? fun r => g65_0 r n with
  | none =>
    rcases Nat.eq_zero_or_pos x0.length with h | h
    · exact .inr h
    · exact .inl (by show (-1 : Int) < _; omega)
  | some k =>
    obtain ⟨hk, _⟩ := List.findIdx?_eq_some_iff_getElem.1 hf
    exact .inl (by show (k : Int) < _; omega)

theorem in26 {x0 : List RL26} {n : ByteArray} (h : 0 ≤ g46_0 x0 n) (h0 : 0 < x0.length) : In27 x0 n := ⟨h, idx_lt26.resolve_right (by omega)⟩

theorem self26 {x0 : List RL26} {r : RL26} (hr : r ∈ x0) : In27 x0 r.1 := by
  refine in26 ?_ (List.length_pos_of_mem hr)
  have e : g46_0 x0 r.1 = idx (x0.findIdx? fun q => g65_0 q r.1) := rfl
  rw [e]
  have := (findIdx_any (fun q => g65_0 q r.1) x0).2 (List.any_eq_true.2 ⟨r, hr, (bytes_eq _ _).2 rfl⟩)
  exact this

theorem closed26 {x0 : List RL26} (h : x0.all (ok26 x0) = true) : ∀ r ∈ x0, ∀ n ∈ r.2.1, In27 x0 n := fun r hr n hn => by
  have h1 := List.all_eq_true.1 h r hr
  unfold ok26 at h1
  rw [Bool.and_eq_true] at h1
  have h2 : g48c49_0 r.2.1 x0 = false := by simpa using h1.2
  unfold g48c49_0 at h2
  rw [any66c49] at h2
  refine in26 ?_ (List.length_pos_of_mem hr)
  rcases Int.lt_or_le (g46_0 x0 n) 0 with hlt | hle
  · exact absurd (List.any_eq_true.2 ⟨n, hn, decide_eq_true hlt⟩) (by rw [h2]; decide)
  · exact hle

theorem pre26 {x0 : List RL26} (hl : x0.length ≤ 12) (h : x0.all (ok26 x0) = true) {r : RL26} (hr : r ∈ x0) : P27 x0 r.1 := ⟨by omega, closed26 h, self26 hr⟩

theorem second26 (x0 : List RL26) (hl : x0.length ≤ 12) : ∀ (k i : Nat), i + k = x0.length → (∀ j, j < i → ∀ r, x0[j]? = some r → ok26 x0 r = true) → R26_10 (k + 1) (i : Int) x0 (nm26 x0) [⟨.bool, if (x0.drop i).all (ok26 x0) = true then !g48c50_0 (nm26 x0) x0 else false⟩] := by
  intro k
  induction k with
  | zero =>
    intro i hi hb
    have ha : x0.all (ok26 x0) = true := List.all_eq_true.2 fun r hr => by
      obtain ⟨j, hj⟩ := List.mem_iff_getElem?.1 hr
      exact hb j (by have := (List.getElem?_eq_some_iff.1 hj).1; omega) r hj
    rw [R26_10, if_neg (by simp only [decide_eq_true_eq]; omega), List.drop_eq_nil_of_le (by omega)]
    refine ⟨⟨fun n hn => ?_, trivial⟩, rfl⟩
    obtain ⟨r, hr, rfl⟩ := List.mem_map.1 hn
    exact ⟨pre26 hl ha hr, trivial⟩
  | succ k ih =>
    intro i hi hb
    have hlt : i < x0.length := by omega
    have e3 : (i : Int) + 1 = ((i + 1 : Nat) : Int) := by omega
    rw [drop_get x0 i (ByteArray.empty, [], ()) hlt, List.all_cons]
    obtain ⟨D, hD⟩ : ∃ D, (if (ok26 x0 (x0.getD i (ByteArray.empty, [], ())) && (x0.drop (i + 1)).all (ok26 x0)) = true then !g48c50_0 (nm26 x0) x0 else false) = D := ⟨_, rfl⟩
    rw [hD, R26_10, if_pos (by simp only [decide_eq_true_eq]; omega)]
    simp only [Int.toNat_natCast]
    refine ⟨by omega, by omega, ?_⟩
    by_cases h1 : g47_0 (x0.getD i (ByteArray.empty, [], ())).2.1 = true
    · refine (if_neg (by rw [h1]; decide)).mpr ?_
      by_cases h2 : g48c49_0 (x0.getD i (ByteArray.empty, [], ())).2.1 x0 = true
      · have e : ok26 x0 (x0.getD i (ByteArray.empty, [], ())) = false := by unfold ok26; rw [h1, h2]; rfl
        rw [e, Bool.false_and, if_neg (by decide)] at hD
        exact (if_pos h2).mpr (by rw [← hD])
      · have e : ok26 x0 (x0.getD i (ByteArray.empty, [], ())) = true := by unfold ok26; rw [h1, Bool.eq_false_iff.2 h2]; rfl
        rw [e, Bool.true_and] at hD
        refine (if_neg h2).mpr ?_
        rw [e3, ← hD]
        refine ⟨by rw [i64_iff]; omega, ih (i + 1) (by omega) (fun j hj r hr => ?_)⟩
        rcases Nat.lt_or_ge j i with h | h
        · exact hb j h r hr
        · have : j = i := by omega
          subst this
          rw [List.getElem?_eq_getElem hlt] at hr
          cases hr
          rw [getD_lt x0 j _ hlt] at e
          exact e
    · have e : ok26 x0 (x0.getD i (ByteArray.empty, [], ())) = false := by unfold ok26; rw [Bool.eq_false_iff.2 h1]; rfl
      rw [e, Bool.false_and, if_neg (by decide)] at hD
      exact (if_pos (by rw [Bool.eq_false_iff.2 h1]; rfl)).mpr (by rw [← hD])

theorem first26 (x0 : List RL26) (hx : x0.length ≤ 1048576) : ∀ (k i : Nat), i + k = x0.length → ∃ n, R26_3 n (i : Int) ((nm26 x0).take i) x0 [⟨.bool, g26_0 x0⟩] := by
  intro k
  induction k with
  | zero =>
    intro i hi
    have hm : (nm26 x0).take i = nm26 x0 := List.take_of_length_le (by unfold nm26; rw [List.length_map]; omega)
    rw [hm]
    unfold g26_0
    by_cases c : x0.length ≤ 12
    · rw [if_pos (decide_eq_true c)]
      cases h1 : g47_0 (nm26 x0) with
      | false =>
        refine ⟨1, ?_⟩
        rw [R26_3, if_neg (by simp only [decide_eq_true_eq]; omega), if_neg (by simp only [decide_eq_true_eq]; omega), h1, if_pos (by decide), if_neg (by decide)]
      | true =>
        have := second26 x0 c x0.length 0 (by omega) (fun j hj => absurd hj (by omega))
        rw [List.drop_zero] at this
        refine ⟨x0.length + 1 + 1, ?_⟩
        rw [R26_3, if_neg (by simp only [decide_eq_true_eq]; omega), if_neg (by simp only [decide_eq_true_eq]; omega), h1, if_neg (by decide), if_pos rfl]
        exact this
    · rw [if_neg (by simpa using c)]
      refine ⟨1, ?_⟩
      rw [R26_3, if_neg (by simp only [decide_eq_true_eq]; omega), if_pos (by simp only [decide_eq_true_eq]; omega)]
  | succ k ih =>
    intro i hi
    have hlt : i < x0.length := by omega
    have e3 : (i : Int) + 1 = ((i + 1 : Nat) : Int) := by omega
    obtain ⟨n, hn⟩ := ih (i + 1) (by omega)
    have ht : (nm26 x0).take (i + 1) = (nm26 x0).take i ++ [(x0.getD i (ByteArray.empty, [], ())).1] := by
      unfold nm26
      rw [List.take_add_one, List.getElem?_map, List.getElem?_eq_getElem hlt, getD_lt x0 i _ hlt]
      rfl
    rw [ht] at hn
    refine ⟨n + 1, ?_⟩
    rw [R26_3, if_pos (by simp only [decide_eq_true_eq]; omega)]
    simp only [Int.toNat_natCast]
    rw [e3]
    exact ⟨by omega, by omega, by rw [List.length_take]; omega, by rw [i64_iff]; omega, hn⟩

theorem top26 (x0 : List RL26) (hx : x0.length ≤ 1048576) : ∃ n, R26 n x0 [⟨.bool, g26_0 x0⟩] := by
  obtain ⟨n, hn⟩ := first26 x0 hx x0.length 0 (by omega)
  exact ⟨n + 1, by rw [R26]; exact hn⟩

def S26 : Am.Spec := { sig := sig26, pre := fun ⟨x0, _⟩ => P26 x0, res := fun ⟨x0, _⟩ => [⟨.bool, g26_0 x0⟩] }
theorem con26 : Contract Tryz.prog 26 S26 := contract_of Tryz.func26 hb26 (Nat.le_of_ble_eq_true (by kernel_rfl)) (fun ⟨x0, _⟩ h hwf K q =>
  let ⟨_, hn⟩ := top26 x0 h
  (snd26 _).1 x0 _ hn K q)

end
end Go.Proofs.YtpellcnihifdaaaGreatDoor

/- Function 40 (impl.within): its runs between cut points. Written by a program of this repo (gen). -/
set_option linter.unusedVariables false
set_option linter.unusedSimpArgs false
set_option maxRecDepth 100000
namespace Go.Proofs.YtpellcnihifdaaaGreatDoor
open Go Go.Am Go.Proofs
noncomputable section
def ext40 : Ext := []
theorem ext40Ok : ExtOk Tryz.prog ext40 := trivial

noncomputable def b40 : Code := bodyOf Tryz.f40
theorem hb40 : Tryz.f40.body = some b40 := by kernel_rfl
def sig40 : List AT := [AT.v (Ty.int IntKind.i64), AT.v (Ty.int IntKind.i64), AT.v (Ty.int IntKind.i64)]
def tys40 : List Ty := [Ty.bool]
def kds40 : List RK := []
def oks40 : List AT := owns sig40
def P40 (x0 : Int) (x1 : Int) (x2 : Int) : Prop := True
def g40_0 (x0 : Int) (x1 : Int) (x2 : Int) : Bool := (if (Decidable.decide (x0 ≥ x1)) = true then Decidable.decide (x0 ≤ x2) else Bool.false)
theorem at40 (x0 : Int) (x1 : Int) (x2 : Int) (h : P40 x0 x1 x2) (K : Ctx) (q : Nat → Value) : AtV Tryz.prog 40 (PostR kds40 oks40 [⟨Ty.bool, g40_0 x0 x1 x2⟩] [] [] q K) 15 K q [] [.code b40] (entE 0 0 sig40 (x0, x1, x2, ())) (entL sig40 (x0, x1, x2, ())) := by
  unfold P40 at h
  unfold g40_0
  by_cases b0 : (Decidable.decide (x0 ≥ x1)) = true
  · try simp only [if_pos b0] at h ⊢
    exact AtV.ret Tryz.func40 tabOk ext40Ok mixed false [] tys40 [true] (a1 b0 trivial) (by kernel_rfl)
  · try simp only [if_neg b0] at h ⊢
    replace b0 := Bool.eq_false_iff.2 b0
    exact AtV.ret Tryz.func40 tabOk ext40Ok mixed false [] tys40 [false] (a1 b0 trivial) (by kernel_rfl)

def S40 : Am.Spec := { sig := sig40, pre := fun ⟨x0, x1, x2, _⟩ => P40 x0 x1 x2, res := fun ⟨x0, x1, x2, _⟩ => [⟨Ty.bool, g40_0 x0 x1 x2⟩], kds := kds40 }
theorem con40 : Contract Tryz.prog 40 S40 := contract_of Tryz.func40 hb40 (Nat.le_of_ble_eq_true (by kernel_rfl)) (fun ⟨x0, x1, x2, _⟩ h _ K q => at40 x0 x1 x2 h K q)


end
end Go.Proofs.YtpellcnihifdaaaGreatDoor

/- Function 20 (impl.isAction): its runs between cut points. Written by a program of this repo (gen). -/
set_option linter.unusedVariables false
set_option linter.unusedSimpArgs false
set_option maxRecDepth 100000
namespace Go.Proofs.YtpellcnihifdaaaGreatDoor
open Go Go.Am Go.Proofs
noncomputable section
def ext20 : Ext := [(40, S40)]
theorem call20_40 : Callable Tryz.prog 40 := ⟨Tryz.f40, Tryz.func40, by kernel_rfl, by kernel_rfl⟩
theorem ext20Ok : ExtOk Tryz.prog ext20 := ⟨⟨call20_40, con40⟩, trivial⟩

noncomputable def b20 : Code := bodyOf Tryz.f20
theorem hb20 : Tryz.f20.body = some b20 := by kernel_rfl
def sig20 : List AT := [AT.v (Ty.int IntKind.i64)]
def tys20 : List Ty := [Ty.bool]
def kds20 : List RK := []
def oks20 : List AT := owns sig20
def P20 (x0 : Int) : Prop := True
def g20_0 (x0 : Int) : Bool := g40_0 x0 1 3
theorem at20 (x0 : Int) (h : P20 x0) (K : Ctx) (q : Nat → Value) : AtV Tryz.prog 20 (PostR kds20 oks20 [⟨Ty.bool, g20_0 x0⟩] [] [] q K) 5 K q [] [.code b20] (entE 0 0 sig20 (x0, ())) (entL sig20 (x0, ())) := by
  unfold P20 at h
  unfold g20_0
  exact AtV.ret Tryz.func20 tabOk ext20Ok mixed false [] tys20 [] (a1 trivial trivial) (by kernel_rfl)

def S20 : Am.Spec := { sig := sig20, pre := fun ⟨x0, _⟩ => P20 x0, res := fun ⟨x0, _⟩ => [⟨Ty.bool, g20_0 x0⟩], kds := kds20 }
theorem con20 : Contract Tryz.prog 20 S20 := contract_of Tryz.func20 hb20 (Nat.le_of_ble_eq_true (by kernel_rfl)) (fun ⟨x0, _⟩ h _ K q => at20 x0 h K q)


end
end Go.Proofs.YtpellcnihifdaaaGreatDoor

/- Function 38 (impl.isGrant): its runs between cut points. Written by a program of this repo (gen). -/
set_option linter.unusedVariables false
set_option linter.unusedSimpArgs false
set_option maxRecDepth 100000
namespace Go.Proofs.YtpellcnihifdaaaGreatDoor
open Go Go.Am Go.Proofs
noncomputable section
def ext38 : Ext := [(46, S46), (31, S31), (20, S20)]
theorem call38_46 : Callable Tryz.prog 46 := ⟨Tryz.f46, Tryz.func46, by kernel_rfl, by kernel_rfl⟩
theorem call38_31 : Callable Tryz.prog 31 := ⟨Tryz.f31, Tryz.func31, by kernel_rfl, by kernel_rfl⟩
theorem call38_20 : Callable Tryz.prog 20 := ⟨Tryz.f20, Tryz.func20, by kernel_rfl, by kernel_rfl⟩
theorem ext38Ok : ExtOk Tryz.prog ext38 := ⟨⟨call38_46, con46⟩, ⟨call38_31, con31⟩, ⟨call38_20, con20⟩, trivial⟩

noncomputable def b38 : Code := bodyOf Tryz.f38
theorem hb38 : Tryz.f38.body = some b38 := by kernel_rfl
def sig38 : List AT := [AT.v (Ty.sl (Ty.cons Ty.str (Ty.cons (Ty.sl Ty.str) Ty.unit))), AT.v (Ty.cons Ty.str (Ty.cons Ty.str (Ty.cons (Ty.int IntKind.i64) Ty.unit)))]
def tys38 : List Ty := [Ty.bool]
def kds38 : List RK := []
def oks38 : List AT := owns sig38
def P38 (x0 : List (ByteArray × List ByteArray × Unit)) (x1 : ByteArray × ByteArray × Int × Unit) : Prop := True
def g38_0 (x0 : List (ByteArray × List ByteArray × Unit)) (x1 : ByteArray × ByteArray × Int × Unit) : Bool := (if (Decidable.decide (g46_0 x0 (Prod.fst x1) ≥ 0)) = true then (if (g31_0 (Prod.fst (Prod.snd x1))) = true then g20_0 (Prod.fst (Prod.snd (Prod.snd x1))) else Bool.false) else Bool.false)
theorem at38 (x0 : List (ByteArray × List ByteArray × Unit)) (x1 : ByteArray × ByteArray × Int × Unit) (h : P38 x0 x1) (K : Ctx) (q : Nat → Value) : AtV Tryz.prog 38 (PostR kds38 oks38 [⟨Ty.bool, g38_0 x0 x1⟩] [] [] q K) 20 K q [] [.code b38] (entE 0 0 sig38 (x0, x1, ())) (entL sig38 (x0, x1, ())) := by
  unfold P38 at h
  unfold g38_0
  by_cases b0 : (Decidable.decide (g46_0 x0 (Prod.fst x1) ≥ 0)) = true
  · try simp only [if_pos b0] at h ⊢
    by_cases b1 : (g31_0 (Prod.fst (Prod.snd x1))) = true
    · try simp only [if_pos b1] at h ⊢
      exact AtV.ret Tryz.func38 tabOk ext38Ok mixed false [] tys38 [true, true] (a1 trivial (a1 b0 (a1 trivial (a1 b1 (a1 trivial trivial))))) (by kernel_rfl)
    · try simp only [if_neg b1] at h ⊢
      replace b1 := Bool.eq_false_iff.2 b1
      exact AtV.ret Tryz.func38 tabOk ext38Ok mixed false [] tys38 [true, false] (a1 trivial (a1 b0 (a1 trivial (a1 b1 trivial)))) (by kernel_rfl)
  · try simp only [if_neg b0] at h ⊢
    replace b0 := Bool.eq_false_iff.2 b0
    exact AtV.ret Tryz.func38 tabOk ext38Ok mixed false [] tys38 [false, false] (a1 trivial (a1 b0 (a1 (rfl : Bool.false = Bool.false) trivial))) (by kernel_rfl)

def S38 : Am.Spec := { sig := sig38, pre := fun ⟨x0, x1, _⟩ => P38 x0 x1, res := fun ⟨x0, x1, _⟩ => [⟨Ty.bool, g38_0 x0 x1⟩], kds := kds38 }
theorem con38 : Contract Tryz.prog 38 S38 := contract_of Tryz.func38 hb38 (Nat.le_of_ble_eq_true (by kernel_rfl)) (fun ⟨x0, x1, _⟩ h _ K q => at38 x0 x1 h K q)


end
end Go.Proofs.YtpellcnihifdaaaGreatDoor

/- Function 74 (cmp.isNaN[string]): its runs between cut points. Written by a program of this repo (gen). -/
set_option linter.unusedVariables false
set_option linter.unusedSimpArgs false
set_option maxRecDepth 100000
namespace Go.Proofs.YtpellcnihifdaaaGreatDoor
open Go Go.Am Go.Proofs
noncomputable section
def ext74 : Ext := []
theorem ext74Ok : ExtOk Tryz.prog ext74 := trivial

noncomputable def b74 : Code := bodyOf Tryz.f74
theorem hb74 : Tryz.f74.body = some b74 := by kernel_rfl
def sig74 : List AT := [AT.v (Ty.str)]
def tys74 : List Ty := [Ty.bool]
def kds74 : List RK := []
def oks74 : List AT := owns sig74
def P74 (x0 : ByteArray) : Prop := True
def g74_0 (x0 : ByteArray) : Bool := !ByteArray.toList x0 == ByteArray.toList x0
theorem at74 (x0 : ByteArray) (h : P74 x0) (K : Ctx) (q : Nat → Value) : AtV Tryz.prog 74 (PostR kds74 oks74 [⟨Ty.bool, g74_0 x0⟩] [] [] q K) 6 K q [] [.code b74] (entE 0 0 sig74 (x0, ())) (entL sig74 (x0, ())) := by
  unfold P74 at h
  unfold g74_0
  exact AtV.ret Tryz.func74 tabOk ext74Ok mixed false [] tys74 [] trivial (by kernel_rfl)

def S74 : Am.Spec := { sig := sig74, pre := fun ⟨x0, _⟩ => P74 x0, res := fun ⟨x0, _⟩ => [⟨Ty.bool, g74_0 x0⟩], kds := kds74 }
theorem con74 : Contract Tryz.prog 74 S74 := contract_of Tryz.func74 hb74 (Nat.le_of_ble_eq_true (by kernel_rfl)) (fun ⟨x0, _⟩ h _ K q => at74 x0 h K q)


end
end Go.Proofs.YtpellcnihifdaaaGreatDoor

/- Function 58 (cmp.Compare[string]): its runs between cut points. Written by a program of this repo (gen). -/
set_option linter.unusedVariables false
set_option linter.unusedSimpArgs false
set_option maxRecDepth 100000
namespace Go.Proofs.YtpellcnihifdaaaGreatDoor
open Go Go.Am Go.Proofs
noncomputable section
def ext58 : Ext := [(74, S74)]
theorem call58_74 : Callable Tryz.prog 74 := ⟨Tryz.f74, Tryz.func74, by kernel_rfl, by kernel_rfl⟩
theorem ext58Ok : ExtOk Tryz.prog ext58 := ⟨⟨call58_74, con74⟩, trivial⟩

noncomputable def b58 : Code := bodyOf Tryz.f58
theorem hb58 : Tryz.f58.body = some b58 := by kernel_rfl
def sig58 : List AT := [AT.v (Ty.str), AT.v (Ty.str)]
def tys58 : List Ty := [Ty.int IntKind.i64]
def kds58 : List RK := []
def oks58 : List AT := owns sig58
def P58 (x0 : ByteArray) (x1 : ByteArray) : Prop := True
def g58_0 (x0 : ByteArray) (x1 : ByteArray) : Int := (if (g74_0 x0) = true then (if (g74_0 x1) = true then 0 else -1) else (if (g74_0 x1) = true then 1 else (if (Op.bytesLess (ByteArray.toList x0) (ByteArray.toList x1)) = true then -1 else (if (!(Op.bytesLess (ByteArray.toList x0) (ByteArray.toList x1) || ByteArray.toList x0 == ByteArray.toList x1)) = true then 1 else 0))))
theorem at58 (x0 : ByteArray) (x1 : ByteArray) (h : P58 x0 x1) (K : Ctx) (q : Nat → Value) : AtV Tryz.prog 58 (PostR kds58 oks58 [⟨Ty.int IntKind.i64, g58_0 x0 x1⟩] [] [] q K) 20 K q [] [.code b58] (entE 0 0 sig58 (x0, x1, ())) (entL sig58 (x0, x1, ())) := by
  unfold P58 at h
  unfold g58_0
  by_cases b0 : (g74_0 x0) = true
  · try simp only [if_pos b0] at h ⊢
    by_cases b1 : (g74_0 x1) = true
    · try simp only [if_pos b1] at h ⊢
      exact AtV.ret Tryz.func58 tabOk ext58Ok mixed false [] tys58 [true, true] (a1 trivial (a1 trivial (a1 b0 (a1 b1 trivial)))) (by kernel_rfl)
    · try simp only [if_neg b1] at h ⊢
      replace b1 := Bool.eq_false_iff.2 b1
      exact AtV.ret Tryz.func58 tabOk ext58Ok mixed false [] tys58 [true, false] (a1 trivial (a1 trivial (a1 b0 (a1 b1 trivial)))) (by kernel_rfl)
  · try simp only [if_neg b0] at h ⊢
    replace b0 := Bool.eq_false_iff.2 b0
    by_cases b1 : (g74_0 x1) = true
    · try simp only [if_pos b1] at h ⊢
      exact AtV.ret Tryz.func58 tabOk ext58Ok mixed false [] tys58 [false, true] (a1 trivial (a1 trivial (a1 b0 (a1 b1 trivial)))) (by kernel_rfl)
    · try simp only [if_neg b1] at h ⊢
      replace b1 := Bool.eq_false_iff.2 b1
      by_cases b2 : (Op.bytesLess (ByteArray.toList x0) (ByteArray.toList x1)) = true
      · try simp only [if_pos b2] at h ⊢
        exact AtV.ret Tryz.func58 tabOk ext58Ok mixed false [] tys58 [false, false, true] (a1 trivial (a1 trivial (a1 b0 (a1 b1 (a1 b2 trivial))))) (by kernel_rfl)
      · try simp only [if_neg b2] at h ⊢
        replace b2 := Bool.eq_false_iff.2 b2
        by_cases b3 : (!(Op.bytesLess (ByteArray.toList x0) (ByteArray.toList x1) || ByteArray.toList x0 == ByteArray.toList x1)) = true
        · try simp only [if_pos b3] at h ⊢
          exact AtV.ret Tryz.func58 tabOk ext58Ok mixed false [] tys58 [false, false, false, true] (a1 trivial (a1 trivial (a1 b0 (a1 b1 (a1 b2 (a1 b3 trivial)))))) (by kernel_rfl)
        · try simp only [if_neg b3] at h ⊢
          replace b3 := Bool.eq_false_iff.2 b3
          exact AtV.ret Tryz.func58 tabOk ext58Ok mixed false [] tys58 [false, false, false, false] (a1 trivial (a1 trivial (a1 b0 (a1 b1 (a1 b2 (a1 b3 trivial)))))) (by kernel_rfl)

def S58 : Am.Spec := { sig := sig58, pre := fun ⟨x0, x1, _⟩ => P58 x0 x1, res := fun ⟨x0, x1, _⟩ => [⟨Ty.int IntKind.i64, g58_0 x0 x1⟩], kds := kds58 }
theorem con58 : Contract Tryz.prog 58 S58 := contract_of Tryz.func58 hb58 (Nat.le_of_ble_eq_true (by kernel_rfl)) (fun ⟨x0, x1, _⟩ h _ K q => at58 x0 x1 h K q)


end
end Go.Proofs.YtpellcnihifdaaaGreatDoor

/- Function 75 (cmp.isNaN[int64]): its runs between cut points. Written by a program of this repo (gen). -/
set_option linter.unusedVariables false
set_option linter.unusedSimpArgs false
set_option maxRecDepth 100000
namespace Go.Proofs.YtpellcnihifdaaaGreatDoor
open Go Go.Am Go.Proofs
noncomputable section
def ext75 : Ext := []
theorem ext75Ok : ExtOk Tryz.prog ext75 := trivial

noncomputable def b75 : Code := bodyOf Tryz.f75
theorem hb75 : Tryz.f75.body = some b75 := by kernel_rfl
def sig75 : List AT := [AT.v (Ty.int IntKind.i64)]
def tys75 : List Ty := [Ty.bool]
def kds75 : List RK := []
def oks75 : List AT := owns sig75
def P75 (x0 : Int) : Prop := True
def g75_0 (x0 : Int) : Bool := x0 != x0
theorem at75 (x0 : Int) (h : P75 x0) (K : Ctx) (q : Nat → Value) : AtV Tryz.prog 75 (PostR kds75 oks75 [⟨Ty.bool, g75_0 x0⟩] [] [] q K) 6 K q [] [.code b75] (entE 0 0 sig75 (x0, ())) (entL sig75 (x0, ())) := by
  unfold P75 at h
  unfold g75_0
  exact AtV.ret Tryz.func75 tabOk ext75Ok mixed false [] tys75 [] trivial (by kernel_rfl)

def S75 : Am.Spec := { sig := sig75, pre := fun ⟨x0, _⟩ => P75 x0, res := fun ⟨x0, _⟩ => [⟨Ty.bool, g75_0 x0⟩], kds := kds75 }
theorem con75 : Contract Tryz.prog 75 S75 := contract_of Tryz.func75 hb75 (Nat.le_of_ble_eq_true (by kernel_rfl)) (fun ⟨x0, _⟩ h _ K q => at75 x0 h K q)


end
end Go.Proofs.YtpellcnihifdaaaGreatDoor

/- Function 59 (cmp.Compare[int64]): its runs between cut points. Written by a program of this repo (gen). -/
set_option linter.unusedVariables false
set_option linter.unusedSimpArgs false
set_option maxRecDepth 100000
namespace Go.Proofs.YtpellcnihifdaaaGreatDoor
open Go Go.Am Go.Proofs
noncomputable section
def ext59 : Ext := [(75, S75)]
theorem call59_75 : Callable Tryz.prog 75 := ⟨Tryz.f75, Tryz.func75, by kernel_rfl, by kernel_rfl⟩
theorem ext59Ok : ExtOk Tryz.prog ext59 := ⟨⟨call59_75, con75⟩, trivial⟩

noncomputable def b59 : Code := bodyOf Tryz.f59
theorem hb59 : Tryz.f59.body = some b59 := by kernel_rfl
def sig59 : List AT := [AT.v (Ty.int IntKind.i64), AT.v (Ty.int IntKind.i64)]
def tys59 : List Ty := [Ty.int IntKind.i64]
def kds59 : List RK := []
def oks59 : List AT := owns sig59
def P59 (x0 : Int) (x1 : Int) : Prop := True
def g59_0 (x0 : Int) (x1 : Int) : Int := (if (g75_0 x0) = true then (if (g75_0 x1) = true then 0 else -1) else (if (g75_0 x1) = true then 1 else (if (Decidable.decide (x0 < x1)) = true then -1 else (if (Decidable.decide (x0 > x1)) = true then 1 else 0))))
theorem at59 (x0 : Int) (x1 : Int) (h : P59 x0 x1) (K : Ctx) (q : Nat → Value) : AtV Tryz.prog 59 (PostR kds59 oks59 [⟨Ty.int IntKind.i64, g59_0 x0 x1⟩] [] [] q K) 20 K q [] [.code b59] (entE 0 0 sig59 (x0, x1, ())) (entL sig59 (x0, x1, ())) := by
  unfold P59 at h
  unfold g59_0
  by_cases b0 : (g75_0 x0) = true
  · try simp only [if_pos b0] at h ⊢
    by_cases b1 : (g75_0 x1) = true
    · try simp only [if_pos b1] at h ⊢
      exact AtV.ret Tryz.func59 tabOk ext59Ok mixed false [] tys59 [true, true] (a1 trivial (a1 trivial (a1 b0 (a1 b1 trivial)))) (by kernel_rfl)
    · try simp only [if_neg b1] at h ⊢
      replace b1 := Bool.eq_false_iff.2 b1
      exact AtV.ret Tryz.func59 tabOk ext59Ok mixed false [] tys59 [true, false] (a1 trivial (a1 trivial (a1 b0 (a1 b1 trivial)))) (by kernel_rfl)
  · try simp only [if_neg b0] at h ⊢
    replace b0 := Bool.eq_false_iff.2 b0
    by_cases b1 : (g75_0 x1) = true
    · try simp only [if_pos b1] at h ⊢
      exact AtV.ret Tryz.func59 tabOk ext59Ok mixed false [] tys59 [false, true] (a1 trivial (a1 trivial (a1 b0 (a1 b1 trivial)))) (by kernel_rfl)
    · try simp only [if_neg b1] at h ⊢
      replace b1 := Bool.eq_false_iff.2 b1
      by_cases b2 : (Decidable.decide (x0 < x1)) = true
      · try simp only [if_pos b2] at h ⊢
        exact AtV.ret Tryz.func59 tabOk ext59Ok mixed false [] tys59 [false, false, true] (a1 trivial (a1 trivial (a1 b0 (a1 b1 (a1 b2 trivial))))) (by kernel_rfl)
      · try simp only [if_neg b2] at h ⊢
        replace b2 := Bool.eq_false_iff.2 b2
        by_cases b3 : (Decidable.decide (x0 > x1)) = true
        · try simp only [if_pos b3] at h ⊢
          exact AtV.ret Tryz.func59 tabOk ext59Ok mixed false [] tys59 [false, false, false, true] (a1 trivial (a1 trivial (a1 b0 (a1 b1 (a1 b2 (a1 b3 trivial)))))) (by kernel_rfl)
        · try simp only [if_neg b3] at h ⊢
          replace b3 := Bool.eq_false_iff.2 b3
          exact AtV.ret Tryz.func59 tabOk ext59Ok mixed false [] tys59 [false, false, false, false] (a1 trivial (a1 trivial (a1 b0 (a1 b1 (a1 b2 (a1 b3 trivial)))))) (by kernel_rfl)

def S59 : Am.Spec := { sig := sig59, pre := fun ⟨x0, x1, _⟩ => P59 x0 x1, res := fun ⟨x0, x1, _⟩ => [⟨Ty.int IntKind.i64, g59_0 x0 x1⟩], kds := kds59 }
theorem con59 : Contract Tryz.prog 59 S59 := contract_of Tryz.func59 hb59 (Nat.le_of_ble_eq_true (by kernel_rfl)) (fun ⟨x0, x1, _⟩ h _ K q => at59 x0 x1 h K q)


end
end Go.Proofs.YtpellcnihifdaaaGreatDoor

/- Function 57 (cmp.Or[int]): its runs between cut points. Written by a program of this repo (gen). -/
set_option linter.unusedVariables false
set_option linter.unusedSimpArgs false
set_option maxRecDepth 100000
namespace Go.Proofs.YtpellcnihifdaaaGreatDoor
open Go Go.Am Go.Proofs
noncomputable section
def ext57 : Ext := []
theorem ext57Ok : ExtOk Tryz.prog ext57 := trivial

noncomputable def b57 : Code := bodyOf Tryz.f57
theorem hb57 : Tryz.f57.body = some b57 := by kernel_rfl
def sig57 : List AT := [AT.v (Ty.sl (Ty.int IntKind.i64))]
def tys57 : List Ty := [Ty.int IntKind.i64]
def kds57 : List RK := []
def oks57 : List AT := owns sig57
def E57_3 (v8 : Int) (x0 : List Int) : Env := [(3, PV.a (Atom.val (Value.int IntKind.i64 0))), (6, PV.a (Atom.sl (Ty.int IntKind.i64) x0)), (7, PV.a (Atom.val (Value.int IntKind.i64 (↑(List.length x0) : Int)))), (8, PV.a (Atom.val (Value.int IntKind.i64 v8)))]
def L57_3 (v8 : Int) (x0 : List Int) : Heap := []
mutual
def R57 : Nat → List Int → List Dyn → Prop
  | 0, _, _ => False
  | n + 1, x0, ds => (R57_3 n (0) (x0) ds)
def R57_3 : Nat → Int → List Int → List Dyn → Prop
  | 0, _, _, _ => False
  | n + 1, v8, x0, ds => (if (Decidable.decide (v8 < (↑(List.length x0) : Int))) = true then ((0 ≤ v8) ∧ (v8 < (↑(List.length x0) : Int)) ∧ (if (List.getD x0 (Int.toNat v8) 0 != 0) = true then (ds = [Dyn.mk (Ty.int IntKind.i64) (List.getD x0 (Int.toNat v8) 0)]) else ((InR IntKind.i64 (v8 + 1)) ∧ (R57_3 n (v8 + 1) (x0) ds)))) else (ds = [Dyn.mk (Ty.int IntKind.i64) 0]))
end
theorem snd57 : ∀ n, (∀ (x0 : List Int) ds, R57 n x0 ds → ∀ K q, AtV Tryz.prog 57 (PostR kds57 oks57 ds [] [] q K) 18 K q [] [.code b57] (entE 0 0 sig57 (x0, ())) (entL sig57 (x0, ()))) ∧ (∀ (v8 : Int) (x0 : List Int) ds, R57_3 n v8 x0 ds → ∀ K q, AtV Tryz.prog 57 (PostR kds57 oks57 ds [] [] q K) 18 K q [] (cutAt b57 3) (E57_3 v8 x0) (L57_3 v8 x0)) := by
  intro n
  induction n with
  | zero => exact ⟨fun _ _ h => by simp only [R57] at h, fun _ _ _ h => by simp only [R57_3] at h⟩
  | succ n ih =>
  obtain ⟨ih, ih3⟩ := ih
  refine ⟨?_, ?_⟩
  · intro x0 ds h K q
    rw [R57] at h
    exact AtV.go tabOk ext57Ok mixed false [] [] [3, 6, 7, 8] [] [] trivial (ih3 _ _ _ h K q) (by kernel_rfl)

  · intro v8 x0 ds h K q
    rw [R57_3] at h
    by_cases b0 : (Decidable.decide (v8 < (↑(List.length x0) : Int))) = true
    · rw [if_pos b0] at h
      obtain ⟨s0, s1, h⟩ := h
      by_cases b1 : (List.getD x0 (Int.toNat v8) 0 != 0) = true
      · rw [if_pos b1] at h
        subst h
        exact AtV.ret Tryz.func57 tabOk ext57Ok mixed false [] tys57 [true, true] (a1 b0 (a1 s0 (a1 s1 (a1 b1 trivial)))) (by kernel_rfl)
      · rw [if_neg b1] at h
        replace b1 := Bool.eq_false_iff.2 b1
        obtain ⟨s2, h⟩ := h
        exact AtV.go tabOk ext57Ok mixed false [] [] [3, 6, 7, 8] [] [true, false] (a1 b0 (a1 s0 (a1 s1 (a1 b1 (a1 s2 trivial))))) (ih3 _ _ _ h K q) (by kernel_rfl)
    · rw [if_neg b0] at h
      replace b0 := Bool.eq_false_iff.2 b0
      subst h
      exact AtV.ret Tryz.func57 tabOk ext57Ok mixed false [] tys57 [false] (a1 b0 trivial) (by kernel_rfl)



def g57_0 : List Int → Int
  | [] => 0
  | x :: r => if x != 0 then x else g57_0 r
def P57 (x0 : List Int) : Prop := True

theorem goL57 : ∀ (xs : List Int), goL (fun (_ : Unit) (x : Int) => if (x != 0) = true then Except.error [(⟨.int .i64, x⟩ : Dyn)] else .ok ()) (fun _ => [⟨.int .i64, (0 : Int)⟩]) () xs = [⟨.int .i64, g57_0 xs⟩]
  | [] => rfl
  | x :: r => by
    simp only [goL, g57_0]
    cases h : x != 0 with
    | true => simp
    | false => simpa using goL57 r

theorem top57 (x0 : List Int) (hm : x0.length ≤ maxLen) : R57 (x0.length + 1 + 1) x0 [⟨.int .i64, g57_0 x0⟩] := by
  rw [R57, ← goL57]
  refine loop_all x0 0 _ _ (fun _ _ => True) (fun n i _ ds => R57_3 n i x0 ds) trivial ?_ ?_
  · intro n b _
    show R57_3 (n + 1) x0.length x0 _
    rw [R57_3, if_neg (by simp)]
  · intro n i b hi _
    cases h : (x0.getD i 0 != 0) with
    | true =>
      show R57_3 (n + 1) (i : Int) x0 _
      rw [R57_3, if_pos (by simp; omega)]
      refine ⟨by omega, by omega, ?_⟩
      simp only [Int.toNat_natCast]
      rw [if_pos h] <;> trivial
    | false =>
      refine ⟨trivial, fun ds hr => ?_⟩
      rw [R57_3, if_pos (by simp; omega)]
      refine ⟨by omega, by omega, ?_⟩
      simp only [Int.toNat_natCast]
      rw [if_neg (by rw [h]; simp)]
      exact ⟨inR_up hm hi, hr⟩

def S57 : Am.Spec := { sig := sig57, pre := fun ⟨x0, _⟩ => P57 x0, res := fun ⟨x0, _⟩ => [⟨Ty.int .i64, g57_0 x0⟩] }
theorem con57 : Contract Tryz.prog 57 S57 := contract_of Tryz.func57 hb57 (Nat.le_of_ble_eq_true (by kernel_rfl)) (fun ⟨x0, _⟩ h hwf K q =>
  (snd57 _).1 x0 _ (top57 x0 hwf.1.1) K q)

end
end Go.Proofs.YtpellcnihifdaaaGreatDoor

/- Function 39 (impl.compareGrants): its runs between cut points. Written by a program of this repo (gen). -/
set_option linter.unusedVariables false
set_option linter.unusedSimpArgs false
set_option maxRecDepth 100000
namespace Go.Proofs.YtpellcnihifdaaaGreatDoor
open Go Go.Am Go.Proofs
noncomputable section
def ext39 : Ext := [(58, S58), (59, S59), (57, S57)]
theorem call39_58 : Callable Tryz.prog 58 := ⟨Tryz.f58, Tryz.func58, by kernel_rfl, by kernel_rfl⟩
theorem call39_59 : Callable Tryz.prog 59 := ⟨Tryz.f59, Tryz.func59, by kernel_rfl, by kernel_rfl⟩
theorem call39_57 : Callable Tryz.prog 57 := ⟨Tryz.f57, Tryz.func57, by kernel_rfl, by kernel_rfl⟩
theorem ext39Ok : ExtOk Tryz.prog ext39 := ⟨⟨call39_58, con58⟩, ⟨call39_59, con59⟩, ⟨call39_57, con57⟩, trivial⟩

noncomputable def b39 : Code := bodyOf Tryz.f39
theorem hb39 : Tryz.f39.body = some b39 := by kernel_rfl
def sig39 : List AT := [AT.v (Ty.cons Ty.str (Ty.cons Ty.str (Ty.cons (Ty.int IntKind.i64) Ty.unit))), AT.v (Ty.cons Ty.str (Ty.cons Ty.str (Ty.cons (Ty.int IntKind.i64) Ty.unit)))]
def tys39 : List Ty := [Ty.int IntKind.i64]
def kds39 : List RK := []
def oks39 : List AT := owns sig39
def P39 (x0 : ByteArray × ByteArray × Int × Unit) (x1 : ByteArray × ByteArray × Int × Unit) : Prop := True
def g39_0 (x0 : ByteArray × ByteArray × Int × Unit) (x1 : ByteArray × ByteArray × Int × Unit) : Int := g57_0 [g58_0 (Prod.fst x0) (Prod.fst x1), g58_0 (Prod.fst (Prod.snd x0)) (Prod.fst (Prod.snd x1)), g59_0 (Prod.fst (Prod.snd (Prod.snd x0))) (Prod.fst (Prod.snd (Prod.snd x1)))]
theorem at39 (x0 : ByteArray × ByteArray × Int × Unit) (x1 : ByteArray × ByteArray × Int × Unit) (h : P39 x0 x1) (K : Ctx) (q : Nat → Value) : AtV Tryz.prog 39 (PostR kds39 oks39 [⟨Ty.int IntKind.i64, g39_0 x0 x1⟩] [] [] q K) 22 K q [] [.code b39] (entE 0 0 sig39 (x0, x1, ())) (entL sig39 (x0, x1, ())) := by
  unfold P39 at h
  unfold g39_0
  exact AtV.ret Tryz.func39 tabOk ext39Ok mixed false [] tys39 [] (a1 trivial (a1 trivial (a1 trivial (a1 trivial trivial)))) (by kernel_rfl)

def S39 : Am.Spec := { sig := sig39, pre := fun ⟨x0, x1, _⟩ => P39 x0 x1, res := fun ⟨x0, x1, _⟩ => [⟨Ty.int IntKind.i64, g39_0 x0 x1⟩], kds := kds39 }
theorem con39 : Contract Tryz.prog 39 S39 := contract_of Tryz.func39 hb39 (Nat.le_of_ble_eq_true (by kernel_rfl)) (fun ⟨x0, x1, _⟩ h _ K q => at39 x0 x1 h K q)


end
end Go.Proofs.YtpellcnihifdaaaGreatDoor

/- Function 19 (impl.ValidGrants): its runs between cut points. Written by a program of this repo (gen). -/
set_option linter.unusedVariables false
set_option linter.unusedSimpArgs false
set_option maxRecDepth 100000
namespace Go.Proofs.YtpellcnihifdaaaGreatDoor
open Go Go.Am Go.Proofs
noncomputable section
def ext19 : Ext := [(26, S26), (38, S38), (39, S39)]
theorem call19_26 : Callable Tryz.prog 26 := ⟨Tryz.f26, Tryz.func26, by kernel_rfl, by kernel_rfl⟩
theorem call19_38 : Callable Tryz.prog 38 := ⟨Tryz.f38, Tryz.func38, by kernel_rfl, by kernel_rfl⟩
theorem call19_39 : Callable Tryz.prog 39 := ⟨Tryz.f39, Tryz.func39, by kernel_rfl, by kernel_rfl⟩
theorem ext19Ok : ExtOk Tryz.prog ext19 := ⟨⟨call19_26, con26⟩, ⟨call19_38, con38⟩, ⟨call19_39, con39⟩, trivial⟩

noncomputable def b19 : Code := bodyOf Tryz.f19
theorem hb19 : Tryz.f19.body = some b19 := by kernel_rfl
def sig19 : List AT := [AT.v (Ty.sl (Ty.cons Ty.str (Ty.cons (Ty.sl Ty.str) Ty.unit))), AT.v (Ty.sl (Ty.cons Ty.str (Ty.cons Ty.str (Ty.cons (Ty.int IntKind.i64) Ty.unit))))]
def tys19 : List Ty := [Ty.bool]
def kds19 : List RK := []
def oks19 : List AT := owns sig19
def E19_4 (v12 : Int) (x0 : List (ByteArray × List ByteArray × Unit)) (x1 : List (ByteArray × ByteArray × Int × Unit)) : Env := [(0, PV.a (Atom.sl (Ty.cons Ty.str (Ty.cons (Ty.sl Ty.str) Ty.unit)) x0)), (1, PV.a (Atom.sl (Ty.cons Ty.str (Ty.cons Ty.str (Ty.cons (Ty.int IntKind.i64) Ty.unit))) x1)), (10, PV.a (Atom.sl (Ty.cons Ty.str (Ty.cons Ty.str (Ty.cons (Ty.int IntKind.i64) Ty.unit))) x1)), (11, PV.a (Atom.val (Value.int IntKind.i64 (↑(List.length x1) : Int)))), (12, PV.a (Atom.val (Value.int IntKind.i64 v12)))]
def L19_4 (v12 : Int) (x0 : List (ByteArray × List ByteArray × Unit)) (x1 : List (ByteArray × ByteArray × Int × Unit)) : Heap := []
mutual
def R19 : Nat → List (ByteArray × List ByteArray × Unit) → List (ByteArray × ByteArray × Int × Unit) → List Dyn → Prop
  | 0, _, _, _ => False
  | n + 1, x0, x1, ds => ((P26 x0) ∧ (if (!g26_0 x0) = true then (ds = [Dyn.mk Ty.bool Bool.false]) else (R19_4 n (0) (x0) (x1) ds)))
def R19_4 : Nat → Int → List (ByteArray × List ByteArray × Unit) → List (ByteArray × ByteArray × Int × Unit) → List Dyn → Prop
  | 0, _, _, _, _ => False
  | n + 1, v12, x0, x1, ds => (if (Decidable.decide (v12 < (↑(List.length x1) : Int))) = true then ((0 ≤ v12) ∧ (v12 < (↑(List.length x1) : Int)) ∧ (if (!g38_0 x0 (List.getD x1 (Int.toNat v12) (ByteArray.empty, ByteArray.empty, 0, ()))) = true then (ds = [Dyn.mk Ty.bool Bool.false]) else (if (Decidable.decide (v12 > 0)) = true then ((InR IntKind.i64 (v12 - 1)) ∧ ((0 ≤ v12 - 1) ∧ (v12 - 1 < (↑(List.length x1) : Int)) ∧ (if (Decidable.decide (g39_0 (List.getD x1 (Int.toNat (v12 - 1)) (ByteArray.empty, ByteArray.empty, 0, ())) (List.getD x1 (Int.toNat v12) (ByteArray.empty, ByteArray.empty, 0, ())) ≥ 0)) = true then (ds = [Dyn.mk Ty.bool Bool.false]) else ((InR IntKind.i64 (v12 + 1)) ∧ (R19_4 n (v12 + 1) (x0) (x1) ds))))) else ((InR IntKind.i64 (v12 + 1)) ∧ (R19_4 n (v12 + 1) (x0) (x1) ds))))) else (ds = [Dyn.mk Ty.bool (Decidable.decide ((↑(List.length x1) : Int) ≤ 48))]))
end
theorem snd19 : ∀ n, (∀ (x0 : List (ByteArray × List ByteArray × Unit)) (x1 : List (ByteArray × ByteArray × Int × Unit)) ds, R19 n x0 x1 ds → ∀ K q, AtV Tryz.prog 19 (PostR kds19 oks19 ds [] [] q K) 39 K q [] [.code b19] (entE 0 0 sig19 (x0, x1, ())) (entL sig19 (x0, x1, ()))) ∧ (∀ (v12 : Int) (x0 : List (ByteArray × List ByteArray × Unit)) (x1 : List (ByteArray × ByteArray × Int × Unit)) ds, R19_4 n v12 x0 x1 ds → ∀ K q, AtV Tryz.prog 19 (PostR kds19 oks19 ds [] [] q K) 39 K q [] (cutAt b19 4) (E19_4 v12 x0 x1) (L19_4 v12 x0 x1)) := by
  intro n
  induction n with
  | zero => exact ⟨fun _ _ _ h => by simp only [R19] at h, fun _ _ _ _ h => by simp only [R19_4] at h⟩
  | succ n ih =>
  obtain ⟨ih, ih4⟩ := ih
  refine ⟨?_, ?_⟩
  · intro x0 x1 ds h K q
    rw [R19] at h
    obtain ⟨s0, h⟩ := h
    by_cases b0 : (!g26_0 x0) = true
    · rw [if_pos b0] at h
      subst h
      exact AtV.ret Tryz.func19 tabOk ext19Ok mixed false [] tys19 [true] (a1 s0 (a1 b0 trivial)) (by kernel_rfl)
    · rw [if_neg b0] at h
      replace b0 := Bool.eq_false_iff.2 b0
      exact AtV.go tabOk ext19Ok mixed false [] [] [0, 1, 10, 11, 12] [] [false] (a1 s0 (a1 b0 trivial)) (ih4 _ _ _ _ h K q) (by kernel_rfl)

  · intro v12 x0 x1 ds h K q
    rw [R19_4] at h
    by_cases b0 : (Decidable.decide (v12 < (↑(List.length x1) : Int))) = true
    · rw [if_pos b0] at h
      obtain ⟨s0, s1, h⟩ := h
      by_cases b1 : (!g38_0 x0 (List.getD x1 (Int.toNat v12) (ByteArray.empty, ByteArray.empty, 0, ()))) = true
      · rw [if_pos b1] at h
        subst h
        exact AtV.ret Tryz.func19 tabOk ext19Ok mixed false [] tys19 [true, true, true] (a1 b0 (a1 s0 (a1 s1 (a1 trivial (a1 b1 (a1 (rfl : Bool.true = Bool.true) trivial)))))) (by kernel_rfl)
      · rw [if_neg b1] at h
        replace b1 := Bool.eq_false_iff.2 b1
        by_cases b2 : (Decidable.decide (v12 > 0)) = true
        · rw [if_pos b2] at h
          obtain ⟨s2, h⟩ := h
          obtain ⟨s3, s4, h⟩ := h
          by_cases b3 : (Decidable.decide (g39_0 (List.getD x1 (Int.toNat (v12 - 1)) (ByteArray.empty, ByteArray.empty, 0, ())) (List.getD x1 (Int.toNat v12) (ByteArray.empty, ByteArray.empty, 0, ())) ≥ 0)) = true
          · rw [if_pos b3] at h
            subst h
            exact AtV.ret Tryz.func19 tabOk ext19Ok mixed false [] tys19 [true, false, true, true] (a1 b0 (a1 s0 (a1 s1 (a1 trivial (a1 b1 (a1 b2 (a1 s2 (a1 s3 (a1 s4 (a1 trivial (a1 b3 trivial))))))))))) (by kernel_rfl)
          · rw [if_neg b3] at h
            replace b3 := Bool.eq_false_iff.2 b3
            obtain ⟨s5, h⟩ := h
            exact AtV.go tabOk ext19Ok mixed false [] [] [0, 1, 10, 11, 12] [] [true, false, true, false] (a1 b0 (a1 s0 (a1 s1 (a1 trivial (a1 b1 (a1 b2 (a1 s2 (a1 s3 (a1 s4 (a1 trivial (a1 b3 (a1 s5 trivial)))))))))))) (ih4 _ _ _ _ h K q) (by kernel_rfl)
        · rw [if_neg b2] at h
          replace b2 := Bool.eq_false_iff.2 b2
          obtain ⟨s2, h⟩ := h
          exact AtV.go tabOk ext19Ok mixed false [] [] [0, 1, 10, 11, 12] [] [true, false, false, false] (a1 b0 (a1 s0 (a1 s1 (a1 trivial (a1 b1 (a1 b2 (a1 (rfl : Bool.false = Bool.false) (a1 s2 trivial)))))))) (ih4 _ _ _ _ h K q) (by kernel_rfl)
    · rw [if_neg b0] at h
      replace b0 := Bool.eq_false_iff.2 b0
      subst h
      exact AtV.ret Tryz.func19 tabOk ext19Ok mixed false [] tys19 [false] (a1 b0 trivial) (by kernel_rfl)



abbrev RL19 := ByteArray × List ByteArray × Unit
abbrev GR19 := ByteArray × ByteArray × Int × Unit
def ok19 (x0 : List RL19) (x1 : List GR19) (i : Nat) (x : GR19) : Bool := g38_0 x0 x && (i == 0 || !decide (g39_0 (x1.getD (i - 1) (ByteArray.empty, ByteArray.empty, 0, ())) x ≥ 0))
def g19_0 (x0 : List RL19) (x1 : List GR19) : Bool := if g26_0 x0 = true then (allI (ok19 x0 x1) 0 x1 && decide ((x1.length : Int) ≤ 48)) else false
def P19 (x0 : List RL19) (x1 : List GR19) : Prop := P26 x0

theorem step19 (n i : Nat) (x0 : List RL19) (x1 : List GR19) (hm : x1.length ≤ maxLen) (hi : i < x1.length) (ds : List Dyn)
    (h : if ok19 x0 x1 i (x1.getD i (ByteArray.empty, ByteArray.empty, 0, ())) = true then R19_4 n ((i : Int) + 1) x0 x1 ds else ds = [⟨.bool, false⟩]) : R19_4 (n + 1) (i : Int) x0 x1 ds := by
  have hu := inR_up hm hi
  have hmx : maxLen ≤ 9223372036854775807 := by decide
  rw [R19_4, if_pos (by simp only [decide_eq_true_eq]; omega)]
  simp only [Int.toNat_natCast]
  refine ⟨by omega, by omega, ?_⟩
  unfold ok19 at h
  by_cases h1 : g38_0 x0 (x1.getD i (ByteArray.empty, ByteArray.empty, 0, ())) = true
  case neg =>
    have h1 := Bool.eq_false_iff.2 h1
    refine (if_pos (by rw [h1]; rfl)).mpr ?_
    rw [h1] at h
    simpa using h
  refine (if_neg (by rw [h1]; decide)).mpr ?_
  rw [h1] at h
  by_cases h0 : (i : Int) > 0
  case neg =>
    refine (if_neg (by simpa using h0)).mpr ?_
    have hi0 : (i == 0) = true := by simp; omega
    rw [hi0] at h
    exact ⟨hu, by simpa using h⟩
  refine (if_pos (by simpa using h0)).mpr ?_
  have hi0 : (i == 0) = false := by simp; omega
  have e : ((i : Int) - 1).toNat = i - 1 := by omega
  have hd : InR .i64 ((i : Int) - 1) := by rw [i64_iff]; omega
  rw [hi0] at h
  simp only [e]
  refine ⟨hd, by omega, by omega, ?_⟩
  by_cases h3 : g39_0 (x1.getD (i - 1) (ByteArray.empty, ByteArray.empty, 0, ())) (x1.getD i (ByteArray.empty, ByteArray.empty, 0, ())) ≥ 0
  · refine (if_pos (decide_eq_true h3)).mpr ?_
    rw [decide_eq_true h3] at h
    simpa using h
  · refine (if_neg (by simpa using h3)).mpr ?_
    rw [decide_eq_false h3] at h
    exact ⟨hu, by simpa using h⟩

theorem top19 (x0 : List RL19) (x1 : List GR19) (hp : P19 x0 x1) (hw : x1.length ≤ maxLen) : ∃ n, R19 n x0 x1 [⟨.bool, g19_0 x0 x1⟩] := by
  unfold g19_0
  by_cases c : g26_0 x0 = true
  · rw [if_pos c]
    have key := loop_testI x1 (ByteArray.empty, ByteArray.empty, 0, ()) (ok19 x0 x1) [(⟨.bool, false⟩ : Dyn)] [⟨.bool, decide ((x1.length : Int) ≤ 48)⟩] (fun n i ds => R19_4 n i x0 x1 ds) (fun n => ?_) (fun n i hi hok ds hr => ?_) (fun n i hi hok => ?_)
    · refine ⟨x1.length + 1 + 1, ?_⟩
      rw [R19]
      refine ⟨hp, (if_neg (by rw [c]; decide)).mpr ?_⟩
      cases h : allI (ok19 x0 x1) 0 x1 with
      | true => rw [if_pos h] at key; simpa using key
      | false => rw [if_neg (by rw [h]; simp)] at key; simpa using key
    · rw [R19_4, if_neg (by simp)]
    · exact step19 n i x0 x1 hw hi ds (by rw [if_pos hok]; exact hr)
    · exact step19 n i x0 x1 hw hi _ (by rw [if_neg (by rw [hok]; simp)])
  · rw [if_neg c]
    exact ⟨1, by rw [R19]; exact ⟨hp, (if_pos (by rw [Bool.eq_false_iff.2 c]; rfl)).mpr rfl⟩⟩

def S19 : Am.Spec := { sig := sig19, pre := fun ⟨x0, x1, _⟩ => P19 x0 x1, res := fun ⟨x0, x1, _⟩ => [⟨.bool, g19_0 x0 x1⟩] }
theorem con19 : Contract Tryz.prog 19 S19 := contract_of Tryz.func19 hb19 (Nat.le_of_ble_eq_true (by kernel_rfl)) (fun ⟨x0, x1, _⟩ h hwf K q =>
  let ⟨_, hn⟩ := top19 x0 x1 h hwf.2.1.1
  (snd19 _).1 x0 x1 _ hn K q)

end
end Go.Proofs.YtpellcnihifdaaaGreatDoor

/- Function 42 (impl.has$1): its runs between cut points. Written by a program of this repo (gen). -/
set_option linter.unusedVariables false
set_option linter.unusedSimpArgs false
set_option maxRecDepth 100000
namespace Go.Proofs.YtpellcnihifdaaaGreatDoor
open Go Go.Am Go.Proofs
noncomputable section
def ext42 : Ext := [(43, S43)]
theorem call42_43 : Callable Tryz.prog 43 := ⟨Tryz.f43, Tryz.func43, by kernel_rfl, by kernel_rfl⟩
theorem ext42Ok : ExtOk Tryz.prog ext42 := ⟨⟨call42_43, con43⟩, trivial⟩

noncomputable def b42 : Code := bodyOf Tryz.f42
theorem hb42 : Tryz.f42.body = some b42 := by kernel_rfl
def sig42 : List AT := [AT.v (Ty.cons Ty.str (Ty.cons Ty.str (Ty.cons (Ty.int IntKind.i64) Ty.unit))), AT.p .str, AT.p (.int .i64), AT.p (.sl .str)]
def tys42 : List Ty := [Ty.bool]
def kds42 : List RK := []
def oks42 : List AT := owns sig42
def P42 (x0 : ByteArray × ByteArray × Int × Unit) (x1 : ByteArray) (x2 : Int) (x3 : List ByteArray) : Prop := True
def g42_0 (x0 : ByteArray × ByteArray × Int × Unit) (x1 : ByteArray) (x2 : Int) (x3 : List ByteArray) : Bool := (if (ByteArray.toList (Prod.fst (Prod.snd x0)) == ByteArray.toList x1) = true then (if (Decidable.decide (Prod.fst (Prod.snd (Prod.snd x0)) ≥ x2)) = true then g43_0 x3 (Prod.fst x0) else Bool.false) else Bool.false)
theorem at42 (x0 : ByteArray × ByteArray × Int × Unit) (x1 : ByteArray) (x2 : Int) (x3 : List ByteArray) (h : P42 x0 x1 x2 x3) (K : Ctx) (q : Nat → Value) : AtV Tryz.prog 42 (PostR kds42 oks42 [⟨Ty.bool, g42_0 x0 x1 x2 x3⟩] [] [] q K) 22 K q [] [.code b42] (entE 0 0 sig42 (x0, x1, x2, x3, ())) (entL sig42 (x0, x1, x2, x3, ())) := by
  unfold P42 at h
  unfold g42_0
  by_cases b0 : (ByteArray.toList (Prod.fst (Prod.snd x0)) == ByteArray.toList x1) = true
  · try simp only [if_pos b0] at h ⊢
    by_cases b1 : (Decidable.decide (Prod.fst (Prod.snd (Prod.snd x0)) ≥ x2)) = true
    · try simp only [if_pos b1] at h ⊢
      exact AtV.ret Tryz.func42 tabOk ext42Ok mixed false [] tys42 [true, true] (a1 b0 (a1 b1 (a1 trivial trivial))) (by kernel_rfl)
    · try simp only [if_neg b1] at h ⊢
      replace b1 := Bool.eq_false_iff.2 b1
      exact AtV.ret Tryz.func42 tabOk ext42Ok mixed false [] tys42 [true, false] (a1 b0 (a1 b1 trivial)) (by kernel_rfl)
  · try simp only [if_neg b0] at h ⊢
    replace b0 := Bool.eq_false_iff.2 b0
    exact AtV.ret Tryz.func42 tabOk ext42Ok mixed false [] tys42 [false, false] (a1 b0 (a1 (rfl : Bool.false = Bool.false) trivial)) (by kernel_rfl)

def S42 : Am.Spec := { sig := sig42, pre := fun ⟨x0, x1, x2, x3, _⟩ => P42 x0 x1 x2 x3, res := fun ⟨x0, x1, x2, x3, _⟩ => [⟨Ty.bool, g42_0 x0 x1 x2 x3⟩], kds := kds42 }
theorem con42 : Contract Tryz.prog 42 S42 := contract_of Tryz.func42 hb42 (Nat.le_of_ble_eq_true (by kernel_rfl)) (fun ⟨x0, x1, x2, x3, _⟩ h _ K q => at42 x0 x1 x2 x3 h K q)


end
end Go.Proofs.YtpellcnihifdaaaGreatDoor

/- Function 60 (slices.IndexFunc[[]impl.Grant,impl.Grant]): its runs between cut points. Written by a program of this repo (gen). -/
set_option linter.unusedVariables false
set_option linter.unusedSimpArgs false
set_option maxRecDepth 100000
namespace Go.Proofs.YtpellcnihifdaaaGreatDoor
open Go Go.Am Go.Proofs
noncomputable section
def ext60c42 : Ext := [(42, S42)]
theorem call60c42_42 : Callable Tryz.prog 42 := ⟨Tryz.f42, Tryz.func42, by kernel_rfl, by kernel_rfl⟩
theorem ext60c42Ok : ExtOk Tryz.prog ext60c42 := ⟨⟨call60c42_42, con42⟩, trivial⟩

noncomputable def b60c42 : Code := bodyOf Tryz.f60
theorem hb60c42 : Tryz.f60.body = some b60c42 := by kernel_rfl
def sig60c42 : List AT := [AT.v (Ty.sl (Ty.cons Ty.str (Ty.cons Ty.str (Ty.cons (Ty.int IntKind.i64) Ty.unit)))), AT.fn 42 [(true, .str), (true, (.int .i64)), (true, (.sl .str))]]
def tys60c42 : List Ty := [Ty.int IntKind.i64]
def kds60c42 : List RK := []
def oks60c42 : List AT := owns sig60c42
def E60c42_2 (v8 : Int) (x0 : List (ByteArray × ByteArray × Int × Unit)) (x1 : ByteArray) (x1c : Int) (x1cc : List ByteArray) : Env := [(0, PV.a (Atom.sl (Ty.cons Ty.str (Ty.cons Ty.str (Ty.cons (Ty.int IntKind.i64) Ty.unit))) x0)), (1, PV.fn 42 [Atom.ptr Ty.str x1, Atom.ptr (Ty.int IntKind.i64) x1c, Atom.ptr (Ty.sl Ty.str) x1cc]), (7, PV.a (Atom.val (Value.int IntKind.i64 (↑(List.length x0) : Int)))), (8, PV.a (Atom.val (Value.int IntKind.i64 v8)))]
def L60c42_2 (v8 : Int) (x0 : List (ByteArray × ByteArray × Int × Unit)) (x1 : ByteArray) (x1c : Int) (x1cc : List ByteArray) : Heap := []
mutual
def R60c42 : Nat → List (ByteArray × ByteArray × Int × Unit) → ByteArray → Int → List ByteArray → List Dyn → Prop
  | 0, _, _, _, _, _ => False
  | n + 1, x0, x1, x1c, x1cc, ds => (R60c42_2 n (0) (x0) (x1) (x1c) (x1cc) ds)
def R60c42_2 : Nat → Int → List (ByteArray × ByteArray × Int × Unit) → ByteArray → Int → List ByteArray → List Dyn → Prop
  | 0, _, _, _, _, _, _ => False
  | n + 1, v8, x0, x1, x1c, x1cc, ds => (if (Decidable.decide (v8 < (↑(List.length x0) : Int))) = true then ((0 ≤ v8) ∧ (v8 < (↑(List.length x0) : Int)) ∧ (if (g42_0 (List.getD x0 (Int.toNat v8) (ByteArray.empty, ByteArray.empty, 0, ())) x1 x1c x1cc) = true then (ds = [Dyn.mk (Ty.int IntKind.i64) v8]) else ((InR IntKind.i64 (v8 + 1)) ∧ (R60c42_2 n (v8 + 1) (x0) (x1) (x1c) (x1cc) ds)))) else (ds = [Dyn.mk (Ty.int IntKind.i64) (-1)]))
end
theorem snd60c42 : ∀ n, (∀ (x0 : List (ByteArray × ByteArray × Int × Unit)) (x1 : ByteArray) (x1c : Int) (x1cc : List ByteArray) ds, R60c42 n x0 x1 x1c x1cc ds → ∀ K q, AtV Tryz.prog 60 (PostR kds60c42 oks60c42 ds [] [] q K) 19 K q [] [.code b60c42] (entE 0 0 sig60c42 (x0, (x1, x1c, x1cc, ()), ())) (entL sig60c42 (x0, (x1, x1c, x1cc, ()), ()))) ∧ (∀ (v8 : Int) (x0 : List (ByteArray × ByteArray × Int × Unit)) (x1 : ByteArray) (x1c : Int) (x1cc : List ByteArray) ds, R60c42_2 n v8 x0 x1 x1c x1cc ds → ∀ K q, AtV Tryz.prog 60 (PostR kds60c42 oks60c42 ds [] [] q K) 19 K q [] (cutAt b60c42 2) (E60c42_2 v8 x0 x1 x1c x1cc) (L60c42_2 v8 x0 x1 x1c x1cc)) := by
  intro n
  induction n with
  | zero => exact ⟨fun _ _ _ _ _ h => by simp only [R60c42] at h, fun _ _ _ _ _ _ h => by simp only [R60c42_2] at h⟩
  | succ n ih =>
  obtain ⟨ih, ih2⟩ := ih
  refine ⟨?_, ?_⟩
  · intro x0 x1 x1c x1cc ds h K q
    rw [R60c42] at h
    exact AtV.go tabOk ext60c42Ok mixed false [] [] [0, 1, 7, 8] [] [] trivial (ih2 _ _ _ _ _ _ h K q) (by kernel_rfl)

  · intro v8 x0 x1 x1c x1cc ds h K q
    rw [R60c42_2] at h
    by_cases b0 : (Decidable.decide (v8 < (↑(List.length x0) : Int))) = true
    · rw [if_pos b0] at h
      obtain ⟨s0, s1, h⟩ := h
      by_cases b1 : (g42_0 (List.getD x0 (Int.toNat v8) (ByteArray.empty, ByteArray.empty, 0, ())) x1 x1c x1cc) = true
      · rw [if_pos b1] at h
        subst h
        exact AtV.ret Tryz.func60 tabOk ext60c42Ok mixed false [] tys60c42 [true, true] (a1 b0 (a1 s0 (a1 s1 (a1 trivial (a1 b1 trivial))))) (by kernel_rfl)
      · rw [if_neg b1] at h
        replace b1 := Bool.eq_false_iff.2 b1
        obtain ⟨s2, h⟩ := h
        exact AtV.go tabOk ext60c42Ok mixed false [] [] [0, 1, 7, 8] [] [true, false] (a1 b0 (a1 s0 (a1 s1 (a1 trivial (a1 b1 (a1 s2 trivial)))))) (ih2 _ _ _ _ _ _ h K q) (by kernel_rfl)
    · rw [if_neg b0] at h
      replace b0 := Bool.eq_false_iff.2 b0
      subst h
      exact AtV.ret Tryz.func60 tabOk ext60c42Ok mixed false [] tys60c42 [false] (a1 b0 trivial) (by kernel_rfl)



def g60c42_0 (x0 : List (ByteArray × ByteArray × Int × Unit)) (y0 : ByteArray) (y1 : Int) (y2 : List (ByteArray)) : Int := idx (x0.findIdx? (fun x => g42_0 x y0 y1 y2))
def P60c42 (x0 : List (ByteArray × ByteArray × Int × Unit)) (y0 : ByteArray) (y1 : Int) (y2 : List (ByteArray)) : Prop := True

theorem top60c42 (x0 : List (ByteArray × ByteArray × Int × Unit)) (y0 : ByteArray) (y1 : Int) (y2 : List (ByteArray)) (hm : x0.length ≤ maxLen) : R60c42 (x0.length + 1 + 1) x0 y0 y1 y2 [⟨.int .i64, g60c42_0 x0 y0 y1 y2⟩] := by
  rw [R60c42]
  have key := loop_find x0 (ByteArray.empty, ByteArray.empty, (0 : Int), ()) (fun x => g42_0 x y0 y1 y2) [(⟨.int .i64, -1⟩ : Dyn)] (fun k => [⟨.int .i64, k⟩]) (fun n i ds => R60c42_2 n i x0 y0 y1 y2 ds) (fun n => ?_) (fun n i hi hok ds hr => ?_) (fun n i hi hok => ?_)
  · unfold g60c42_0
    cases h : x0.findIdx? (fun x => g42_0 x y0 y1 y2) <;> rw [h] at key <;> exact key
  · rw [R60c42_2, if_neg (by simp)]
  · rw [R60c42_2, if_pos (by simp; omega)]
    simp only [Int.toNat_natCast]
    refine ⟨by omega, by omega, ?_⟩
    rw [if_neg (by rw [hok]; simp)]
    exact ⟨inR_up hm hi, hr⟩
  · rw [R60c42_2, if_pos (by simp; omega)]
    simp only [Int.toNat_natCast]
    refine ⟨by omega, by omega, ?_⟩
    rw [if_pos hok] <;> trivial

def S60c42 : Am.Spec := { sig := sig60c42, pre := fun ⟨x0, ⟨y0, y1, y2, _⟩, _⟩ => P60c42 x0 y0 y1 y2, res := fun ⟨x0, ⟨y0, y1, y2, _⟩, _⟩ => [⟨Ty.int .i64, g60c42_0 x0 y0 y1 y2⟩] }
theorem con60c42 : Contract Tryz.prog 60 S60c42 := contract_of Tryz.func60 hb60c42 (Nat.le_of_ble_eq_true (by kernel_rfl)) (fun ⟨x0, ⟨y0, y1, y2, _⟩, _⟩ h hwf K q =>
  (snd60c42 _).1 x0 y0 y1 y2 _ (top60c42 x0 y0 y1 y2 hwf.1.1) K q)

theorem any60c42 (x0 : List (ByteArray × ByteArray × Int × Unit)) (y0 : ByteArray) (y1 : Int) (y2 : List (ByteArray)) : decide (g60c42_0 x0 y0 y1 y2 ≥ 0) = x0.any (fun x => g42_0 x y0 y1 y2) := by
  have := findIdx_any (fun x => g42_0 x y0 y1 y2) x0
  unfold g60c42_0
  cases h : x0.any (fun x => g42_0 x y0 y1 y2) with
  | true => rw [h] at this; simpa using this
  | false => rw [h] at this; simpa using this

end
end Go.Proofs.YtpellcnihifdaaaGreatDoor

/- Function 41 (slices.ContainsFunc[[]impl.Grant,impl.Grant]): its runs between cut points. Written by a program of this repo (gen). -/
set_option linter.unusedVariables false
set_option linter.unusedSimpArgs false
set_option maxRecDepth 100000
namespace Go.Proofs.YtpellcnihifdaaaGreatDoor
open Go Go.Am Go.Proofs
noncomputable section
def ext41c42 : Ext := [(60, S60c42), (42, S42)]
theorem call41c42_60 : Callable Tryz.prog 60 := ⟨Tryz.f60, Tryz.func60, by kernel_rfl, by kernel_rfl⟩
theorem call41c42_42 : Callable Tryz.prog 42 := ⟨Tryz.f42, Tryz.func42, by kernel_rfl, by kernel_rfl⟩
theorem ext41c42Ok : ExtOk Tryz.prog ext41c42 := ⟨⟨call41c42_60, con60c42⟩, ⟨call41c42_42, con42⟩, trivial⟩

noncomputable def b41c42 : Code := bodyOf Tryz.f41
theorem hb41c42 : Tryz.f41.body = some b41c42 := by kernel_rfl
def sig41c42 : List AT := [AT.v (Ty.sl (Ty.cons Ty.str (Ty.cons Ty.str (Ty.cons (Ty.int IntKind.i64) Ty.unit)))), AT.fn 42 [(true, .str), (true, (.int .i64)), (true, (.sl .str))]]
def tys41c42 : List Ty := [Ty.bool]
def kds41c42 : List RK := []
def oks41c42 : List AT := owns sig41c42
def P41c42 (x0 : List (ByteArray × ByteArray × Int × Unit)) (x1 : ByteArray) (x1c : Int) (x1cc : List ByteArray) : Prop := True
def g41c42_0 (x0 : List (ByteArray × ByteArray × Int × Unit)) (x1 : ByteArray) (x1c : Int) (x1cc : List ByteArray) : Bool := Decidable.decide (g60c42_0 x0 x1 x1c x1cc ≥ 0)
theorem at41c42 (x0 : List (ByteArray × ByteArray × Int × Unit)) (x1 : ByteArray) (x1c : Int) (x1cc : List ByteArray) (h : P41c42 x0 x1 x1c x1cc) (K : Ctx) (q : Nat → Value) : AtV Tryz.prog 41 (PostR kds41c42 oks41c42 [⟨Ty.bool, g41c42_0 x0 x1 x1c x1cc⟩] [] [] q K) 9 K q [] [.code b41c42] (entE 0 0 sig41c42 (x0, (x1, x1c, x1cc, ()), ())) (entL sig41c42 (x0, (x1, x1c, x1cc, ()), ())) := by
  unfold P41c42 at h
  unfold g41c42_0
  exact AtV.ret Tryz.func41 tabOk ext41c42Ok mixed false [] tys41c42 [] (a1 trivial trivial) (by kernel_rfl)

def S41c42 : Am.Spec := { sig := sig41c42, pre := fun ⟨x0, ⟨x1, x1c, x1cc, _⟩, _⟩ => P41c42 x0 x1 x1c x1cc, res := fun ⟨x0, ⟨x1, x1c, x1cc, _⟩, _⟩ => [⟨Ty.bool, g41c42_0 x0 x1 x1c x1cc⟩], kds := kds41c42 }
theorem con41c42 : Contract Tryz.prog 41 S41c42 := contract_of Tryz.func41 hb41c42 (Nat.le_of_ble_eq_true (by kernel_rfl)) (fun ⟨x0, ⟨x1, x1c, x1cc, _⟩, _⟩ h _ K q => at41c42 x0 x1 x1c x1cc h K q)


end
end Go.Proofs.YtpellcnihifdaaaGreatDoor

/- Function 23 (impl.has): its runs between cut points. Written by a program of this repo (gen). -/
set_option linter.unusedVariables false
set_option linter.unusedSimpArgs false
set_option maxRecDepth 100000
namespace Go.Proofs.YtpellcnihifdaaaGreatDoor
open Go Go.Am Go.Proofs
noncomputable section
def ext23 : Ext := [(27, S27), (20, S20), (41, S41c42)]
theorem call23_27 : Callable Tryz.prog 27 := ⟨Tryz.f27, Tryz.func27, by kernel_rfl, by kernel_rfl⟩
theorem call23_20 : Callable Tryz.prog 20 := ⟨Tryz.f20, Tryz.func20, by kernel_rfl, by kernel_rfl⟩
theorem call23_41 : Callable Tryz.prog 41 := ⟨Tryz.f41, Tryz.func41, by kernel_rfl, by kernel_rfl⟩
theorem ext23Ok : ExtOk Tryz.prog ext23 := ⟨⟨call23_27, con27⟩, ⟨call23_20, con20⟩, ⟨call23_41, con41c42⟩, trivial⟩

noncomputable def b23 : Code := bodyOf Tryz.f23
theorem hb23 : Tryz.f23.body = some b23 := by kernel_rfl
def sig23 : List AT := [AT.v (Ty.sl (Ty.cons Ty.str (Ty.cons (Ty.sl Ty.str) Ty.unit))), AT.v (Ty.sl (Ty.cons Ty.str (Ty.cons Ty.str (Ty.cons (Ty.int IntKind.i64) Ty.unit)))), AT.v (Ty.str), AT.v (Ty.str), AT.v (Ty.int IntKind.i64)]
def tys23 : List Ty := [Ty.bool]
def kds23 : List RK := []
def oks23 : List AT := owns sig23
def P23 (x0 : List (ByteArray × List ByteArray × Unit)) (x1 : List (ByteArray × ByteArray × Int × Unit)) (x2 : ByteArray) (x3 : ByteArray) (x4 : Int) : Prop := ((P27 x0 x2) ∧ (((List.length (g27_0 x0 x2) + 1) * 16 ≤ 140737488355328) ∧ True))
def g23_0 (x0 : List (ByteArray × List ByteArray × Unit)) (x1 : List (ByteArray × ByteArray × Int × Unit)) (x2 : ByteArray) (x3 : ByteArray) (x4 : Int) : Bool := (if (g20_0 x4) = true then g41c42_0 x1 x3 x4 (g27_0 x0 x2 ++ [x2]) else Bool.false)
theorem at23 (x0 : List (ByteArray × List ByteArray × Unit)) (x1 : List (ByteArray × ByteArray × Int × Unit)) (x2 : ByteArray) (x3 : ByteArray) (x4 : Int) (h : P23 x0 x1 x2 x3 x4) (K : Ctx) (q : Nat → Value) : AtV Tryz.prog 23 (PostR kds23 oks23 [⟨Ty.bool, g23_0 x0 x1 x2 x3 x4⟩] [] [] q K) 25 K q [] [.code b23] (entE 0 0 sig23 (x0, x1, x2, x3, x4, ())) (entL sig23 (x0, x1, x2, x3, x4, ())) := by
  unfold P23 at h
  unfold g23_0
  obtain ⟨s0, h⟩ := h
  obtain ⟨s1, h⟩ := h
  by_cases b0 : (g20_0 x4) = true
  · try simp only [if_pos b0] at h ⊢
    exact AtV.ret Tryz.func23 tabOk ext23Ok mixed false [] tys23 [true] (a1 s0 (a1 s1 (a1 trivial (a1 b0 (a1 trivial trivial))))) (by kernel_rfl)
  · try simp only [if_neg b0] at h ⊢
    replace b0 := Bool.eq_false_iff.2 b0
    exact AtV.ret Tryz.func23 tabOk ext23Ok mixed false [] tys23 [false] (a1 s0 (a1 s1 (a1 trivial (a1 b0 trivial)))) (by kernel_rfl)

def S23 : Am.Spec := { sig := sig23, pre := fun ⟨x0, x1, x2, x3, x4, _⟩ => P23 x0 x1 x2 x3 x4, res := fun ⟨x0, x1, x2, x3, x4, _⟩ => [⟨Ty.bool, g23_0 x0 x1 x2 x3 x4⟩], kds := kds23 }
theorem con23 : Contract Tryz.prog 23 S23 := contract_of Tryz.func23 hb23 (Nat.le_of_ble_eq_true (by kernel_rfl)) (fun ⟨x0, x1, x2, x3, x4, _⟩ h _ K q => at23 x0 x1 x2 x3 x4 h K q)


end
end Go.Proofs.YtpellcnihifdaaaGreatDoor

/- Function 22 (impl.WhoMay$1): its runs between cut points. Written by a program of this repo (gen). -/
set_option linter.unusedVariables false
set_option linter.unusedSimpArgs false
set_option maxRecDepth 100000
namespace Go.Proofs.YtpellcnihifdaaaGreatDoor
open Go Go.Am Go.Proofs
noncomputable section
def ext22 : Ext := [(23, S23)]
theorem call22_23 : Callable Tryz.prog 23 := ⟨Tryz.f23, Tryz.func23, by kernel_rfl, by kernel_rfl⟩
theorem ext22Ok : ExtOk Tryz.prog ext22 := ⟨⟨call22_23, con23⟩, trivial⟩

noncomputable def b22 : Code := bodyOf Tryz.f22
theorem hb22 : Tryz.f22.body = some b22 := by kernel_rfl
def sig22 : List AT := [AT.v (Ty.str), AT.p (.sl (.cons .str (.cons (.sl .str) .unit))), AT.p (.sl (.cons .str (.cons .str (.cons (.int .i64) .unit)))), AT.p .str, AT.p (.int .i64)]
def tys22 : List Ty := [Ty.bool]
def kds22 : List RK := []
def oks22 : List AT := owns sig22
def P22 (x0 : ByteArray) (x1 : List (ByteArray × List ByteArray × Unit)) (x2 : List (ByteArray × ByteArray × Int × Unit)) (x3 : ByteArray) (x4 : Int) : Prop := ((P23 x1 x2 x0 x3 x4) ∧ True)
def g22_0 (x0 : ByteArray) (x1 : List (ByteArray × List ByteArray × Unit)) (x2 : List (ByteArray × ByteArray × Int × Unit)) (x3 : ByteArray) (x4 : Int) : Bool := g23_0 x1 x2 x0 x3 x4
theorem at22 (x0 : ByteArray) (x1 : List (ByteArray × List ByteArray × Unit)) (x2 : List (ByteArray × ByteArray × Int × Unit)) (x3 : ByteArray) (x4 : Int) (h : P22 x0 x1 x2 x3 x4) (K : Ctx) (q : Nat → Value) : AtV Tryz.prog 22 (PostR kds22 oks22 [⟨Ty.bool, g22_0 x0 x1 x2 x3 x4⟩] [] [] q K) 13 K q [] [.code b22] (entE 0 0 sig22 (x0, x1, x2, x3, x4, ())) (entL sig22 (x0, x1, x2, x3, x4, ())) := by
  unfold P22 at h
  unfold g22_0
  obtain ⟨s0, h⟩ := h
  exact AtV.ret Tryz.func22 tabOk ext22Ok mixed false [] tys22 [] (a1 s0 trivial) (by kernel_rfl)

def S22 : Am.Spec := { sig := sig22, pre := fun ⟨x0, x1, x2, x3, x4, _⟩ => P22 x0 x1 x2 x3 x4, res := fun ⟨x0, x1, x2, x3, x4, _⟩ => [⟨Ty.bool, g22_0 x0 x1 x2 x3 x4⟩], kds := kds22 }
theorem con22 : Contract Tryz.prog 22 S22 := contract_of Tryz.func22 hb22 (Nat.le_of_ble_eq_true (by kernel_rfl)) (fun ⟨x0, x1, x2, x3, x4, _⟩ h _ K q => at22 x0 x1 x2 x3 x4 h K q)


end
end Go.Proofs.YtpellcnihifdaaaGreatDoor

/- Function 21 (impl.rolesWith): its runs between cut points. Written by a program of this repo (gen). -/
set_option linter.unusedVariables false
set_option linter.unusedSimpArgs false
set_option maxRecDepth 100000
namespace Go.Proofs.YtpellcnihifdaaaGreatDoor
open Go Go.Am Go.Proofs
noncomputable section
def ext21c22 : Ext := [(22, S22)]
theorem call21c22_22 : Callable Tryz.prog 22 := ⟨Tryz.f22, Tryz.func22, by kernel_rfl, by kernel_rfl⟩
theorem ext21c22Ok : ExtOk Tryz.prog ext21c22 := ⟨⟨call21c22_22, con22⟩, trivial⟩

noncomputable def b21c22 : Code := bodyOf Tryz.f21
theorem hb21c22 : Tryz.f21.body = some b21c22 := by kernel_rfl
def sig21c22 : List AT := [AT.v (Ty.sl (Ty.cons Ty.str (Ty.cons (Ty.sl Ty.str) Ty.unit))), AT.fn 22 [(true, (.sl (.cons .str (.cons (.sl .str) .unit)))), (true, (.sl (.cons .str (.cons .str (.cons (.int .i64) .unit))))), (true, .str), (true, (.int .i64))]]
def tys21c22 : List Ty := [Ty.sl Ty.str]
def kds21c22 : List RK := []
def oks21c22 : List AT := owns sig21c22
def E21c22_3 (v10 : Int) (h0 : List ByteArray) (x1 : List (ByteArray × List ByteArray × Unit)) (x1c : List (ByteArray × ByteArray × Int × Unit)) (x1cc : ByteArray) (x1ccc : Int) (x0 : List (ByteArray × List ByteArray × Unit)) : Env := [(1, PV.fn 22 [Atom.ptr (Ty.sl (Ty.cons Ty.str (Ty.cons (Ty.sl Ty.str) Ty.unit))) x1, Atom.ptr (Ty.sl (Ty.cons Ty.str (Ty.cons Ty.str (Ty.cons (Ty.int IntKind.i64) Ty.unit)))) x1c, Atom.ptr Ty.str x1cc, Atom.ptr (Ty.int IntKind.i64) x1ccc]), (5, PV.a (Atom.osl 0 Option.none)), (8, PV.a (Atom.sl (Ty.cons Ty.str (Ty.cons (Ty.sl Ty.str) Ty.unit)) x0)), (9, PV.a (Atom.val (Value.int IntKind.i64 (↑(List.length x0) : Int)))), (10, PV.a (Atom.val (Value.int IntKind.i64 v10)))]
def L21c22_3 (v10 : Int) (h0 : List ByteArray) (x1 : List (ByteArray × List ByteArray × Unit)) (x1c : List (ByteArray × ByteArray × Int × Unit)) (x1cc : ByteArray) (x1ccc : Int) (x0 : List (ByteArray × List ByteArray × Unit)) : Heap := [Option.some (Arr.mk Ty.str h0 Bool.false Option.none Option.none)]
mutual
def R21c22 : Nat → List (ByteArray × List ByteArray × Unit) → List (ByteArray × List ByteArray × Unit) → List (ByteArray × ByteArray × Int × Unit) → ByteArray → Int → List Dyn → Prop
  | 0, _, _, _, _, _, _ => False
  | n + 1, x0, x1, x1c, x1cc, x1ccc, ds => (R21c22_3 n (0) ([]) (x1) (x1c) (x1cc) (x1ccc) (x0) ds)
def R21c22_3 : Nat → Int → List ByteArray → List (ByteArray × List ByteArray × Unit) → List (ByteArray × ByteArray × Int × Unit) → ByteArray → Int → List (ByteArray × List ByteArray × Unit) → List Dyn → Prop
  | 0, _, _, _, _, _, _, _, _ => False
  | n + 1, v10, h0, x1, x1c, x1cc, x1ccc, x0, ds => (if (Decidable.decide (v10 < (↑(List.length x0) : Int))) = true then ((0 ≤ v10) ∧ (v10 < (↑(List.length x0) : Int)) ∧ ((P22 (Prod.fst (List.getD x0 (Int.toNat v10) (ByteArray.empty, [], ()))) x1 x1c x1cc x1ccc) ∧ (if (g22_0 (Prod.fst (List.getD x0 (Int.toNat v10) (ByteArray.empty, [], ()))) x1 x1c x1cc x1ccc) = true then (((List.length h0 + 1) * 16 ≤ 140737488355328) ∧ ((InR IntKind.i64 (v10 + 1)) ∧ (R21c22_3 n (v10 + 1) (h0 ++ [Prod.fst (List.getD x0 (Int.toNat v10) (ByteArray.empty, [], ()))]) (x1) (x1c) (x1cc) (x1ccc) (x0) ds))) else ((InR IntKind.i64 (v10 + 1)) ∧ (R21c22_3 n (v10 + 1) (h0) (x1) (x1c) (x1cc) (x1ccc) (x0) ds))))) else (ds = [Dyn.mk (Ty.sl Ty.str) h0]))
end
theorem snd21c22 : ∀ n, (∀ (x0 : List (ByteArray × List ByteArray × Unit)) (x1 : List (ByteArray × List ByteArray × Unit)) (x1c : List (ByteArray × ByteArray × Int × Unit)) (x1cc : ByteArray) (x1ccc : Int) ds, R21c22 n x0 x1 x1c x1cc x1ccc ds → ∀ K q, AtV Tryz.prog 21 (PostR kds21c22 oks21c22 ds [] [] q K) 25 K q [] [.code b21c22] (entE 0 0 sig21c22 (x0, (x1, x1c, x1cc, x1ccc, ()), ())) (entL sig21c22 (x0, (x1, x1c, x1cc, x1ccc, ()), ()))) ∧ (∀ (v10 : Int) (h0 : List ByteArray) (x1 : List (ByteArray × List ByteArray × Unit)) (x1c : List (ByteArray × ByteArray × Int × Unit)) (x1cc : ByteArray) (x1ccc : Int) (x0 : List (ByteArray × List ByteArray × Unit)) ds, R21c22_3 n v10 h0 x1 x1c x1cc x1ccc x0 ds → ∀ K q, AtV Tryz.prog 21 (PostR kds21c22 oks21c22 ds [] [] q K) 25 K q [] (cutAt b21c22 3) (E21c22_3 v10 h0 x1 x1c x1cc x1ccc x0) (L21c22_3 v10 h0 x1 x1c x1cc x1ccc x0)) := by
  intro n
  induction n with
  | zero => exact ⟨fun _ _ _ _ _ _ h => by simp only [R21c22] at h, fun _ _ _ _ _ _ _ _ h => by simp only [R21c22_3] at h⟩
  | succ n ih =>
  obtain ⟨ih, ih3⟩ := ih
  refine ⟨?_, ?_⟩
  · intro x0 x1 x1c x1cc x1ccc ds h K q
    rw [R21c22] at h
    exact AtV.go tabOk ext21c22Ok mixed false [] [(5, Ty.str)] [1, 5, 8, 9, 10] [0] [] trivial (ih3 _ _ _ _ _ _ _ _ h K q) (by kernel_rfl)

  · intro v10 h0 x1 x1c x1cc x1ccc x0 ds h K q
    rw [R21c22_3] at h
    by_cases b0 : (Decidable.decide (v10 < (↑(List.length x0) : Int))) = true
    · rw [if_pos b0] at h
      obtain ⟨s0, s1, h⟩ := h
      obtain ⟨s2, h⟩ := h
      by_cases b1 : (g22_0 (Prod.fst (List.getD x0 (Int.toNat v10) (ByteArray.empty, [], ()))) x1 x1c x1cc x1ccc) = true
      · rw [if_pos b1] at h
        obtain ⟨s3, h⟩ := h
        obtain ⟨s4, h⟩ := h
        exact AtV.go tabOk ext21c22Ok mixed false [] [(5, Ty.str)] [1, 5, 8, 9, 10] [0] [true, true] (a1 b0 (a1 s0 (a1 s1 (a1 s2 (a1 b1 (a1 s3 (a1 s4 trivial))))))) (ih3 _ _ _ _ _ _ _ _ h K q) (by kernel_rfl)
      · rw [if_neg b1] at h
        replace b1 := Bool.eq_false_iff.2 b1
        obtain ⟨s3, h⟩ := h
        exact AtV.go tabOk ext21c22Ok mixed false [] [(5, Ty.str)] [1, 5, 8, 9, 10] [0] [true, false] (a1 b0 (a1 s0 (a1 s1 (a1 s2 (a1 b1 (a1 s3 trivial)))))) (ih3 _ _ _ _ _ _ _ _ h K q) (by kernel_rfl)
    · rw [if_neg b0] at h
      replace b0 := Bool.eq_false_iff.2 b0
      subst h
      exact AtV.ret Tryz.func21 tabOk ext21c22Ok mixed false [] tys21c22 [false] (a1 b0 trivial) (by kernel_rfl)



abbrev RL21c22 := ByteArray × List ByteArray × Unit
def g21c22_0 (x0 : List RL21c22) (y0 : List (ByteArray × List (ByteArray) × Unit)) (y1 : List (ByteArray × ByteArray × Int × Unit)) (y2 : ByteArray) (y3 : Int) : List ByteArray := (x0.filter fun r => g22_0 r.1 y0 y1 y2 y3).map fun r => r.1
def P21c22 (x0 : List RL21c22) (y0 : List (ByteArray × List (ByteArray) × Unit)) (y1 : List (ByteArray × ByteArray × Int × Unit)) (y2 : ByteArray) (y3 : Int) : Prop := x0.length ≤ 1048576 ∧ ∀ r ∈ x0, P22 r.1 y0 y1 y2 y3

theorem run21c22 (x0 : List RL21c22) (y0 : List (ByteArray × List (ByteArray) × Unit)) (y1 : List (ByteArray × ByteArray × Int × Unit)) (y2 : ByteArray) (y3 : Int) (h : P21c22 x0 y0 y1 y2 y3) : ∀ (k i : Nat) (h0 : List ByteArray), i + k = x0.length → h0.length ≤ i → R21c22_3 (k + 1) (i : Int) h0 y0 y1 y2 y3 x0 [⟨.sl .str, h0 ++ ((x0.drop i).filter fun r => g22_0 r.1 y0 y1 y2 y3).map fun r => r.1⟩] := by
  obtain ⟨h1, h2⟩ := h
  intro k
  induction k with
  | zero =>
    intro i h0 hi hl
    rw [R21c22_3, if_neg (by simp only [decide_eq_true_eq]; omega), List.drop_eq_nil_of_le (by omega)]
    simp
  | succ k ih =>
    intro i h0 hi hl
    have hlt : i < x0.length := by omega
    have e3 : (i : Int) + 1 = ((i + 1 : Nat) : Int) := by omega
    rw [R21c22_3, if_pos (by simp only [decide_eq_true_eq]; omega), drop_get x0 i (ByteArray.empty, [], ()) hlt, List.filter_cons]
    simp only [Int.toNat_natCast]
    refine ⟨by omega, by omega, h2 _ (mem_getD x0 i _ hlt), ?_⟩
    by_cases c : g22_0 (x0.getD i (ByteArray.empty, [], ())).1 y0 y1 y2 y3 = true
    · have := ih (i + 1) (h0 ++ [(x0.getD i (ByteArray.empty, [], ())).1]) (by omega) (by rw [List.length_append, List.length_singleton]; omega)
      refine (if_pos c).mpr ?_
      rw [if_pos c, e3]
      refine ⟨by omega, by rw [i64_iff]; omega, ?_⟩
      rw [List.append_assoc] at this
      exact this
    · have := ih (i + 1) h0 (by omega) (by omega)
      refine (if_neg c).mpr ?_
      rw [if_neg c, e3]
      exact ⟨by rw [i64_iff]; omega, this⟩

theorem top21c22 (x0 : List RL21c22) (y0 : List (ByteArray × List (ByteArray) × Unit)) (y1 : List (ByteArray × ByteArray × Int × Unit)) (y2 : ByteArray) (y3 : Int) (h : P21c22 x0 y0 y1 y2 y3) : R21c22 (x0.length + 1 + 1) x0 y0 y1 y2 y3 [⟨.sl .str, g21c22_0 x0 y0 y1 y2 y3⟩] := by
  rw [R21c22]
  exact run21c22 x0 y0 y1 y2 y3 h x0.length 0 [] (by omega) (Nat.le_refl _)

def S21c22 : Am.Spec := { sig := sig21c22, pre := fun ⟨x0, ⟨y0, y1, y2, y3, _⟩, _⟩ => P21c22 x0 y0 y1 y2 y3, res := fun ⟨x0, ⟨y0, y1, y2, y3, _⟩, _⟩ => [⟨.sl .str, g21c22_0 x0 y0 y1 y2 y3⟩] }
theorem con21c22 : Contract Tryz.prog 21 S21c22 := contract_of Tryz.func21 hb21c22 (Nat.le_of_ble_eq_true (by kernel_rfl)) (fun ⟨x0, ⟨y0, y1, y2, y3, _⟩, _⟩ h hwf K q =>
  (snd21c22 _).1 x0 y0 y1 y2 y3 _ (top21c22 x0 y0 y1 y2 y3 h) K q)

end
end Go.Proofs.YtpellcnihifdaaaGreatDoor

/- Function 6 (impl.WhoMay): its runs between cut points. Written by a program of this repo (gen). -/
set_option linter.unusedVariables false
set_option linter.unusedSimpArgs false
set_option maxRecDepth 100000
namespace Go.Proofs.YtpellcnihifdaaaGreatDoor
open Go Go.Am Go.Proofs
noncomputable section
def ext6 : Ext := [(19, S19), (20, S20), (21, S21c22)]
theorem call6_19 : Callable Tryz.prog 19 := ⟨Tryz.f19, Tryz.func19, by kernel_rfl, by kernel_rfl⟩
theorem call6_20 : Callable Tryz.prog 20 := ⟨Tryz.f20, Tryz.func20, by kernel_rfl, by kernel_rfl⟩
theorem call6_21 : Callable Tryz.prog 21 := ⟨Tryz.f21, Tryz.func21, by kernel_rfl, by kernel_rfl⟩
theorem ext6Ok : ExtOk Tryz.prog ext6 := ⟨⟨call6_19, con19⟩, ⟨call6_20, con20⟩, ⟨call6_21, con21c22⟩, trivial⟩

noncomputable def b6 : Code := bodyOf Tryz.f6
theorem hb6 : Tryz.f6.body = some b6 := by kernel_rfl
def sig6 : List AT := [AT.v (Ty.sl (Ty.cons Ty.str (Ty.cons (Ty.sl Ty.str) Ty.unit))), AT.v (Ty.sl (Ty.cons Ty.str (Ty.cons Ty.str (Ty.cons (Ty.int IntKind.i64) Ty.unit)))), AT.v (Ty.str), AT.v (Ty.int IntKind.i64)]
def tys6 : List Ty := [Ty.sl Ty.str, Ty.int IntKind.i64]
def kds6 : List RK := []
def oks6 : List AT := owns sig6
def P6 (x0 : List (ByteArray × List ByteArray × Unit)) (x1 : List (ByteArray × ByteArray × Int × Unit)) (x2 : ByteArray) (x3 : Int) : Prop := ((P19 x0 x1) ∧ (if (!g19_0 x0 x1) = true then True else (if (!g20_0 x3) = true then True else ((P21c22 x0 x0 x1 x2 x3) ∧ True))))
def g6_0 (x0 : List (ByteArray × List ByteArray × Unit)) (x1 : List (ByteArray × ByteArray × Int × Unit)) (x2 : ByteArray) (x3 : Int) : List ByteArray := (if (!g19_0 x0 x1) = true then [] else (if (!g20_0 x3) = true then [] else g21c22_0 x0 x0 x1 x2 x3))
def g6_1 (x0 : List (ByteArray × List ByteArray × Unit)) (x1 : List (ByteArray × ByteArray × Int × Unit)) (x2 : ByteArray) (x3 : Int) : Int := (if (!g19_0 x0 x1) = true then 1 else (if (!g20_0 x3) = true then 2 else 0))
theorem at6 (x0 : List (ByteArray × List ByteArray × Unit)) (x1 : List (ByteArray × ByteArray × Int × Unit)) (x2 : ByteArray) (x3 : Int) (h : P6 x0 x1 x2 x3) (K : Ctx) (q : Nat → Value) : AtV Tryz.prog 6 (PostR kds6 oks6 [⟨Ty.sl Ty.str, g6_0 x0 x1 x2 x3⟩, ⟨Ty.int IntKind.i64, g6_1 x0 x1 x2 x3⟩] [] [] q K) 20 K q [] [.code b6] (entE 0 0 sig6 (x0, x1, x2, x3, ())) (entL sig6 (x0, x1, x2, x3, ())) := by
  unfold P6 at h
  unfold g6_0 g6_1
  obtain ⟨s0, h⟩ := h
  by_cases b0 : (!g19_0 x0 x1) = true
  · try simp only [if_pos b0] at h ⊢
    exact AtV.ret Tryz.func6 tabOk ext6Ok mixed false [] tys6 [true] (a1 s0 (a1 b0 trivial)) (by kernel_rfl)
  · try simp only [if_neg b0] at h ⊢
    replace b0 := Bool.eq_false_iff.2 b0
    by_cases b1 : (!g20_0 x3) = true
    · try simp only [if_pos b1] at h ⊢
      exact AtV.ret Tryz.func6 tabOk ext6Ok mixed false [] tys6 [false, true] (a1 s0 (a1 b0 (a1 trivial (a1 b1 trivial)))) (by kernel_rfl)
    · try simp only [if_neg b1] at h ⊢
      replace b1 := Bool.eq_false_iff.2 b1
      obtain ⟨s1, h⟩ := h
      exact AtV.ret Tryz.func6 tabOk ext6Ok mixed false [] tys6 [false, false] (a1 s0 (a1 b0 (a1 trivial (a1 b1 (a1 s1 trivial))))) (by kernel_rfl)

def S6 : Am.Spec := { sig := sig6, pre := fun ⟨x0, x1, x2, x3, _⟩ => P6 x0 x1 x2 x3, res := fun ⟨x0, x1, x2, x3, _⟩ => [⟨Ty.sl Ty.str, g6_0 x0 x1 x2 x3⟩, ⟨Ty.int IntKind.i64, g6_1 x0 x1 x2 x3⟩], kds := kds6 }
theorem con6 : Contract Tryz.prog 6 S6 := contract_of Tryz.func6 hb6 (Nat.le_of_ble_eq_true (by kernel_rfl)) (fun ⟨x0, x1, x2, x3, _⟩ h _ K q => at6 x0 x1 x2 x3 h K q)


end
end Go.Proofs.YtpellcnihifdaaaGreatDoor

/- Function 45 (slices.Compact[[]string,string]): its runs between cut points. Written by a program of this repo (gen). -/
set_option linter.unusedVariables false
set_option linter.unusedSimpArgs false
set_option maxRecDepth 100000
namespace Go.Proofs.YtpellcnihifdaaaGreatDoor
open Go Go.Am Go.Proofs
noncomputable section
def ext45 : Ext := []
theorem ext45Ok : ExtOk Tryz.prog ext45 := trivial

noncomputable def b45 : Code := bodyOf Tryz.f45
theorem hb45 : Tryz.f45.body = some b45 := by kernel_rfl
def sig45 : List AT := [AT.own Ty.str]
def tys45 : List Ty := [Ty.sl Ty.str]
def kds45 : List RK := []
def oks45 : List AT := owns sig45
def E45_4 (v3 : Int) (x0 : List ByteArray) : Env := [(0, PV.a (Atom.osl 0 Option.none)), (3, PV.a (Atom.val (Value.int IntKind.i64 v3)))]
def L45_4 (v3 : Int) (x0 : List ByteArray) : Heap := [Option.some (Arr.mk Ty.str x0 Bool.false Option.none Option.none)]
def E45_9 (v3 : Int) (v5 : Int) (h0 : List ByteArray) (v3a : Int) (x0 : List ByteArray) : Env := [(0, PV.a (Atom.osl 0 Option.none)), (3, PV.a (Atom.val (Value.int IntKind.i64 v3))), (4, PV.a (Atom.osl 0 (Option.some (0 + Int.toNat v3a, 0 + Int.toNat (↑(List.length x0 - 0) : Int))))), (5, PV.a (Atom.val (Value.int IntKind.i64 v5)))]
def L45_9 (v3 : Int) (v5 : Int) (h0 : List ByteArray) (v3a : Int) (x0 : List ByteArray) : Heap := [Option.some (Arr.mk Ty.str h0 Bool.false Option.none Option.none)]
mutual
def R45 : Nat → List ByteArray → List Dyn → List (Option Lst) → Prop
  | 0, _, _, _ => False
  | n + 1, x0, ds, us => (if (Decidable.decide ((↑(List.length x0) : Int) < 2)) = true then (ds = [Dyn.mk (Ty.sl Ty.str) x0] ∧ us = [Option.none]) else (R45_4 n (1) (x0) ds us))
def R45_4 : Nat → Int → List ByteArray → List Dyn → List (Option Lst) → Prop
  | 0, _, _, _, _ => False
  | n + 1, v3, x0, ds, us => (if (Decidable.decide (v3 < (↑(List.length x0) : Int))) = true then ((0 ≤ v3) ∧ (v3 < (↑(List.length x0) : Int)) ∧ ((InR IntKind.i64 (v3 - 1)) ∧ ((0 ≤ v3 - 1) ∧ (v3 - 1 < (↑(List.length x0) : Int)) ∧ (if (ByteArray.toList (List.getD x0 (Int.toNat v3) ByteArray.empty) == ByteArray.toList (List.getD x0 (Int.toNat (v3 - 1)) ByteArray.empty)) = true then ((0 ≤ v3) ∧ (v3 ≤ (↑(List.length x0 - 0) : Int)) ∧ (R45_9 n (v3) (1) (x0) (v3) (x0) ds us)) else ((InR IntKind.i64 (v3 + 1)) ∧ (R45_4 n (v3 + 1) (x0) ds us)))))) else (ds = [Dyn.mk (Ty.sl Ty.str) x0] ∧ us = [Option.none]))
def R45_9 : Nat → Int → Int → List ByteArray → Int → List ByteArray → List Dyn → List (Option Lst) → Prop
  | 0, _, _, _, _, _, _, _ => False
  | n + 1, v3, v5, h0, v3a, x0, ds, us => (if (Decidable.decide (v5 < (↑(0 + Int.toNat (↑(List.length x0 - 0) : Int) - (0 + Int.toNat v3a)) : Int))) = true then ((0 ≤ v5) ∧ (v5 < (↑(0 + Int.toNat (↑(List.length x0 - 0) : Int) - (0 + Int.toNat v3a)) : Int)) ∧ ((InR IntKind.i64 (v5 - 1)) ∧ ((0 ≤ v5 - 1) ∧ (v5 - 1 < (↑(0 + Int.toNat (↑(List.length x0 - 0) : Int) - (0 + Int.toNat v3a)) : Int)) ∧ (if (!ByteArray.toList (List.getD h0 (0 + Int.toNat v3a + Int.toNat v5) ByteArray.empty) == ByteArray.toList (List.getD h0 (0 + Int.toNat v3a + Int.toNat (v5 - 1)) ByteArray.empty)) = true then ((0 ≤ v5) ∧ (v5 < (↑(0 + Int.toNat (↑(List.length x0 - 0) : Int) - (0 + Int.toNat v3a)) : Int)) ∧ ((0 ≤ v3) ∧ (v3 < (↑(List.length h0) : Int)) ∧ ((InR IntKind.i64 (v3 + 1)) ∧ ((InR IntKind.i64 (v5 + 1)) ∧ (R45_9 n (v3 + 1) (v5 + 1) (List.set h0 (Int.toNat v3) (List.getD h0 (0 + Int.toNat v3a + Int.toNat v5) ByteArray.empty)) (v3a) (x0) ds us))))) else ((InR IntKind.i64 (v5 + 1)) ∧ (R45_9 n (v3) (v5 + 1) (h0) (v3a) (x0) ds us)))))) else ((0 ≤ v3) ∧ (v3 ≤ (↑(List.length h0 - 0) : Int)) ∧ ((0 ≤ v3) ∧ (v3 ≤ (↑(List.length (List.take (0 + Int.toNat v3) h0 ++ List.replicate (0 + Int.toNat (↑(List.length h0 - 0) : Int) - (0 + Int.toNat v3)) ByteArray.empty ++ List.drop (0 + Int.toNat (↑(List.length h0 - 0) : Int)) h0) - 0) : Int)) ∧ (ds = [Dyn.mk (Ty.sl Ty.str) (List.drop 0 (List.take (0 + Int.toNat v3) (List.take (0 + Int.toNat v3) h0 ++ List.replicate (0 + Int.toNat (↑(List.length h0 - 0) : Int) - (0 + Int.toNat v3)) ByteArray.empty ++ List.drop (0 + Int.toNat (↑(List.length h0 - 0) : Int)) h0)))] ∧ us = [Option.none]))))
end
theorem snd45 : ∀ n, (∀ (x0 : List ByteArray) ds us, R45 n x0 ds us → ∀ K q, AtV Tryz.prog 45 (PostR kds45 oks45 ds us [0] q K) 61 K q [0] [.code b45] (entE 0 0 sig45 (x0, ())) (entL sig45 (x0, ()))) ∧ (∀ (v3 : Int) (x0 : List ByteArray) ds us, R45_4 n v3 x0 ds us → ∀ K q, AtV Tryz.prog 45 (PostR kds45 oks45 ds us [0] q K) 61 K q [0] (cutAt b45 4) (E45_4 v3 x0) (L45_4 v3 x0)) ∧ (∀ (v3 : Int) (v5 : Int) (h0 : List ByteArray) (v3a : Int) (x0 : List ByteArray) ds us, R45_9 n v3 v5 h0 v3a x0 ds us → ∀ K q, AtV Tryz.prog 45 (PostR kds45 oks45 ds us [0] q K) 61 K q [0] (cutAt b45 9) (E45_9 v3 v5 h0 v3a x0) (L45_9 v3 v5 h0 v3a x0)) := by
  intro n
  induction n with
  | zero => exact ⟨fun _ _ _ h => by simp only [R45] at h, fun _ _ _ _ h => by simp only [R45_4] at h, fun _ _ _ _ _ _ _ h => by simp only [R45_9] at h⟩
  | succ n ih =>
  obtain ⟨ih, ih4, ih9⟩ := ih
  refine ⟨?_, ?_, ?_⟩
  · intro x0 ds us h K q
    rw [R45] at h
    by_cases b0 : (Decidable.decide ((↑(List.length x0) : Int) < 2)) = true
    · rw [if_pos b0] at h
      obtain ⟨h, h'⟩ := h; subst h; subst h'
      exact AtV.ret Tryz.func45 tabOk ext45Ok mixed false [] tys45 [true] (a1 b0 trivial) (by kernel_rfl)
    · rw [if_neg b0] at h
      replace b0 := Bool.eq_false_iff.2 b0
      exact AtV.go tabOk ext45Ok mixed false [] [] [0, 3] [0] [false] (a1 b0 trivial) (ih4 _ _ _ _ h K q) (by kernel_rfl)

  · intro v3 x0 ds us h K q
    rw [R45_4] at h
    by_cases b0 : (Decidable.decide (v3 < (↑(List.length x0) : Int))) = true
    · rw [if_pos b0] at h
      obtain ⟨s0, s1, h⟩ := h
      obtain ⟨s2, h⟩ := h
      obtain ⟨s3, s4, h⟩ := h
      by_cases b1 : (ByteArray.toList (List.getD x0 (Int.toNat v3) ByteArray.empty) == ByteArray.toList (List.getD x0 (Int.toNat (v3 - 1)) ByteArray.empty)) = true
      · rw [if_pos b1] at h
        obtain ⟨s5, s6, h⟩ := h
        exact AtV.go tabOk ext45Ok mixed false [] [] [0, 3, 4, 5] [0] [true, true] (a1 b0 (a1 s0 (a1 s1 (a1 s2 (a1 s3 (a1 s4 (a1 b1 (a1 s5 (a1 s6 trivial))))))))) (ih9 _ _ _ _ _ _ _ h K q) (by kernel_rfl)
      · rw [if_neg b1] at h
        replace b1 := Bool.eq_false_iff.2 b1
        obtain ⟨s5, h⟩ := h
        exact AtV.go tabOk ext45Ok mixed false [] [] [0, 3] [0] [true, false] (a1 b0 (a1 s0 (a1 s1 (a1 s2 (a1 s3 (a1 s4 (a1 b1 (a1 s5 trivial)))))))) (ih4 _ _ _ _ h K q) (by kernel_rfl)
    · rw [if_neg b0] at h
      replace b0 := Bool.eq_false_iff.2 b0
      obtain ⟨h, h'⟩ := h; subst h; subst h'
      exact AtV.ret Tryz.func45 tabOk ext45Ok mixed false [] tys45 [false] (a1 b0 trivial) (by kernel_rfl)

  · intro v3 v5 h0 v3a x0 ds us h K q
    rw [R45_9] at h
    by_cases b0 : (Decidable.decide (v5 < (↑(0 + Int.toNat (↑(List.length x0 - 0) : Int) - (0 + Int.toNat v3a)) : Int))) = true
    · rw [if_pos b0] at h
      obtain ⟨s0, s1, h⟩ := h
      obtain ⟨s2, h⟩ := h
      obtain ⟨s3, s4, h⟩ := h
      by_cases b1 : (!ByteArray.toList (List.getD h0 (0 + Int.toNat v3a + Int.toNat v5) ByteArray.empty) == ByteArray.toList (List.getD h0 (0 + Int.toNat v3a + Int.toNat (v5 - 1)) ByteArray.empty)) = true
      · rw [if_pos b1] at h
        obtain ⟨s5, s6, h⟩ := h
        obtain ⟨s7, s8, h⟩ := h
        obtain ⟨s9, h⟩ := h
        obtain ⟨s10, h⟩ := h
        exact AtV.go tabOk ext45Ok mixed false [] [] [0, 3, 4, 5] [0] [true, true] (a1 b0 (a1 s0 (a1 s1 (a1 s2 (a1 s3 (a1 s4 (a1 b1 (a1 s5 (a1 s6 (a1 s7 (a1 s8 (a1 s9 (a1 s10 trivial))))))))))))) (ih9 _ _ _ _ _ _ _ h K q) (by kernel_rfl)
      · rw [if_neg b1] at h
        replace b1 := Bool.eq_false_iff.2 b1
        obtain ⟨s5, h⟩ := h
        exact AtV.go tabOk ext45Ok mixed false [] [] [0, 3, 4, 5] [0] [true, false] (a1 b0 (a1 s0 (a1 s1 (a1 s2 (a1 s3 (a1 s4 (a1 b1 (a1 s5 trivial)))))))) (ih9 _ _ _ _ _ _ _ h K q) (by kernel_rfl)
    · rw [if_neg b0] at h
      replace b0 := Bool.eq_false_iff.2 b0
      obtain ⟨s0, s1, h⟩ := h
      obtain ⟨s2, s3, h⟩ := h
      obtain ⟨h, h'⟩ := h; subst h; subst h'
      exact AtV.ret Tryz.func45 tabOk ext45Ok mixed false [] tys45 [false] (a1 b0 (a1 s0 (a1 s1 (a1 s2 (a1 s3 trivial))))) (by kernel_rfl)



def cp45 : ByteArray → List ByteArray → List ByteArray
  | _, [] => []
  | p, y :: r => if (ByteArray.toList y == ByteArray.toList p) = true then cp45 p r else y :: cp45 y r
def g45_0 (x0 : List ByteArray) : List ByteArray := match x0 with
  | [] => []
  | y :: r => y :: cp45 y r
def P45 (x0 : List ByteArray) : Prop := True

theorem go45 (x0 : List ByteArray) (v3a : Nat) (hm : x0.length ≤ maxLen) : ∀ (k i j : Nat) (h : List ByteArray), j + k = x0.length → h.length = x0.length → 1 ≤ i → i < j → v3a + 1 ≤ j →
    (∀ q, j - 1 ≤ q → q < x0.length → h.getD q ByteArray.empty = x0.getD q ByteArray.empty) →
    R45_9 (k + 1) (i : Int) ((j : Int) - (v3a : Int)) h (v3a : Int) x0 [⟨.sl .str, h.take i ++ cp45 (x0.getD (j - 1) ByteArray.empty) (x0.drop j)⟩] [none] := by
  have hmx : maxLen ≤ 9223372036854775807 := by decide
  have z1 : x0.length - 0 = x0.length := Nat.sub_zero _
  intro k
  induction k with
  | zero =>
    intro i j h hj hl hi hij hv hq
    rw [R45_9, if_neg (by simp only [decide_eq_true_eq, Int.toNat_natCast]; omega)]
    have ed : x0.drop j = [] := List.drop_eq_nil_of_le (by omega)
    have e0 : h.length - 0 = h.length := Nat.sub_zero _
    rw [ed]
    simp only [Int.toNat_natCast, Nat.zero_add, List.drop_zero, cp45, List.append_nil, and_true]
    refine ⟨by omega, by omega, by omega, ?_, ?_⟩
    · simp; omega
    · rw [List.append_assoc, List.take_append_of_le_length (by simp; omega), List.take_take, Nat.min_self]
  | succ k ih =>
    intro i j h hj hl hi hij hv hq
    have hlt : j < x0.length := by omega
    have e1 : 0 + ((v3a : Int)).toNat + ((j : Int) - (v3a : Int)).toNat = j := by omega
    have e2 : 0 + ((v3a : Int)).toNat + ((j : Int) - (v3a : Int) - 1).toNat = j - 1 := by omega
    have e3 : (j : Int) - (v3a : Int) + 1 = ((j + 1 : Nat) : Int) - (v3a : Int) := by omega
    have e4 : (i : Int) + 1 = ((i + 1 : Nat) : Int) := by omega
    have q1 := hq j (by omega) hlt
    have q2 := hq (j - 1) (Nat.le_refl _) (by omega)
    have i1 : InR .i64 ((j : Int) - (v3a : Int) - 1) := by rw [i64_iff]; omega
    have i2 : InR .i64 ((j : Int) - (v3a : Int) + 1) := by rw [i64_iff]; omega
    have i3 : InR .i64 ((i : Int) + 1) := by rw [i64_iff]; omega
    have b1 : (j : Int) - (v3a : Int) < ((0 + Int.toNat ((x0.length - 0 : Nat) : Int) - (0 + Int.toNat (v3a : Int)) : Nat) : Int) := by omega
    rw [R45_9, if_pos (decide_eq_true b1)]
    refine ⟨by omega, b1, i1, by omega, by omega, ?_⟩
    rw [e1, e2, q1, q2, drop_get x0 j ByteArray.empty hlt, cp45]
    by_cases c : (ByteArray.toList (x0.getD j ByteArray.empty) == ByteArray.toList (x0.getD (j - 1) ByteArray.empty)) = true
    · rw [if_neg (by rw [c]; decide), if_pos c]
      have h1 := ih i (j + 1) h (by omega) hl hi (by omega) (by omega) (fun q h1 h2 => hq q (by omega) h2)
      rw [show j + 1 - 1 = j by omega, (bytes_eq _ _).1 c, ← e3] at h1
      exact ⟨i2, h1⟩
    · rw [if_pos (by rw [Bool.eq_false_iff.2 c]; rfl), if_neg c]
      have hn : ∀ q, j ≤ q → q < x0.length → (h.set i (x0.getD j ByteArray.empty)).getD q ByteArray.empty = x0.getD q ByteArray.empty := fun q h1 h2 => by
        rw [List.getD_eq_getElem?_getD, List.getElem?_set_ne (by omega), ← List.getD_eq_getElem?_getD]
        exact hq q (by omega) h2
      have h1 := ih (i + 1) (j + 1) (h.set i (x0.getD j ByteArray.empty)) (by omega) (by rw [List.length_set]; exact hl) (by omega) (by omega) (by omega) (fun q h1 h2 => hn q (by omega) h2)
      rw [show j + 1 - 1 = j by omega, ← e3, ← e4] at h1
      have et : (h.set i (x0.getD j ByteArray.empty)).take (i + 1) = h.take i ++ [x0.getD j ByteArray.empty] := by
        rw [List.take_add_one, List.take_set_of_le (Nat.le_refl _), List.getElem?_set_self (by omega)]; rfl
      rw [et, List.append_assoc] at h1
      simp only [Int.toNat_natCast]
      exact ⟨by omega, by omega, by omega, by omega, i3, i2, h1⟩

theorem find45 (x0 : List ByteArray) (hm : x0.length ≤ maxLen) : ∀ (k i : Nat), i + k = x0.length → 1 ≤ i → (x0.take i ++ cp45 (x0.getD (i - 1) ByteArray.empty) (x0.drop i)) = g45_0 x0 → ∃ n, R45_4 n (i : Int) x0 [⟨.sl .str, g45_0 x0⟩] [none] := by
  have hmx : maxLen ≤ 9223372036854775807 := by decide
  intro k
  induction k with
  | zero =>
    intro i hi h1 hg
    refine ⟨1, ?_⟩
    rw [R45_4, if_neg (by simp only [decide_eq_true_eq]; omega)]
    rw [List.drop_eq_nil_of_le (by omega), List.take_of_length_le (by omega)] at hg
    simp only [cp45, List.append_nil] at hg
    rw [← hg]
    exact ⟨rfl, rfl⟩
  | succ k ih =>
    intro i hi h1 hg
    have hlt : i < x0.length := by omega
    have e1 : ((i : Int) - 1).toNat = i - 1 := by omega
    have e4 : (i : Int) + 1 = ((i + 1 : Nat) : Int) := by omega
    have i1 : InR .i64 ((i : Int) - 1) := by rw [i64_iff]; omega
    by_cases c : (ByteArray.toList (x0.getD i ByteArray.empty) == ByteArray.toList (x0.getD (i - 1) ByteArray.empty)) = true
    · have hr := go45 x0 i hm k i (i + 1) x0 (by omega) rfl h1 (by omega) (Nat.le_refl _) (fun q _ _ => rfl)
      have ee : (((i + 1 : Nat) : Int) - (i : Int)) = 1 := by omega
      rw [ee, show i + 1 - 1 = i by omega] at hr
      have eg : x0.take i ++ cp45 (x0.getD i ByteArray.empty) (x0.drop (i + 1)) = g45_0 x0 := by
        rw [← hg, drop_get x0 i ByteArray.empty hlt, cp45, if_pos c, (bytes_eq _ _).1 c]
      rw [eg] at hr
      refine ⟨k + 1 + 1, ?_⟩
      rw [R45_4, if_pos (by simp only [decide_eq_true_eq]; omega)]
      simp only [Int.toNat_natCast, e1]
      rw [if_pos c]
      exact ⟨by omega, by omega, i1, by omega, by omega, by omega, by omega, hr⟩
    · obtain ⟨n, hn⟩ := ih (i + 1) (by omega) (by omega) (by
        rw [← hg, show i + 1 - 1 = i by omega, drop_get x0 i ByteArray.empty hlt, cp45, if_neg c, List.take_add_one, List.getElem?_eq_getElem hlt, List.append_assoc, getD_lt x0 i _ hlt]
        rfl)
      refine ⟨n + 1, ?_⟩
      rw [R45_4, if_pos (by simp only [decide_eq_true_eq]; omega)]
      simp only [Int.toNat_natCast, e1]
      rw [if_neg c, e4]
      exact ⟨by omega, by omega, i1, by omega, by omega, by rw [i64_iff]; omega, hn⟩

theorem top45 (x0 : List ByteArray) (hm : x0.length ≤ maxLen) : ∃ n, R45 n x0 [⟨.sl .str, g45_0 x0⟩] [none] := by
  match x0, hm with
  | [], _ => exact ⟨1, by rw [R45, if_pos (by decide)]; exact ⟨rfl, rfl⟩⟩
  | y :: r, hm =>
    by_cases c : decide (((y :: r).length : Int) < 2) = true
    · have hr : r = [] := by
        have := of_decide_eq_true c
        simp only [List.length_cons] at this
        exact List.eq_nil_of_length_eq_zero (by omega)
      subst hr
      exact ⟨1, by rw [R45, if_pos c]; exact ⟨rfl, rfl⟩⟩
    · obtain ⟨n, hn⟩ := find45 (y :: r) hm r.length 1 (by simp only [List.length_cons]; omega) (Nat.le_refl _) (by rfl)
      exact ⟨n + 1, by rw [R45, if_neg c]; exact hn⟩

def S45 : Am.Spec := { sig := sig45, pre := fun ⟨x0, _⟩ => P45 x0, upd := fun ⟨x0, _⟩ => [none], res := fun ⟨x0, _⟩ => [⟨.sl .str, g45_0 x0⟩] }
theorem con45 : Contract Tryz.prog 45 S45 := contract_of Tryz.func45 hb45 (Nat.le_of_ble_eq_true (by kernel_rfl)) (fun ⟨x0, _⟩ h hwf K q =>
  let ⟨n, hn⟩ := top45 x0 hwf.1.1
  (snd45 n).1 x0 _ _ hn K q)

end
end Go.Proofs.YtpellcnihifdaaaGreatDoor

/- A law that says how functions of the program and of the specification hang together. -/
set_option linter.unusedVariables false
set_option linter.unusedSimpArgs false
set_option maxRecDepth 100000
namespace Go.Proofs.YtpellcnihifdaaaGreatDoor
open Go Go.Am Go.Proofs

end Go.Proofs.YtpellcnihifdaaaGreatDoor

/- Function 24 (impl.rightsOf): its runs between cut points. Written by a program of this repo (gen). -/
set_option linter.unusedVariables false
set_option linter.unusedSimpArgs false
set_option maxRecDepth 100000
namespace Go.Proofs.YtpellcnihifdaaaGreatDoor
open Go Go.Am Go.Proofs
noncomputable section
def ext24 : Ext := [(44, S44), (45, S45), (23, S23)]
theorem call24_44 : Callable Tryz.prog 44 := ⟨Tryz.f44, Tryz.func44, by kernel_rfl, by kernel_rfl⟩
theorem call24_45 : Callable Tryz.prog 45 := ⟨Tryz.f45, Tryz.func45, by kernel_rfl, by kernel_rfl⟩
theorem call24_23 : Callable Tryz.prog 23 := ⟨Tryz.f23, Tryz.func23, by kernel_rfl, by kernel_rfl⟩
theorem ext24Ok : ExtOk Tryz.prog ext24 := ⟨⟨call24_44, con44⟩, ⟨call24_45, con45⟩, ⟨call24_23, con23⟩, trivial⟩

noncomputable def b24 : Code := bodyOf Tryz.f24
theorem hb24 : Tryz.f24.body = some b24 := by kernel_rfl
def sig24 : List AT := [AT.v (Ty.sl (Ty.cons Ty.str (Ty.cons (Ty.sl Ty.str) Ty.unit))), AT.v (Ty.sl (Ty.cons Ty.str (Ty.cons Ty.str (Ty.cons (Ty.int IntKind.i64) Ty.unit)))), AT.v (Ty.str)]
def tys24 : List Ty := [Ty.sl (Ty.cons Ty.str (Ty.cons Ty.str (Ty.cons (Ty.int IntKind.i64) Ty.unit)))]
def kds24 : List RK := []
def oks24 : List AT := owns sig24
def E24_3 (v16 : Int) (h0 : List ByteArray) (x0 : List (ByteArray × List ByteArray × Unit)) (x1 : List (ByteArray × ByteArray × Int × Unit)) (x2 : ByteArray) : Env := [(0, PV.a (Atom.sl (Ty.cons Ty.str (Ty.cons (Ty.sl Ty.str) Ty.unit)) x0)), (1, PV.a (Atom.sl (Ty.cons Ty.str (Ty.cons Ty.str (Ty.cons (Ty.int IntKind.i64) Ty.unit))) x1)), (2, PV.a (Atom.val (Value.string x2))), (7, PV.a (Atom.osl 0 Option.none)), (14, PV.a (Atom.sl (Ty.cons Ty.str (Ty.cons Ty.str (Ty.cons (Ty.int IntKind.i64) Ty.unit))) x1)), (15, PV.a (Atom.val (Value.int IntKind.i64 (↑(List.length x1) : Int)))), (16, PV.a (Atom.val (Value.int IntKind.i64 v16)))]
def L24_3 (v16 : Int) (h0 : List ByteArray) (x0 : List (ByteArray × List ByteArray × Unit)) (x1 : List (ByteArray × ByteArray × Int × Unit)) (x2 : ByteArray) : Heap := [Option.some (Arr.mk Ty.str h0 Bool.false Option.none Option.none)]
def E24_10 (v31 : Int) (h0 : List (ByteArray × ByteArray × Int × Unit)) (x0 : List (ByteArray × List ByteArray × Unit)) (x1 : List (ByteArray × ByteArray × Int × Unit)) (x2 : ByteArray) (h0a : List ByteArray) : Env := [(0, PV.a (Atom.sl (Ty.cons Ty.str (Ty.cons (Ty.sl Ty.str) Ty.unit)) x0)), (1, PV.a (Atom.sl (Ty.cons Ty.str (Ty.cons Ty.str (Ty.cons (Ty.int IntKind.i64) Ty.unit))) x1)), (2, PV.a (Atom.val (Value.string x2))), (10, PV.a (Atom.osl 0 Option.none)), (29, PV.a (Atom.osl 1 Option.none)), (30, PV.a (Atom.val (Value.int IntKind.i64 (↑(List.length (g45_0 (u44_0 h0a))) : Int)))), (31, PV.a (Atom.val (Value.int IntKind.i64 v31)))]
def L24_10 (v31 : Int) (h0 : List (ByteArray × ByteArray × Int × Unit)) (x0 : List (ByteArray × List ByteArray × Unit)) (x1 : List (ByteArray × ByteArray × Int × Unit)) (x2 : ByteArray) (h0a : List ByteArray) : Heap := [Option.some (Arr.mk (Ty.cons Ty.str (Ty.cons Ty.str (Ty.cons (Ty.int IntKind.i64) Ty.unit))) h0 Bool.false Option.none Option.none), Option.some (Arr.mk Ty.str (g45_0 (u44_0 h0a)) Bool.false Option.none Option.none)]
def E24_13 (v13 : Int) (h0 : List (ByteArray × ByteArray × Int × Unit)) (x0 : List (ByteArray × List ByteArray × Unit)) (x1 : List (ByteArray × ByteArray × Int × Unit)) (x2 : ByteArray) (h0a : List ByteArray) (v31 : Int) : Env := [(0, PV.a (Atom.sl (Ty.cons Ty.str (Ty.cons (Ty.sl Ty.str) Ty.unit)) x0)), (1, PV.a (Atom.sl (Ty.cons Ty.str (Ty.cons Ty.str (Ty.cons (Ty.int IntKind.i64) Ty.unit))) x1)), (2, PV.a (Atom.val (Value.string x2))), (10, PV.a (Atom.osl 0 Option.none)), (12, PV.a (Atom.val (Value.string (List.getD (g45_0 (u44_0 h0a)) (Int.toNat v31) ByteArray.empty)))), (13, PV.a (Atom.val (Value.int IntKind.i64 v13))), (29, PV.a (Atom.osl 1 Option.none)), (30, PV.a (Atom.val (Value.int IntKind.i64 (↑(List.length (g45_0 (u44_0 h0a))) : Int)))), (31, PV.a (Atom.val (Value.int IntKind.i64 v31)))]
def L24_13 (v13 : Int) (h0 : List (ByteArray × ByteArray × Int × Unit)) (x0 : List (ByteArray × List ByteArray × Unit)) (x1 : List (ByteArray × ByteArray × Int × Unit)) (x2 : ByteArray) (h0a : List ByteArray) (v31 : Int) : Heap := [Option.some (Arr.mk (Ty.cons Ty.str (Ty.cons Ty.str (Ty.cons (Ty.int IntKind.i64) Ty.unit))) h0 Bool.false Option.none Option.none), Option.some (Arr.mk Ty.str (g45_0 (u44_0 h0a)) Bool.false Option.none Option.none)]
mutual
def R24 : Nat → List (ByteArray × List ByteArray × Unit) → List (ByteArray × ByteArray × Int × Unit) → ByteArray → List Dyn → Prop
  | 0, _, _, _, _ => False
  | n + 1, x0, x1, x2, ds => (R24_3 n (0) ([]) (x0) (x1) (x2) ds)
def R24_3 : Nat → Int → List ByteArray → List (ByteArray × List ByteArray × Unit) → List (ByteArray × ByteArray × Int × Unit) → ByteArray → List Dyn → Prop
  | 0, _, _, _, _, _, _ => False
  | n + 1, v16, h0, x0, x1, x2, ds => (if (Decidable.decide (v16 < (↑(List.length x1) : Int))) = true then ((0 ≤ v16) ∧ (v16 < (↑(List.length x1) : Int)) ∧ (((List.length h0 + 1) * 16 ≤ 140737488355328) ∧ ((InR IntKind.i64 (v16 + 1)) ∧ (R24_3 n (v16 + 1) (h0 ++ [Prod.fst (Prod.snd (List.getD x1 (Int.toNat v16) (ByteArray.empty, ByteArray.empty, 0, ())))]) (x0) (x1) (x2) ds)))) else ((P44 h0) ∧ (List.length (u44_0 h0) = List.length h0) ∧ (R24_10 n (0) ([]) (x0) (x1) (x2) (h0) ds)))
def R24_10 : Nat → Int → List (ByteArray × ByteArray × Int × Unit) → List (ByteArray × List ByteArray × Unit) → List (ByteArray × ByteArray × Int × Unit) → ByteArray → List ByteArray → List Dyn → Prop
  | 0, _, _, _, _, _, _, _ => False
  | n + 1, v31, h0, x0, x1, x2, h0a, ds => (if (Decidable.decide (v31 < (↑(List.length (g45_0 (u44_0 h0a))) : Int))) = true then ((0 ≤ v31) ∧ (v31 < (↑(List.length (g45_0 (u44_0 h0a))) : Int)) ∧ (R24_13 n (1) (h0) (x0) (x1) (x2) (h0a) (v31) ds)) else (ds = [Dyn.mk (Ty.sl (Ty.cons Ty.str (Ty.cons Ty.str (Ty.cons (Ty.int IntKind.i64) Ty.unit)))) h0]))
def R24_13 : Nat → Int → List (ByteArray × ByteArray × Int × Unit) → List (ByteArray × List ByteArray × Unit) → List (ByteArray × ByteArray × Int × Unit) → ByteArray → List ByteArray → Int → List Dyn → Prop
  | 0, _, _, _, _, _, _, _, _ => False
  | n + 1, v13, h0, x0, x1, x2, h0a, v31, ds => (if (Decidable.decide (v13 ≤ 3)) = true then ((P23 x0 x1 x2 (List.getD (g45_0 (u44_0 h0a)) (Int.toNat v31) ByteArray.empty) v13) ∧ (if (g23_0 x0 x1 x2 (List.getD (g45_0 (u44_0 h0a)) (Int.toNat v31) ByteArray.empty) v13) = true then (((List.length h0 + 1) * 40 ≤ 140737488355328) ∧ ((InR IntKind.i64 (v13 + 1)) ∧ (R24_13 n (v13 + 1) (h0 ++ [(x2, List.getD (g45_0 (u44_0 h0a)) (Int.toNat v31) ByteArray.empty, v13, ())]) (x0) (x1) (x2) (h0a) (v31) ds))) else ((InR IntKind.i64 (v13 + 1)) ∧ (R24_13 n (v13 + 1) (h0) (x0) (x1) (x2) (h0a) (v31) ds)))) else ((InR IntKind.i64 (v31 + 1)) ∧ (R24_10 n (v31 + 1) (h0) (x0) (x1) (x2) (h0a) ds)))
end
theorem snd24 : ∀ n, (∀ (x0 : List (ByteArray × List ByteArray × Unit)) (x1 : List (ByteArray × ByteArray × Int × Unit)) (x2 : ByteArray) ds, R24 n x0 x1 x2 ds → ∀ K q, AtV Tryz.prog 24 (PostR kds24 oks24 ds [] [] q K) 54 K q [] [.code b24] (entE 0 0 sig24 (x0, x1, x2, ())) (entL sig24 (x0, x1, x2, ()))) ∧ (∀ (v16 : Int) (h0 : List ByteArray) (x0 : List (ByteArray × List ByteArray × Unit)) (x1 : List (ByteArray × ByteArray × Int × Unit)) (x2 : ByteArray) ds, R24_3 n v16 h0 x0 x1 x2 ds → ∀ K q, AtV Tryz.prog 24 (PostR kds24 oks24 ds [] [] q K) 54 K q [] (cutAt b24 3) (E24_3 v16 h0 x0 x1 x2) (L24_3 v16 h0 x0 x1 x2)) ∧ (∀ (v31 : Int) (h0 : List (ByteArray × ByteArray × Int × Unit)) (x0 : List (ByteArray × List ByteArray × Unit)) (x1 : List (ByteArray × ByteArray × Int × Unit)) (x2 : ByteArray) (h0a : List ByteArray) ds, R24_10 n v31 h0 x0 x1 x2 h0a ds → ∀ K q, AtV Tryz.prog 24 (PostR kds24 oks24 ds [] [] q K) 54 K q [] (cutAt b24 10) (E24_10 v31 h0 x0 x1 x2 h0a) (L24_10 v31 h0 x0 x1 x2 h0a)) ∧ (∀ (v13 : Int) (h0 : List (ByteArray × ByteArray × Int × Unit)) (x0 : List (ByteArray × List ByteArray × Unit)) (x1 : List (ByteArray × ByteArray × Int × Unit)) (x2 : ByteArray) (h0a : List ByteArray) (v31 : Int) ds, R24_13 n v13 h0 x0 x1 x2 h0a v31 ds → ∀ K q, AtV Tryz.prog 24 (PostR kds24 oks24 ds [] [] q K) 54 K q [] (cutAt b24 13) (E24_13 v13 h0 x0 x1 x2 h0a v31) (L24_13 v13 h0 x0 x1 x2 h0a v31)) := by
  intro n
  induction n with
  | zero => exact ⟨fun _ _ _ _ h => by simp only [R24] at h, fun _ _ _ _ _ _ h => by simp only [R24_3] at h, fun _ _ _ _ _ _ _ h => by simp only [R24_10] at h, fun _ _ _ _ _ _ _ _ h => by simp only [R24_13] at h⟩
  | succ n ih =>
  obtain ⟨ih, ih3, ih10, ih13⟩ := ih
  refine ⟨?_, ?_, ?_, ?_⟩
  · intro x0 x1 x2 ds h K q
    rw [R24] at h
    exact AtV.go tabOk ext24Ok mixed false [] [(7, Ty.str)] [0, 1, 2, 7, 14, 15, 16] [0] [] trivial (ih3 _ _ _ _ _ _ h K q) (by kernel_rfl)

  · intro v16 h0 x0 x1 x2 ds h K q
    rw [R24_3] at h
    by_cases b0 : (Decidable.decide (v16 < (↑(List.length x1) : Int))) = true
    · rw [if_pos b0] at h
      obtain ⟨s0, s1, h⟩ := h
      obtain ⟨s2, h⟩ := h
      obtain ⟨s3, h⟩ := h
      exact AtV.go tabOk ext24Ok mixed false [] [(7, Ty.str)] [0, 1, 2, 7, 14, 15, 16] [0] [true] (a1 b0 (a1 s0 (a1 s1 (a1 s2 (a1 s3 trivial))))) (ih3 _ _ _ _ _ _ h K q) (by kernel_rfl)
    · rw [if_neg b0] at h
      replace b0 := Bool.eq_false_iff.2 b0
      obtain ⟨s0, s1, h⟩ := h
      exact AtV.go tabOk ext24Ok mixed false [] [(10, Ty.cons Ty.str (Ty.cons Ty.str (Ty.cons (Ty.int IntKind.i64) Ty.unit)))] [0, 1, 2, 10, 29, 30, 31] [2, 1] [false] (a1 b0 (a1 s0 (a1 s1 (a1 trivial trivial)))) (ih10 _ _ _ _ _ _ _ h K q) (by kernel_rfl)

  · intro v31 h0 x0 x1 x2 h0a ds h K q
    rw [R24_10] at h
    by_cases b0 : (Decidable.decide (v31 < (↑(List.length (g45_0 (u44_0 h0a))) : Int))) = true
    · rw [if_pos b0] at h
      obtain ⟨s0, s1, h⟩ := h
      exact AtV.go tabOk ext24Ok mixed false [] [(10, Ty.cons Ty.str (Ty.cons Ty.str (Ty.cons (Ty.int IntKind.i64) Ty.unit)))] [0, 1, 2, 10, 12, 13, 29, 30, 31] [0, 1] [true] (a1 b0 (a1 s0 (a1 s1 trivial))) (ih13 _ _ _ _ _ _ _ _ h K q) (by kernel_rfl)
    · rw [if_neg b0] at h
      replace b0 := Bool.eq_false_iff.2 b0
      subst h
      exact AtV.ret Tryz.func24 tabOk ext24Ok mixed false [] tys24 [false] (a1 b0 trivial) (by kernel_rfl)

  · intro v13 h0 x0 x1 x2 h0a v31 ds h K q
    rw [R24_13] at h
    by_cases b0 : (Decidable.decide (v13 ≤ 3)) = true
    · rw [if_pos b0] at h
      obtain ⟨s0, h⟩ := h
      by_cases b1 : (g23_0 x0 x1 x2 (List.getD (g45_0 (u44_0 h0a)) (Int.toNat v31) ByteArray.empty) v13) = true
      · rw [if_pos b1] at h
        obtain ⟨s1, h⟩ := h
        obtain ⟨s2, h⟩ := h
        exact AtV.go tabOk ext24Ok mixed false [] [(10, Ty.cons Ty.str (Ty.cons Ty.str (Ty.cons (Ty.int IntKind.i64) Ty.unit)))] [0, 1, 2, 10, 12, 13, 29, 30, 31] [0, 1] [true, true] (a1 b0 (a1 s0 (a1 b1 (a1 s1 (a1 s2 trivial))))) (ih13 _ _ _ _ _ _ _ _ h K q) (by kernel_rfl)
      · rw [if_neg b1] at h
        replace b1 := Bool.eq_false_iff.2 b1
        obtain ⟨s1, h⟩ := h
        exact AtV.go tabOk ext24Ok mixed false [] [(10, Ty.cons Ty.str (Ty.cons Ty.str (Ty.cons (Ty.int IntKind.i64) Ty.unit)))] [0, 1, 2, 10, 12, 13, 29, 30, 31] [0, 1] [true, false] (a1 b0 (a1 s0 (a1 b1 (a1 s1 trivial)))) (ih13 _ _ _ _ _ _ _ _ h K q) (by kernel_rfl)
    · rw [if_neg b0] at h
      replace b0 := Bool.eq_false_iff.2 b0
      obtain ⟨s0, h⟩ := h
      exact AtV.go tabOk ext24Ok mixed false [] [(10, Ty.cons Ty.str (Ty.cons Ty.str (Ty.cons (Ty.int IntKind.i64) Ty.unit)))] [0, 1, 2, 10, 29, 30, 31] [0, 1] [false] (a1 b0 (a1 s0 trivial)) (ih10 _ _ _ _ _ _ _ h K q) (by kernel_rfl)



abbrev RL24 := ByteArray × List ByteArray × Unit
abbrev GR24 := ByteArray × ByteArray × Int × Unit
abbrev GY24 : Ty := .cons .str (.cons .str (.cons (.int .i64) .unit))
def ob24 (x1 : List GR24) : List ByteArray := g45_0 (u44_0 (x1.map fun x => x.2.1))
def one24 (x0 : List RL24) (x1 : List GR24) (x2 o : ByteArray) (a : Int) : List GR24 := if g23_0 x0 x1 x2 o a = true then [(x2, o, a, ())] else []
def of24 (x0 : List RL24) (x1 : List GR24) (x2 : ByteArray) (o : ByteArray) : List GR24 := one24 x0 x1 x2 o 1 ++ one24 x0 x1 x2 o 2 ++ one24 x0 x1 x2 o 3
def g24_0 (x0 : List RL24) (x1 : List GR24) (x2 : ByteArray) : List GR24 := (ob24 x1).flatMap (of24 x0 x1 x2)
def P24 (x0 : List RL24) (x1 : List GR24) (x2 : ByteArray) : Prop := x1.length ≤ 1000 ∧ ∀ o a, P23 x0 x1 x2 o a

theorem cpl24 : ∀ (l : List ByteArray) (p : ByteArray), (cp45 p l).length ≤ l.length
  | [], _ => Nat.le_refl _
  | y :: r, p => by
    simp only [cp45]
    split
    · have := cpl24 r p
      simp only [List.length_cons]
      omega
    · have := cpl24 r y
      simp only [List.length_cons]
      omega

theorem obl24 (x1 : List GR24) : (ob24 x1).length ≤ x1.length := by
  unfold ob24
  have hp := (u44_perm (x1.map fun x => x.2.1)).length_eq
  rw [List.length_map] at hp
  rw [← hp]
  cases u44_0 (x1.map fun x => x.2.1) with
  | nil => exact Nat.le_refl _
  | cons y r =>
    have := cpl24 r y
    show (y :: cp45 y r).length ≤ _
    simp only [List.length_cons]
    omega

theorem oneL24 (x0 : List RL24) (x1 : List GR24) (x2 o : ByteArray) (a : Int) : (one24 x0 x1 x2 o a).length ≤ 1 := by
  unfold one24
  split <;> simp

theorem step24 (x0 : List RL24) (x1 : List GR24) (x2 : ByteArray) (h : P24 x0 x1 x2) (h0a : List ByteArray) (v31 : Int) (ds : List Dyn) (n : Nat) (h0 : List GR24) (hl : h0.length ≤ 100000) (a : Int) (h1 : 1 ≤ a) (h3 : a ≤ 3)
    (hr : R24_13 n (a + 1) (h0 ++ one24 x0 x1 x2 ((g45_0 (u44_0 h0a)).getD v31.toNat ByteArray.empty) a) x0 x1 x2 h0a v31 ds) : R24_13 (n + 1) a h0 x0 x1 x2 h0a v31 ds := by
  rw [R24_13, if_pos (by simp only [decide_eq_true_eq]; omega)]
  refine ⟨h.2 _ _, ?_⟩
  unfold one24 at hr
  by_cases c : g23_0 x0 x1 x2 ((g45_0 (u44_0 h0a)).getD v31.toNat ByteArray.empty) a = true
  · rw [if_pos c] at hr ⊢
    exact ⟨by omega, by rw [i64_iff]; omega, hr⟩
  · rw [if_neg c, List.append_nil] at hr
    rw [if_neg c]
    exact ⟨by rw [i64_iff]; omega, hr⟩

theorem objs24 (x0 : List RL24) (x1 : List GR24) (x2 : ByteArray) (h : P24 x0 x1 x2) : ∀ (k i : Nat) (h0 : List GR24), i + k = (ob24 x1).length → h0.length ≤ 3 * i → ∃ n, R24_10 n (i : Int) h0 x0 x1 x2 (x1.map fun x => x.2.1) [⟨.sl GY24, h0 ++ ((ob24 x1).drop i).flatMap (of24 x0 x1 x2)⟩] := by
  have hob := obl24 x1
  have hx := h.1
  intro k
  induction k with
  | zero =>
    intro i h0 hi hl
    refine ⟨1, ?_⟩
    rw [R24_10, List.drop_eq_nil_of_le (by omega)]
    exact (if_neg (show ¬ decide ((i : Int) < ((ob24 x1).length : Int)) = true by simp only [decide_eq_true_eq]; omega)).mpr (by simp)
  | succ k ih =>
    intro i h0 hi hl
    have hlt : i < (ob24 x1).length := by omega
    have e3 : ((i + 1 : Nat) : Int) = (i : Int) + 1 := by omega
    have l1 := oneL24 x0 x1 x2 ((ob24 x1).getD i ByteArray.empty) 1
    have l2 := oneL24 x0 x1 x2 ((ob24 x1).getD i ByteArray.empty) 2
    have l3 := oneL24 x0 x1 x2 ((ob24 x1).getD i ByteArray.empty) 3
    obtain ⟨n, hn⟩ := ih (i + 1) (h0 ++ of24 x0 x1 x2 ((ob24 x1).getD i ByteArray.empty)) (by omega) (by unfold of24; simp only [List.length_append]; omega)
    rw [e3] at hn
    have e4 : h0 ++ ((ob24 x1).drop i).flatMap (of24 x0 x1 x2) = h0 ++ of24 x0 x1 x2 ((ob24 x1).getD i ByteArray.empty) ++ ((ob24 x1).drop (i + 1)).flatMap (of24 x0 x1 x2) := by
      rw [drop_get _ i ByteArray.empty hlt, List.flatMap_cons, List.append_assoc]
    rw [e4]
    have r4 : R24_13 (n + 1) 4 (h0 ++ of24 x0 x1 x2 ((ob24 x1).getD i ByteArray.empty)) x0 x1 x2 (x1.map fun x => x.2.1) (i : Int) [⟨.sl GY24, h0 ++ of24 x0 x1 x2 ((ob24 x1).getD i ByteArray.empty) ++ ((ob24 x1).drop (i + 1)).flatMap (of24 x0 x1 x2)⟩] := by
      rw [R24_13, if_neg (by decide)]
      exact ⟨by rw [i64_iff]; omega, hn⟩
    refine ⟨n + 1 + 1 + 1 + 1 + 1, ?_⟩
    rw [R24_10]
    refine (if_pos (show decide ((i : Int) < ((ob24 x1).length : Int)) = true by simp only [decide_eq_true_eq]; omega)).mpr ?_
    refine ⟨by omega, show (i : Int) < ((ob24 x1).length : Int) by omega, ?_⟩
    refine step24 x0 x1 x2 h _ _ _ _ h0 (by omega) 1 (by decide) (by decide) (step24 x0 x1 x2 h _ _ _ _ _ ?_ 2 (by decide) (by decide) (step24 x0 x1 x2 h _ _ _ _ _ ?_ 3 (by decide) (by decide) ?_))
    · have := oneL24 x0 x1 x2 ((g45_0 (u44_0 (x1.map fun x => x.2.1))).getD ((i : Int)).toNat ByteArray.empty) 1
      simp only [List.length_append]
      omega
    · have := oneL24 x0 x1 x2 ((g45_0 (u44_0 (x1.map fun x => x.2.1))).getD ((i : Int)).toNat ByteArray.empty) 1
      have := oneL24 x0 x1 x2 ((g45_0 (u44_0 (x1.map fun x => x.2.1))).getD ((i : Int)).toNat ByteArray.empty) 2
      simp only [List.length_append]
      omega
    · unfold of24 at r4
      simp only [Int.toNat_natCast]
      rw [List.append_assoc, List.append_assoc, ← List.append_assoc (one24 _ _ _ _ 1)]
      exact r4

theorem coll24 (x0 : List RL24) (x1 : List GR24) (x2 : ByteArray) (h : P24 x0 x1 x2) : ∀ (k i : Nat), i + k = x1.length → ∃ n, R24_3 n (i : Int) ((x1.map fun x => x.2.1).take i) x0 x1 x2 [⟨.sl GY24, g24_0 x0 x1 x2⟩] := by
  have hx := h.1
  intro k
  induction k with
  | zero =>
    intro i hi
    have hm : (x1.map fun x => x.2.1).take i = x1.map fun x => x.2.1 := List.take_of_length_le (by rw [List.length_map]; omega)
    obtain ⟨n, hn⟩ := objs24 x0 x1 x2 h (ob24 x1).length 0 [] (by omega) (Nat.zero_le _)
    rw [List.drop_zero, List.nil_append] at hn
    refine ⟨n + 1, ?_⟩
    rw [R24_3, if_neg (by simp only [decide_eq_true_eq]; omega), hm]
    refine ⟨by show _ ≤ 1048576; rw [List.length_map]; omega, (u44_perm _).length_eq, hn⟩
  | succ k ih =>
    intro i hi
    have hlt : i < x1.length := by omega
    have e3 : (i : Int) + 1 = ((i + 1 : Nat) : Int) := by omega
    obtain ⟨n, hn⟩ := ih (i + 1) (by omega)
    have ht : (x1.map fun x => x.2.1).take (i + 1) = (x1.map fun x => x.2.1).take i ++ [(x1.getD i (ByteArray.empty, ByteArray.empty, 0, ())).2.1] := by
      rw [List.take_add_one, List.getElem?_map, List.getElem?_eq_getElem hlt, getD_lt x1 i _ hlt]
      rfl
    rw [ht] at hn
    refine ⟨n + 1, ?_⟩
    rw [R24_3, if_pos (by simp only [decide_eq_true_eq]; omega)]
    simp only [Int.toNat_natCast]
    rw [e3]
    exact ⟨by omega, by omega, by rw [List.length_take]; omega, by rw [i64_iff]; omega, hn⟩

theorem top24 (x0 : List RL24) (x1 : List GR24) (x2 : ByteArray) (h : P24 x0 x1 x2) : ∃ n, R24 n x0 x1 x2 [⟨.sl GY24, g24_0 x0 x1 x2⟩] := by
  obtain ⟨n, hn⟩ := coll24 x0 x1 x2 h x1.length 0 (by omega)
  exact ⟨n + 1, by rw [R24]; exact hn⟩

def S24 : Am.Spec := { sig := sig24, pre := fun ⟨x0, x1, x2, _⟩ => P24 x0 x1 x2, res := fun ⟨x0, x1, x2, _⟩ => [⟨.sl GY24, g24_0 x0 x1 x2⟩] }
theorem con24 : Contract Tryz.prog 24 S24 := contract_of Tryz.func24 hb24 (Nat.le_of_ble_eq_true (by kernel_rfl)) (fun ⟨x0, x1, x2, _⟩ h hwf K q =>
  let ⟨_, hn⟩ := top24 x0 x1 x2 h
  (snd24 _).1 x0 x1 x2 _ hn K q)

end
end Go.Proofs.YtpellcnihifdaaaGreatDoor

/- Function 7 (impl.LeastRole): its runs between cut points. Written by a program of this repo (gen). -/
set_option linter.unusedVariables false
set_option linter.unusedSimpArgs false
set_option maxRecDepth 100000
namespace Go.Proofs.YtpellcnihifdaaaGreatDoor
open Go Go.Am Go.Proofs
noncomputable section
def ext7 : Ext := [(6, S6), (24, S24)]
theorem call7_6 : Callable Tryz.prog 6 := ⟨Tryz.f6, Tryz.func6, by kernel_rfl, by kernel_rfl⟩
theorem call7_24 : Callable Tryz.prog 24 := ⟨Tryz.f24, Tryz.func24, by kernel_rfl, by kernel_rfl⟩
theorem ext7Ok : ExtOk Tryz.prog ext7 := ⟨⟨call7_6, con6⟩, ⟨call7_24, con24⟩, trivial⟩

noncomputable def b7 : Code := bodyOf Tryz.f7
theorem hb7 : Tryz.f7.body = some b7 := by kernel_rfl
def sig7 : List AT := [AT.v (Ty.sl (Ty.cons Ty.str (Ty.cons (Ty.sl Ty.str) Ty.unit))), AT.v (Ty.sl (Ty.cons Ty.str (Ty.cons Ty.str (Ty.cons (Ty.int IntKind.i64) Ty.unit)))), AT.v (Ty.str), AT.v (Ty.int IntKind.i64)]
def tys7 : List Ty := [Ty.str, Ty.int IntKind.i64]
def kds7 : List RK := []
def oks7 : List AT := owns sig7
def E7_8 (v12 : ByteArray) (v34 : Int) (x0 : List (ByteArray × List ByteArray × Unit)) (x1 : List (ByteArray × ByteArray × Int × Unit)) (x2 : ByteArray) (x3 : Int) : Env := [(0, PV.a (Atom.sl (Ty.cons Ty.str (Ty.cons (Ty.sl Ty.str) Ty.unit)) x0)), (1, PV.a (Atom.sl (Ty.cons Ty.str (Ty.cons Ty.str (Ty.cons (Ty.int IntKind.i64) Ty.unit))) x1)), (12, PV.a (Atom.val (Value.string v12))), (32, PV.a (Atom.osl 0 Option.none)), (33, PV.a (Atom.val (Value.int IntKind.i64 (↑(List.length (g6_0 x0 x1 x2 x3)) : Int)))), (34, PV.a (Atom.val (Value.int IntKind.i64 v34)))]
def L7_8 (v12 : ByteArray) (v34 : Int) (x0 : List (ByteArray × List ByteArray × Unit)) (x1 : List (ByteArray × ByteArray × Int × Unit)) (x2 : ByteArray) (x3 : Int) : Heap := [Option.some (Arr.mk Ty.str (g6_0 x0 x1 x2 x3) Bool.false Option.none Option.none)]
mutual
def R7 : Nat → List (ByteArray × List ByteArray × Unit) → List (ByteArray × ByteArray × Int × Unit) → ByteArray → Int → List Dyn → Prop
  | 0, _, _, _, _, _ => False
  | n + 1, x0, x1, x2, x3, ds => ((P6 x0 x1 x2 x3) ∧ (if (g6_1 x0 x1 x2 x3 != 0) = true then (ds = [Dyn.mk Ty.str (ByteArray.mk #[]), Dyn.mk (Ty.int IntKind.i64) (g6_1 x0 x1 x2 x3)]) else (if ((↑(List.length (g6_0 x0 x1 x2 x3)) : Int) == 0) = true then (ds = [Dyn.mk Ty.str (ByteArray.mk #[]), Dyn.mk (Ty.int IntKind.i64) 3]) else ((0 < (↑(List.length (g6_0 x0 x1 x2 x3)) : Int)) ∧ (R7_8 n (List.getD (g6_0 x0 x1 x2 x3) 0 ByteArray.empty) (0) (x0) (x1) (x2) (x3) ds)))))
def R7_8 : Nat → ByteArray → Int → List (ByteArray × List ByteArray × Unit) → List (ByteArray × ByteArray × Int × Unit) → ByteArray → Int → List Dyn → Prop
  | 0, _, _, _, _, _, _, _ => False
  | n + 1, v12, v34, x0, x1, x2, x3, ds => (if (Decidable.decide (v34 < (↑(List.length (g6_0 x0 x1 x2 x3)) : Int))) = true then ((0 ≤ v34) ∧ (v34 < (↑(List.length (g6_0 x0 x1 x2 x3)) : Int)) ∧ ((P24 x0 x1 (List.getD (g6_0 x0 x1 x2 x3) (Int.toNat v34) ByteArray.empty)) ∧ ((P24 x0 x1 v12) ∧ (if (Decidable.decide ((↑(List.length (g24_0 x0 x1 (List.getD (g6_0 x0 x1 x2 x3) (Int.toNat v34) ByteArray.empty))) : Int) < (↑(List.length (g24_0 x0 x1 v12)) : Int))) = true then ((InR IntKind.i64 (v34 + 1)) ∧ (R7_8 n (List.getD (g6_0 x0 x1 x2 x3) (Int.toNat v34) ByteArray.empty) (v34 + 1) (x0) (x1) (x2) (x3) ds)) else ((InR IntKind.i64 (v34 + 1)) ∧ (R7_8 n (v12) (v34 + 1) (x0) (x1) (x2) (x3) ds)))))) else (ds = [Dyn.mk Ty.str v12, Dyn.mk (Ty.int IntKind.i64) 0]))
end
theorem snd7 : ∀ n, (∀ (x0 : List (ByteArray × List ByteArray × Unit)) (x1 : List (ByteArray × ByteArray × Int × Unit)) (x2 : ByteArray) (x3 : Int) ds, R7 n x0 x1 x2 x3 ds → ∀ K q, AtV Tryz.prog 7 (PostR kds7 oks7 ds [] [] q K) 52 K q [] [.code b7] (entE 0 0 sig7 (x0, x1, x2, x3, ())) (entL sig7 (x0, x1, x2, x3, ()))) ∧ (∀ (v12 : ByteArray) (v34 : Int) (x0 : List (ByteArray × List ByteArray × Unit)) (x1 : List (ByteArray × ByteArray × Int × Unit)) (x2 : ByteArray) (x3 : Int) ds, R7_8 n v12 v34 x0 x1 x2 x3 ds → ∀ K q, AtV Tryz.prog 7 (PostR kds7 oks7 ds [] [] q K) 52 K q [] (cutAt b7 8) (E7_8 v12 v34 x0 x1 x2 x3) (L7_8 v12 v34 x0 x1 x2 x3)) := by
  intro n
  induction n with
  | zero => exact ⟨fun _ _ _ _ _ h => by simp only [R7] at h, fun _ _ _ _ _ _ _ h => by simp only [R7_8] at h⟩
  | succ n ih =>
  obtain ⟨ih, ih8⟩ := ih
  refine ⟨?_, ?_⟩
  · intro x0 x1 x2 x3 ds h K q
    rw [R7] at h
    obtain ⟨s0, h⟩ := h
    by_cases b0 : (g6_1 x0 x1 x2 x3 != 0) = true
    · rw [if_pos b0] at h
      subst h
      exact AtV.ret Tryz.func7 tabOk ext7Ok mixed false [] tys7 [true] (a1 s0 (a1 b0 trivial)) (by kernel_rfl)
    · rw [if_neg b0] at h
      replace b0 := Bool.eq_false_iff.2 b0
      by_cases b1 : ((↑(List.length (g6_0 x0 x1 x2 x3)) : Int) == 0) = true
      · rw [if_pos b1] at h
        subst h
        exact AtV.ret Tryz.func7 tabOk ext7Ok mixed false [] tys7 [false, true] (a1 s0 (a1 b0 (a1 b1 trivial))) (by kernel_rfl)
      · rw [if_neg b1] at h
        replace b1 := Bool.eq_false_iff.2 b1
        obtain ⟨s1, h⟩ := h
        exact AtV.go tabOk ext7Ok mixed false [] [] [0, 1, 12, 32, 33, 34] [0] [false, false] (a1 s0 (a1 b0 (a1 b1 (a1 ((by decide) : (0 : Int) ≤ (0 : Int)) (a1 s1 trivial))))) (ih8 _ _ _ _ _ _ _ h K q) (by kernel_rfl)

  · intro v12 v34 x0 x1 x2 x3 ds h K q
    rw [R7_8] at h
    by_cases b0 : (Decidable.decide (v34 < (↑(List.length (g6_0 x0 x1 x2 x3)) : Int))) = true
    · rw [if_pos b0] at h
      obtain ⟨s0, s1, h⟩ := h
      obtain ⟨s2, h⟩ := h
      obtain ⟨s3, h⟩ := h
      by_cases b1 : (Decidable.decide ((↑(List.length (g24_0 x0 x1 (List.getD (g6_0 x0 x1 x2 x3) (Int.toNat v34) ByteArray.empty))) : Int) < (↑(List.length (g24_0 x0 x1 v12)) : Int))) = true
      · rw [if_pos b1] at h
        obtain ⟨s4, h⟩ := h
        exact AtV.go tabOk ext7Ok mixed false [] [] [0, 1, 12, 32, 33, 34] [0] [true, true] (a1 b0 (a1 s0 (a1 s1 (a1 s2 (a1 s3 (a1 b1 (a1 s4 trivial))))))) (ih8 _ _ _ _ _ _ _ h K q) (by kernel_rfl)
      · rw [if_neg b1] at h
        replace b1 := Bool.eq_false_iff.2 b1
        obtain ⟨s4, h⟩ := h
        exact AtV.go tabOk ext7Ok mixed false [] [] [0, 1, 12, 32, 33, 34] [0] [true, false] (a1 b0 (a1 s0 (a1 s1 (a1 s2 (a1 s3 (a1 b1 (a1 s4 trivial))))))) (ih8 _ _ _ _ _ _ _ h K q) (by kernel_rfl)
    · rw [if_neg b0] at h
      replace b0 := Bool.eq_false_iff.2 b0
      subst h
      exact AtV.ret Tryz.func7 tabOk ext7Ok mixed false [] tys7 [false] (a1 b0 trivial) (by kernel_rfl)



abbrev RL7 := ByteArray × List ByteArray × Unit
abbrev GR7 := ByteArray × ByteArray × Int × Unit
def st7 (x0 : List RL7) (x1 : List GR7) (b n : ByteArray) : ByteArray := if decide (((g24_0 x0 x1 n).length : Int) < ((g24_0 x0 x1 b).length : Int)) = true then n else b
def g7_0 (x0 : List RL7) (x1 : List GR7) (x2 : ByteArray) (x3 : Int) : ByteArray := if (g6_1 x0 x1 x2 x3 != 0) = true then ByteArray.mk #[] else if (((g6_0 x0 x1 x2 x3).length : Int) == 0) = true then ByteArray.mk #[] else (g6_0 x0 x1 x2 x3).foldl (st7 x0 x1) ((g6_0 x0 x1 x2 x3).getD 0 ByteArray.empty)
def g7_1 (x0 : List RL7) (x1 : List GR7) (x2 : ByteArray) (x3 : Int) : Int := if (g6_1 x0 x1 x2 x3 != 0) = true then g6_1 x0 x1 x2 x3 else if (((g6_0 x0 x1 x2 x3).length : Int) == 0) = true then 3 else 0
def P7 (x0 : List RL7) (x1 : List GR7) (x2 : ByteArray) (x3 : Int) : Prop := P6 x0 x1 x2 x3 ∧ (g6_0 x0 x1 x2 x3).length ≤ 1000 ∧ ∀ n ∈ g6_0 x0 x1 x2 x3, P24 x0 x1 n

theorem mem7 (x0 : List RL7) (x1 : List GR7) : ∀ (l : List ByteArray) (b : ByteArray), l.foldl (st7 x0 x1) b = b ∨ l.foldl (st7 x0 x1) b ∈ l
  | [], _ => .inl rfl
  | a :: l, b => by
    rw [List.foldl_cons]
    rcases mem7 x0 x1 l (st7 x0 x1 b a) with h | h
    · rw [h]
      unfold st7
      split
      · exact .inr (List.mem_cons_self ..)
      · exact .inl rfl
    · exact .inr (List.mem_cons_of_mem _ h)

theorem run7 (x0 : List RL7) (x1 : List GR7) (x2 : ByteArray) (x3 : Int) (h : P7 x0 x1 x2 x3) : ∀ (k i : Nat) (b : ByteArray), i + k = (g6_0 x0 x1 x2 x3).length → P24 x0 x1 b → R7_8 (k + 1) b (i : Int) x0 x1 x2 x3 [⟨.str, ((g6_0 x0 x1 x2 x3).drop i).foldl (st7 x0 x1) b⟩, ⟨.int .i64, (0 : Int)⟩] := by
  obtain ⟨_, hl, hp⟩ := h
  intro k
  induction k with
  | zero =>
    intro i b hi hb
    rw [R7_8, if_neg (by simp only [decide_eq_true_eq]; omega), List.drop_eq_nil_of_le (by omega)]
    rfl
  | succ k ih =>
    intro i b hi hb
    have hlt : i < (g6_0 x0 x1 x2 x3).length := by omega
    have e3 : (i : Int) + 1 = ((i + 1 : Nat) : Int) := by omega
    have hn := hp _ (mem_getD _ i ByteArray.empty hlt)
    rw [R7_8, if_pos (by simp only [decide_eq_true_eq]; omega), drop_get _ i ByteArray.empty hlt, List.foldl_cons]
    simp only [Int.toNat_natCast]
    refine ⟨by omega, by omega, hn, hb, ?_⟩
    rw [e3]
    unfold st7 at ih ⊢
    by_cases c : decide (((g24_0 x0 x1 ((g6_0 x0 x1 x2 x3).getD i ByteArray.empty)).length : Int) < ((g24_0 x0 x1 b).length : Int)) = true
    · refine (if_pos c).mpr ?_
      rw [if_pos c]
      exact ⟨by rw [i64_iff]; omega, ih (i + 1) _ (by omega) hn⟩
    · refine (if_neg c).mpr ?_
      rw [if_neg c]
      exact ⟨by rw [i64_iff]; omega, ih (i + 1) _ (by omega) hb⟩

theorem top7 (x0 : List RL7) (x1 : List GR7) (x2 : ByteArray) (x3 : Int) (h : P7 x0 x1 x2 x3) : ∃ n, R7 n x0 x1 x2 x3 [⟨.str, g7_0 x0 x1 x2 x3⟩, ⟨.int .i64, g7_1 x0 x1 x2 x3⟩] := by
  by_cases c : (g6_1 x0 x1 x2 x3 != 0) = true
  · have e0 : g7_0 x0 x1 x2 x3 = ByteArray.mk #[] := by unfold g7_0; rw [if_pos c]
    have e1 : g7_1 x0 x1 x2 x3 = g6_1 x0 x1 x2 x3 := by unfold g7_1; rw [if_pos c]
    rw [e0, e1]
    exact ⟨1, by rw [R7]; exact ⟨h.1, (if_pos c).mpr rfl⟩⟩
  by_cases c2 : (((g6_0 x0 x1 x2 x3).length : Int) == 0) = true
  · have e0 : g7_0 x0 x1 x2 x3 = ByteArray.mk #[] := by unfold g7_0; rw [if_neg c, if_pos c2]
    have e1 : g7_1 x0 x1 x2 x3 = 3 := by unfold g7_1; rw [if_neg c, if_pos c2]
    rw [e0, e1]
    exact ⟨1, by rw [R7]; exact ⟨h.1, (if_neg c).mpr ((if_pos c2).mpr rfl)⟩⟩
  have hl : 0 < (g6_0 x0 x1 x2 x3).length := by
    simp only [beq_iff_eq] at c2
    omega
  have := run7 x0 x1 x2 x3 h _ 0 ((g6_0 x0 x1 x2 x3).getD 0 ByteArray.empty) (by rw [Nat.zero_add]) (h.2.2 _ (mem_getD _ 0 _ hl))
  rw [List.drop_zero] at this
  have e0 : g7_0 x0 x1 x2 x3 = (g6_0 x0 x1 x2 x3).foldl (st7 x0 x1) ((g6_0 x0 x1 x2 x3).getD 0 ByteArray.empty) := by unfold g7_0; rw [if_neg c, if_neg c2]
  have e1 : g7_1 x0 x1 x2 x3 = 0 := by unfold g7_1; rw [if_neg c, if_neg c2]
  rw [e0, e1]
  exact ⟨_ + 1, by rw [R7]; exact ⟨h.1, (if_neg c).mpr ((if_neg c2).mpr ⟨by omega, this⟩)⟩⟩

def S7 : Am.Spec := { sig := sig7, pre := fun ⟨x0, x1, x2, x3, _⟩ => P7 x0 x1 x2 x3, res := fun ⟨x0, x1, x2, x3, _⟩ => [⟨.str, g7_0 x0 x1 x2 x3⟩, ⟨.int .i64, g7_1 x0 x1 x2 x3⟩] }
theorem con7 : Contract Tryz.prog 7 S7 := contract_of Tryz.func7 hb7 (Nat.le_of_ble_eq_true (by kernel_rfl)) (fun ⟨x0, x1, x2, x3, _⟩ h hwf K q =>
  let ⟨_, hn⟩ := top7 x0 x1 x2 x3 h
  (snd7 _).1 x0 x1 x2 x3 _ hn K q)

end
end Go.Proofs.YtpellcnihifdaaaGreatDoor

/- Function 25 (impl.named): its runs between cut points. Written by a program of this repo (gen). -/
set_option linter.unusedVariables false
set_option linter.unusedSimpArgs false
set_option maxRecDepth 100000
namespace Go.Proofs.YtpellcnihifdaaaGreatDoor
open Go Go.Am Go.Proofs
noncomputable section
def ext25 : Ext := [(46, S46)]
theorem call25_46 : Callable Tryz.prog 46 := ⟨Tryz.f46, Tryz.func46, by kernel_rfl, by kernel_rfl⟩
theorem ext25Ok : ExtOk Tryz.prog ext25 := ⟨⟨call25_46, con46⟩, trivial⟩

noncomputable def b25 : Code := bodyOf Tryz.f25
theorem hb25 : Tryz.f25.body = some b25 := by kernel_rfl
def sig25 : List AT := [AT.v (Ty.bool), AT.v (Ty.sl (Ty.cons Ty.str (Ty.cons (Ty.sl Ty.str) Ty.unit))), AT.v (Ty.str)]
def tys25 : List Ty := [Ty.int IntKind.i64]
def kds25 : List RK := []
def oks25 : List AT := owns sig25
def P25 (x0 : Bool) (x1 : List (ByteArray × List ByteArray × Unit)) (x2 : ByteArray) : Prop := True
def g25_0 (x0 : Bool) (x1 : List (ByteArray × List ByteArray × Unit)) (x2 : ByteArray) : Int := (if (!x0) = true then 1 else (if (Decidable.decide (g46_0 x1 x2 < 0)) = true then 3 else 0))
theorem at25 (x0 : Bool) (x1 : List (ByteArray × List ByteArray × Unit)) (x2 : ByteArray) (h : P25 x0 x1 x2) (K : Ctx) (q : Nat → Value) : AtV Tryz.prog 25 (PostR kds25 oks25 [⟨Ty.int IntKind.i64, g25_0 x0 x1 x2⟩] [] [] q K) 15 K q [] [.code b25] (entE 0 0 sig25 (x0, x1, x2, ())) (entL sig25 (x0, x1, x2, ())) := by
  unfold P25 at h
  unfold g25_0
  by_cases b0 : (!x0) = true
  · try simp only [if_pos b0] at h ⊢
    exact AtV.ret Tryz.func25 tabOk ext25Ok mixed false [] tys25 [true] (a1 b0 trivial) (by kernel_rfl)
  · try simp only [if_neg b0] at h ⊢
    replace b0 := Bool.eq_false_iff.2 b0
    by_cases b1 : (Decidable.decide (g46_0 x1 x2 < 0)) = true
    · try simp only [if_pos b1] at h ⊢
      exact AtV.ret Tryz.func25 tabOk ext25Ok mixed false [] tys25 [false, true] (a1 b0 (a1 trivial (a1 b1 trivial))) (by kernel_rfl)
    · try simp only [if_neg b1] at h ⊢
      replace b1 := Bool.eq_false_iff.2 b1
      exact AtV.ret Tryz.func25 tabOk ext25Ok mixed false [] tys25 [false, false] (a1 b0 (a1 trivial (a1 b1 trivial))) (by kernel_rfl)

def S25 : Am.Spec := { sig := sig25, pre := fun ⟨x0, x1, x2, _⟩ => P25 x0 x1 x2, res := fun ⟨x0, x1, x2, _⟩ => [⟨Ty.int IntKind.i64, g25_0 x0 x1 x2⟩], kds := kds25 }
theorem con25 : Contract Tryz.prog 25 S25 := contract_of Tryz.func25 hb25 (Nat.le_of_ble_eq_true (by kernel_rfl)) (fun ⟨x0, x1, x2, _⟩ h _ K q => at25 x0 x1 x2 h K q)


end
end Go.Proofs.YtpellcnihifdaaaGreatDoor

/- Function 8 (impl.IsAllowedTo): its runs between cut points. Written by a program of this repo (gen). -/
set_option linter.unusedVariables false
set_option linter.unusedSimpArgs false
set_option maxRecDepth 100000
namespace Go.Proofs.YtpellcnihifdaaaGreatDoor
open Go Go.Am Go.Proofs
noncomputable section
def ext8 : Ext := [(19, S19), (25, S25), (23, S23)]
theorem call8_19 : Callable Tryz.prog 19 := ⟨Tryz.f19, Tryz.func19, by kernel_rfl, by kernel_rfl⟩
theorem call8_25 : Callable Tryz.prog 25 := ⟨Tryz.f25, Tryz.func25, by kernel_rfl, by kernel_rfl⟩
theorem call8_23 : Callable Tryz.prog 23 := ⟨Tryz.f23, Tryz.func23, by kernel_rfl, by kernel_rfl⟩
theorem ext8Ok : ExtOk Tryz.prog ext8 := ⟨⟨call8_19, con19⟩, ⟨call8_25, con25⟩, ⟨call8_23, con23⟩, trivial⟩

noncomputable def b8 : Code := bodyOf Tryz.f8
theorem hb8 : Tryz.f8.body = some b8 := by kernel_rfl
def sig8 : List AT := [AT.v (Ty.sl (Ty.cons Ty.str (Ty.cons (Ty.sl Ty.str) Ty.unit))), AT.v (Ty.sl (Ty.cons Ty.str (Ty.cons Ty.str (Ty.cons (Ty.int IntKind.i64) Ty.unit)))), AT.v (Ty.str), AT.v (Ty.str), AT.v (Ty.int IntKind.i64)]
def tys8 : List Ty := [Ty.bool]
def kds8 : List RK := []
def oks8 : List AT := owns sig8
def P8 (x0 : List (ByteArray × List ByteArray × Unit)) (x1 : List (ByteArray × ByteArray × Int × Unit)) (x2 : ByteArray) (x3 : ByteArray) (x4 : Int) : Prop := ((P19 x0 x1) ∧ (if (g25_0 (g19_0 x0 x1) x0 x2 == 0) = true then ((P23 x0 x1 x2 x3 x4) ∧ True) else True))
def g8_0 (x0 : List (ByteArray × List ByteArray × Unit)) (x1 : List (ByteArray × ByteArray × Int × Unit)) (x2 : ByteArray) (x3 : ByteArray) (x4 : Int) : Bool := (if (g25_0 (g19_0 x0 x1) x0 x2 == 0) = true then g23_0 x0 x1 x2 x3 x4 else Bool.false)
theorem at8 (x0 : List (ByteArray × List ByteArray × Unit)) (x1 : List (ByteArray × ByteArray × Int × Unit)) (x2 : ByteArray) (x3 : ByteArray) (x4 : Int) (h : P8 x0 x1 x2 x3 x4) (K : Ctx) (q : Nat → Value) : AtV Tryz.prog 8 (PostR kds8 oks8 [⟨Ty.bool, g8_0 x0 x1 x2 x3 x4⟩] [] [] q K) 26 K q [] [.code b8] (entE 0 0 sig8 (x0, x1, x2, x3, x4, ())) (entL sig8 (x0, x1, x2, x3, x4, ())) := by
  unfold P8 at h
  unfold g8_0
  obtain ⟨s0, h⟩ := h
  by_cases b0 : (g25_0 (g19_0 x0 x1) x0 x2 == 0) = true
  · try simp only [if_pos b0] at h ⊢
    obtain ⟨s1, h⟩ := h
    exact AtV.ret Tryz.func8 tabOk ext8Ok mixed false [] tys8 [true] (a1 s0 (a1 trivial (a1 b0 (a1 s1 trivial)))) (by kernel_rfl)
  · try simp only [if_neg b0] at h ⊢
    replace b0 := Bool.eq_false_iff.2 b0
    exact AtV.ret Tryz.func8 tabOk ext8Ok mixed false [] tys8 [false] (a1 s0 (a1 trivial (a1 b0 trivial))) (by kernel_rfl)

def S8 : Am.Spec := { sig := sig8, pre := fun ⟨x0, x1, x2, x3, x4, _⟩ => P8 x0 x1 x2 x3 x4, res := fun ⟨x0, x1, x2, x3, x4, _⟩ => [⟨Ty.bool, g8_0 x0 x1 x2 x3 x4⟩], kds := kds8 }
theorem con8 : Contract Tryz.prog 8 S8 := contract_of Tryz.func8 hb8 (Nat.le_of_ble_eq_true (by kernel_rfl)) (fun ⟨x0, x1, x2, x3, x4, _⟩ h _ K q => at8 x0 x1 x2 x3 x4 h K q)


end
end Go.Proofs.YtpellcnihifdaaaGreatDoor

/- Function 9 (laws.b10Inside): its runs between cut points. Written by a program of this repo (gen). -/
set_option linter.unusedVariables false
set_option linter.unusedSimpArgs false
set_option maxRecDepth 100000
namespace Go.Proofs.YtpellcnihifdaaaGreatDoor
open Go Go.Am Go.Proofs
noncomputable section
def ext9 : Ext := []
theorem ext9Ok : ExtOk Tryz.prog ext9 := trivial

noncomputable def b9 : Code := bodyOf Tryz.f9
theorem hb9 : Tryz.f9.body = some b9 := by kernel_rfl
def sig9 : List AT := [AT.v (Ty.sl Ty.str), AT.v (Ty.str)]
def tys9 : List Ty := [Ty.bool]
def kds9 : List RK := []
def oks9 : List AT := owns sig9
def E9_2 (v5 : Int) (x0 : List ByteArray) (x1 : ByteArray) : Env := [(0, PV.a (Atom.sl Ty.str x0)), (1, PV.a (Atom.val (Value.string x1))), (5, PV.a (Atom.val (Value.int IntKind.i64 v5)))]
def L9_2 (v5 : Int) (x0 : List ByteArray) (x1 : ByteArray) : Heap := []
mutual
def R9 : Nat → List ByteArray → ByteArray → List Dyn → Prop
  | 0, _, _, _ => False
  | n + 1, x0, x1, ds => (R9_2 n (0) (x0) (x1) ds)
def R9_2 : Nat → Int → List ByteArray → ByteArray → List Dyn → Prop
  | 0, _, _, _, _ => False
  | n + 1, v5, x0, x1, ds => (if (Decidable.decide (v5 < (↑(List.length x0) : Int))) = true then ((0 ≤ v5) ∧ (v5 < (↑(List.length x0) : Int)) ∧ (if (ByteArray.toList (List.getD x0 (Int.toNat v5) ByteArray.empty) == ByteArray.toList x1) = true then (ds = [Dyn.mk Ty.bool Bool.true]) else ((InR IntKind.i64 (v5 + 1)) ∧ (R9_2 n (v5 + 1) (x0) (x1) ds)))) else (ds = [Dyn.mk Ty.bool Bool.false]))
end
theorem snd9 : ∀ n, (∀ (x0 : List ByteArray) (x1 : ByteArray) ds, R9 n x0 x1 ds → ∀ K q, AtV Tryz.prog 9 (PostR kds9 oks9 ds [] [] q K) 18 K q [] [.code b9] (entE 0 0 sig9 (x0, x1, ())) (entL sig9 (x0, x1, ()))) ∧ (∀ (v5 : Int) (x0 : List ByteArray) (x1 : ByteArray) ds, R9_2 n v5 x0 x1 ds → ∀ K q, AtV Tryz.prog 9 (PostR kds9 oks9 ds [] [] q K) 18 K q [] (cutAt b9 2) (E9_2 v5 x0 x1) (L9_2 v5 x0 x1)) := by
  intro n
  induction n with
  | zero => exact ⟨fun _ _ _ h => by simp only [R9] at h, fun _ _ _ _ h => by simp only [R9_2] at h⟩
  | succ n ih =>
  obtain ⟨ih, ih2⟩ := ih
  refine ⟨?_, ?_⟩
  · intro x0 x1 ds h K q
    rw [R9] at h
    exact AtV.go tabOk ext9Ok mixed false [] [] [0, 1, 5] [] [] trivial (ih2 _ _ _ _ h K q) (by kernel_rfl)

  · intro v5 x0 x1 ds h K q
    rw [R9_2] at h
    by_cases b0 : (Decidable.decide (v5 < (↑(List.length x0) : Int))) = true
    · rw [if_pos b0] at h
      obtain ⟨s0, s1, h⟩ := h
      by_cases b1 : (ByteArray.toList (List.getD x0 (Int.toNat v5) ByteArray.empty) == ByteArray.toList x1) = true
      · rw [if_pos b1] at h
        subst h
        exact AtV.ret Tryz.func9 tabOk ext9Ok mixed false [] tys9 [true, true] (a1 b0 (a1 s0 (a1 s1 (a1 b1 trivial)))) (by kernel_rfl)
      · rw [if_neg b1] at h
        replace b1 := Bool.eq_false_iff.2 b1
        obtain ⟨s2, h⟩ := h
        exact AtV.go tabOk ext9Ok mixed false [] [] [0, 1, 5] [] [true, false] (a1 b0 (a1 s0 (a1 s1 (a1 b1 (a1 s2 trivial))))) (ih2 _ _ _ _ h K q) (by kernel_rfl)
    · rw [if_neg b0] at h
      replace b0 := Bool.eq_false_iff.2 b0
      subst h
      exact AtV.ret Tryz.func9 tabOk ext9Ok mixed false [] tys9 [false] (a1 b0 trivial) (by kernel_rfl)



def is9 (x1 : ByteArray) (y : ByteArray) : Bool := ByteArray.toList y == ByteArray.toList x1
def g9_0 (x0 : List ByteArray) (x1 : ByteArray) : Bool := x0.any (is9 x1)
def P9 (x0 : List ByteArray) (x1 : ByteArray) : Prop := True

theorem top9 (x0 : List ByteArray) (x1 : ByteArray) (hm : x0.length ≤ maxLen) : R9 (x0.length + 1 + 1) x0 x1 [⟨.bool, g9_0 x0 x1⟩] := by
  rw [R9]
  have key := loop_find x0 ByteArray.empty (is9 x1) [(⟨.bool, false⟩ : Dyn)] (fun k => [⟨.bool, true⟩]) (fun n i ds => R9_2 n i x0 x1 ds) (fun n => ?_) (fun n i hi hok ds hr => ?_) (fun n i hi hok => ?_)
  · have e := findIdx_any (is9 x1) x0
    unfold g9_0
    cases h : x0.findIdx? (is9 x1) with
    | none =>
      rw [h] at key e
      have e : x0.any (is9 x1) = false := Bool.eq_false_iff.2 fun hh => absurd (e.2 hh) (by decide)
      rw [e]; exact key
    | some k =>
      rw [h] at key e
      have e : x0.any (is9 x1) = true := e.1 (show (0 : Int) ≤ (k : Int) by omega)
      rw [e]; exact key
  · rw [R9_2, if_neg (by simp)]
  · rw [R9_2, if_pos (by simp; omega)]
    simp only [Int.toNat_natCast]
    refine ⟨by omega, by omega, ?_⟩
    unfold is9 at hok
    rw [if_neg (by rw [hok]; simp)]
    exact ⟨inR_up hm hi, hr⟩
  · rw [R9_2, if_pos (by simp; omega)]
    simp only [Int.toNat_natCast]
    refine ⟨by omega, by omega, ?_⟩
    unfold is9 at hok
    rw [if_pos hok] <;> trivial

def S9 : Am.Spec := { sig := sig9, pre := fun ⟨x0, x1, _⟩ => P9 x0 x1, res := fun ⟨x0, x1, _⟩ => [⟨Ty.bool, g9_0 x0 x1⟩] }
theorem con9 : Contract Tryz.prog 9 S9 := contract_of Tryz.func9 hb9 (Nat.le_of_ble_eq_true (by kernel_rfl)) (fun ⟨x0, x1, _⟩ h hwf K q =>
  (snd9 _).1 x0 x1 _ (top9 x0 x1 hwf.1.1) K q)

end
end Go.Proofs.YtpellcnihifdaaaGreatDoor

/- Function 10 (impl.RolesUnder): its runs between cut points. Written by a program of this repo (gen). -/
set_option linter.unusedVariables false
set_option linter.unusedSimpArgs false
set_option maxRecDepth 100000
namespace Go.Proofs.YtpellcnihifdaaaGreatDoor
open Go Go.Am Go.Proofs
noncomputable section
def ext10 : Ext := [(26, S26), (25, S25), (27, S27)]
theorem call10_26 : Callable Tryz.prog 26 := ⟨Tryz.f26, Tryz.func26, by kernel_rfl, by kernel_rfl⟩
theorem call10_25 : Callable Tryz.prog 25 := ⟨Tryz.f25, Tryz.func25, by kernel_rfl, by kernel_rfl⟩
theorem call10_27 : Callable Tryz.prog 27 := ⟨Tryz.f27, Tryz.func27, by kernel_rfl, by kernel_rfl⟩
theorem ext10Ok : ExtOk Tryz.prog ext10 := ⟨⟨call10_26, con26⟩, ⟨call10_25, con25⟩, ⟨call10_27, con27⟩, trivial⟩

noncomputable def b10 : Code := bodyOf Tryz.f10
theorem hb10 : Tryz.f10.body = some b10 := by kernel_rfl
def sig10 : List AT := [AT.v (Ty.sl (Ty.cons Ty.str (Ty.cons (Ty.sl Ty.str) Ty.unit))), AT.v (Ty.str)]
def tys10 : List Ty := [Ty.sl Ty.str, Ty.int IntKind.i64]
def kds10 : List RK := []
def oks10 : List AT := owns sig10
def P10 (x0 : List (ByteArray × List ByteArray × Unit)) (x1 : ByteArray) : Prop := ((P26 x0) ∧ (if (g25_0 (g26_0 x0) x0 x1 != 0) = true then True else ((P27 x0 x1) ∧ True)))
def g10_0 (x0 : List (ByteArray × List ByteArray × Unit)) (x1 : ByteArray) : List ByteArray := (if (g25_0 (g26_0 x0) x0 x1 != 0) = true then [] else g27_0 x0 x1)
def g10_1 (x0 : List (ByteArray × List ByteArray × Unit)) (x1 : ByteArray) : Int := (if (g25_0 (g26_0 x0) x0 x1 != 0) = true then g25_0 (g26_0 x0) x0 x1 else 0)
theorem at10 (x0 : List (ByteArray × List ByteArray × Unit)) (x1 : ByteArray) (h : P10 x0 x1) (K : Ctx) (q : Nat → Value) : AtV Tryz.prog 10 (PostR kds10 oks10 [⟨Ty.sl Ty.str, g10_0 x0 x1⟩, ⟨Ty.int IntKind.i64, g10_1 x0 x1⟩] [] [] q K) 18 K q [] [.code b10] (entE 0 0 sig10 (x0, x1, ())) (entL sig10 (x0, x1, ())) := by
  unfold P10 at h
  unfold g10_0 g10_1
  obtain ⟨s0, h⟩ := h
  by_cases b0 : (g25_0 (g26_0 x0) x0 x1 != 0) = true
  · try simp only [if_pos b0] at h ⊢
    exact AtV.ret Tryz.func10 tabOk ext10Ok mixed false [] tys10 [true] (a1 s0 (a1 trivial (a1 b0 trivial))) (by kernel_rfl)
  · try simp only [if_neg b0] at h ⊢
    replace b0 := Bool.eq_false_iff.2 b0
    obtain ⟨s1, h⟩ := h
    exact AtV.ret Tryz.func10 tabOk ext10Ok mixed false [] tys10 [false] (a1 s0 (a1 trivial (a1 b0 (a1 s1 trivial)))) (by kernel_rfl)

def S10 : Am.Spec := { sig := sig10, pre := fun ⟨x0, x1, _⟩ => P10 x0 x1, res := fun ⟨x0, x1, _⟩ => [⟨Ty.sl Ty.str, g10_0 x0 x1⟩, ⟨Ty.int IntKind.i64, g10_1 x0 x1⟩], kds := kds10 }
theorem con10 : Contract Tryz.prog 10 S10 := contract_of Tryz.func10 hb10 (Nat.le_of_ble_eq_true (by kernel_rfl)) (fun ⟨x0, x1, _⟩ h _ K q => at10 x0 x1 h K q)


end
end Go.Proofs.YtpellcnihifdaaaGreatDoor

/- Function 28 (spec.l28DrawName): its runs between cut points. Written by a program of this repo (gen). -/
set_option linter.unusedVariables false
set_option linter.unusedSimpArgs false
set_option maxRecDepth 100000
namespace Go.Proofs.YtpellcnihifdaaaGreatDoor
open Go Go.Am Go.Proofs
noncomputable section
def ext28 : Ext := [(37, S37)]
theorem call28_37 : Callable Tryz.prog 37 := ⟨Tryz.f37, Tryz.func37, by kernel_rfl, by kernel_rfl⟩
theorem ext28Ok : ExtOk Tryz.prog ext28 := ⟨⟨call28_37, con37⟩, trivial⟩

noncomputable def b28 : Code := bodyOf Tryz.f28
theorem hb28 : Tryz.f28.body = some b28 := by kernel_rfl
def sig28 : List AT := [AT.pb (Ty.cons (Ty.sl (Ty.int IntKind.u8)) (Ty.cons (Ty.int IntKind.i64) (Ty.cons (Ty.int IntKind.u64) Ty.unit)))]
def tys28 : List Ty := [Ty.str]
def kds28 : List RK := []
def oks28 : List AT := owns sig28
def P28 (x0 : List Int × Int × Int × Unit) : Prop := ((P37 x0 [ByteArray.mk #[99, 104, 105, 101, 102], ByteArray.mk #[100, 114, 105, 118, 101, 114], ByteArray.mk #[103, 117, 97, 114, 100], ByteArray.mk #[112, 117, 112, 105, 108], ByteArray.mk #[119, 97, 114, 100, 101, 110], ByteArray.mk #[122, 122]]) ∧ True)
def g28_0 (x0 : List Int × Int × Int × Unit) : ByteArray := g37_0 x0 [ByteArray.mk #[99, 104, 105, 101, 102], ByteArray.mk #[100, 114, 105, 118, 101, 114], ByteArray.mk #[103, 117, 97, 114, 100], ByteArray.mk #[112, 117, 112, 105, 108], ByteArray.mk #[119, 97, 114, 100, 101, 110], ByteArray.mk #[122, 122]]
def u28_0 (x0 : List Int × Int × Int × Unit) : List Int × Int × Int × Unit := u37_0 x0 [ByteArray.mk #[99, 104, 105, 101, 102], ByteArray.mk #[100, 114, 105, 118, 101, 114], ByteArray.mk #[103, 117, 97, 114, 100], ByteArray.mk #[112, 117, 112, 105, 108], ByteArray.mk #[119, 97, 114, 100, 101, 110], ByteArray.mk #[122, 122]]
theorem at28 (x0 : List Int × Int × Int × Unit) (h : P28 x0) (K : Ctx) (q : Nat → Value) : AtV Tryz.prog 28 (PostR kds28 oks28 [⟨Ty.str, g28_0 x0⟩] [some ⟨Ty.cons (Ty.sl (Ty.int IntKind.u8)) (Ty.cons (Ty.int IntKind.i64) (Ty.cons (Ty.int IntKind.u64) Ty.unit)), [u28_0 x0]⟩] [0] q K) 6 K q [0] [.code b28] (entE 0 0 sig28 (x0, ())) (entL sig28 (x0, ())) := by
  unfold P28 at h
  unfold g28_0 u28_0
  obtain ⟨s0, h⟩ := h
  exact AtV.weak (AtV.ret (us := [Option.some (Lst.mk (Ty.cons (Ty.sl (Ty.int IntKind.u8)) (Ty.cons (Ty.int IntKind.i64) (Ty.cons (Ty.int IntKind.u64) Ty.unit))) [u37_0 x0 [ByteArray.mk #[99, 104, 105, 101, 102], ByteArray.mk #[100, 114, 105, 118, 101, 114], ByteArray.mk #[103, 117, 97, 114, 100], ByteArray.mk #[112, 117, 112, 105, 108], ByteArray.mk #[119, 97, 114, 100, 101, 110], ByteArray.mk #[122, 122]]])]) Tryz.func28 tabOk ext28Ok mixed false [] tys28 [] (a1 s0 trivial) (by kernel_rfl)) ⟨.inl rfl, trivial⟩

def S28 : Am.Spec := { sig := sig28, pre := fun ⟨x0, _⟩ => P28 x0, upd := fun ⟨x0, _⟩ => [some ⟨Ty.cons (Ty.sl (Ty.int IntKind.u8)) (Ty.cons (Ty.int IntKind.i64) (Ty.cons (Ty.int IntKind.u64) Ty.unit)), [u28_0 x0]⟩], res := fun ⟨x0, _⟩ => [⟨Ty.str, g28_0 x0⟩], kds := kds28 }
theorem con28 : Contract Tryz.prog 28 S28 := contract_of Tryz.func28 hb28 (Nat.le_of_ble_eq_true (by kernel_rfl)) (fun ⟨x0, _⟩ h _ K q => at28 x0 h K q)


end
end Go.Proofs.YtpellcnihifdaaaGreatDoor

/- Function 11 (spec.DrawRightsOf): its runs between cut points. Written by a program of this repo (gen). -/
set_option linter.unusedVariables false
set_option linter.unusedSimpArgs false
set_option maxRecDepth 100000
namespace Go.Proofs.YtpellcnihifdaaaGreatDoor
open Go Go.Am Go.Proofs
noncomputable section
def ext11 : Ext := [(15, S15), (16, S16), (28, S28)]
theorem call11_15 : Callable Tryz.prog 15 := ⟨Tryz.f15, Tryz.func15, by kernel_rfl, by kernel_rfl⟩
theorem call11_16 : Callable Tryz.prog 16 := ⟨Tryz.f16, Tryz.func16, by kernel_rfl, by kernel_rfl⟩
theorem call11_28 : Callable Tryz.prog 28 := ⟨Tryz.f28, Tryz.func28, by kernel_rfl, by kernel_rfl⟩
theorem ext11Ok : ExtOk Tryz.prog ext11 := ⟨⟨call11_15, con15⟩, ⟨call11_16, con16⟩, ⟨call11_28, con28⟩, trivial⟩

noncomputable def b11 : Code := bodyOf Tryz.f11
theorem hb11 : Tryz.f11.body = some b11 := by kernel_rfl
def sig11 : List AT := [AT.v (Ty.sl (Ty.int IntKind.u8))]
def tys11 : List Ty := [Ty.sl (Ty.cons Ty.str (Ty.cons (Ty.sl Ty.str) Ty.unit)), Ty.sl (Ty.cons Ty.str (Ty.cons Ty.str (Ty.cons (Ty.int IntKind.i64) Ty.unit))), Ty.str]
def kds11 : List RK := [.frz, .own, .own]
def oks11 : List AT := owns sig11
def P11 (x0 : List Int) : Prop := ((P16 (g15_0 x0)) ∧ ((P28 (u16_0 (g15_0 x0))) ∧ True))
def g11_0 (x0 : List Int) : List (ByteArray × List ByteArray × Unit) := g16_0 (g15_0 x0)
def g11_1 (x0 : List Int) : List (ByteArray × ByteArray × Int × Unit) := g16_1 (g15_0 x0)
def g11_2 (x0 : List Int) : ByteArray := g28_0 (u16_0 (g15_0 x0))
theorem at11 (x0 : List Int) (h : P11 x0) (K : Ctx) (q : Nat → Value) : AtV Tryz.prog 11 (PostR kds11 oks11 [⟨Ty.sl (Ty.cons Ty.str (Ty.cons (Ty.sl Ty.str) Ty.unit)), g11_0 x0⟩, ⟨Ty.sl (Ty.cons Ty.str (Ty.cons Ty.str (Ty.cons (Ty.int IntKind.i64) Ty.unit))), g11_1 x0⟩, ⟨Ty.str, g11_2 x0⟩] [] [] q K) 19 K q [] [.code b11] (entE 0 0 sig11 (x0, ())) (entL sig11 (x0, ())) := by
  unfold P11 at h
  unfold g11_0 g11_1 g11_2
  obtain ⟨s0, h⟩ := h
  obtain ⟨s1, h⟩ := h
  exact AtV.ret Tryz.func11 tabOk ext11Ok mixed false [] tys11 [] (a1 trivial (a1 s0 (a1 s1 trivial))) (by kernel_rfl)

def S11 : Am.Spec := { sig := sig11, pre := fun ⟨x0, _⟩ => P11 x0, res := fun ⟨x0, _⟩ => [⟨Ty.sl (Ty.cons Ty.str (Ty.cons (Ty.sl Ty.str) Ty.unit)), g11_0 x0⟩, ⟨Ty.sl (Ty.cons Ty.str (Ty.cons Ty.str (Ty.cons (Ty.int IntKind.i64) Ty.unit))), g11_1 x0⟩, ⟨Ty.str, g11_2 x0⟩], kds := kds11 }
theorem con11 : Contract Tryz.prog 11 S11 := contract_of Tryz.func11 hb11 (Nat.le_of_ble_eq_true (by kernel_rfl)) (fun ⟨x0, _⟩ h _ K q => at11 x0 h K q)


end
end Go.Proofs.YtpellcnihifdaaaGreatDoor

/- Function 12 (impl.RightsOf): its runs between cut points. Written by a program of this repo (gen). -/
set_option linter.unusedVariables false
set_option linter.unusedSimpArgs false
set_option maxRecDepth 100000
namespace Go.Proofs.YtpellcnihifdaaaGreatDoor
open Go Go.Am Go.Proofs
noncomputable section
def ext12 : Ext := [(19, S19), (25, S25), (24, S24)]
theorem call12_19 : Callable Tryz.prog 19 := ⟨Tryz.f19, Tryz.func19, by kernel_rfl, by kernel_rfl⟩
theorem call12_25 : Callable Tryz.prog 25 := ⟨Tryz.f25, Tryz.func25, by kernel_rfl, by kernel_rfl⟩
theorem call12_24 : Callable Tryz.prog 24 := ⟨Tryz.f24, Tryz.func24, by kernel_rfl, by kernel_rfl⟩
theorem ext12Ok : ExtOk Tryz.prog ext12 := ⟨⟨call12_19, con19⟩, ⟨call12_25, con25⟩, ⟨call12_24, con24⟩, trivial⟩

noncomputable def b12 : Code := bodyOf Tryz.f12
theorem hb12 : Tryz.f12.body = some b12 := by kernel_rfl
def sig12 : List AT := [AT.v (Ty.sl (Ty.cons Ty.str (Ty.cons (Ty.sl Ty.str) Ty.unit))), AT.v (Ty.sl (Ty.cons Ty.str (Ty.cons Ty.str (Ty.cons (Ty.int IntKind.i64) Ty.unit)))), AT.v (Ty.str)]
def tys12 : List Ty := [Ty.sl (Ty.cons Ty.str (Ty.cons Ty.str (Ty.cons (Ty.int IntKind.i64) Ty.unit))), Ty.int IntKind.i64]
def kds12 : List RK := []
def oks12 : List AT := owns sig12
def P12 (x0 : List (ByteArray × List ByteArray × Unit)) (x1 : List (ByteArray × ByteArray × Int × Unit)) (x2 : ByteArray) : Prop := ((P19 x0 x1) ∧ (if (g25_0 (g19_0 x0 x1) x0 x2 != 0) = true then True else ((P24 x0 x1 x2) ∧ True)))
def g12_0 (x0 : List (ByteArray × List ByteArray × Unit)) (x1 : List (ByteArray × ByteArray × Int × Unit)) (x2 : ByteArray) : List (ByteArray × ByteArray × Int × Unit) := (if (g25_0 (g19_0 x0 x1) x0 x2 != 0) = true then [] else g24_0 x0 x1 x2)
def g12_1 (x0 : List (ByteArray × List ByteArray × Unit)) (x1 : List (ByteArray × ByteArray × Int × Unit)) (x2 : ByteArray) : Int := (if (g25_0 (g19_0 x0 x1) x0 x2 != 0) = true then g25_0 (g19_0 x0 x1) x0 x2 else 0)
theorem at12 (x0 : List (ByteArray × List ByteArray × Unit)) (x1 : List (ByteArray × ByteArray × Int × Unit)) (x2 : ByteArray) (h : P12 x0 x1 x2) (K : Ctx) (q : Nat → Value) : AtV Tryz.prog 12 (PostR kds12 oks12 [⟨Ty.sl (Ty.cons Ty.str (Ty.cons Ty.str (Ty.cons (Ty.int IntKind.i64) Ty.unit))), g12_0 x0 x1 x2⟩, ⟨Ty.int IntKind.i64, g12_1 x0 x1 x2⟩] [] [] q K) 22 K q [] [.code b12] (entE 0 0 sig12 (x0, x1, x2, ())) (entL sig12 (x0, x1, x2, ())) := by
  unfold P12 at h
  unfold g12_0 g12_1
  obtain ⟨s0, h⟩ := h
  by_cases b0 : (g25_0 (g19_0 x0 x1) x0 x2 != 0) = true
  · try simp only [if_pos b0] at h ⊢
    exact AtV.ret Tryz.func12 tabOk ext12Ok mixed false [] tys12 [true] (a1 s0 (a1 trivial (a1 b0 trivial))) (by kernel_rfl)
  · try simp only [if_neg b0] at h ⊢
    replace b0 := Bool.eq_false_iff.2 b0
    obtain ⟨s1, h⟩ := h
    exact AtV.ret Tryz.func12 tabOk ext12Ok mixed false [] tys12 [false] (a1 s0 (a1 trivial (a1 b0 (a1 s1 trivial)))) (by kernel_rfl)

def S12 : Am.Spec := { sig := sig12, pre := fun ⟨x0, x1, x2, _⟩ => P12 x0 x1 x2, res := fun ⟨x0, x1, x2, _⟩ => [⟨Ty.sl (Ty.cons Ty.str (Ty.cons Ty.str (Ty.cons (Ty.int IntKind.i64) Ty.unit))), g12_0 x0 x1 x2⟩, ⟨Ty.int IntKind.i64, g12_1 x0 x1 x2⟩], kds := kds12 }
theorem con12 : Contract Tryz.prog 12 S12 := contract_of Tryz.func12 hb12 (Nat.le_of_ble_eq_true (by kernel_rfl)) (fun ⟨x0, x1, x2, _⟩ h _ K q => at12 x0 x1 x2 h K q)


end
end Go.Proofs.YtpellcnihifdaaaGreatDoor

/- Function 30 (impl.ActionName): its runs between cut points. Written by a program of this repo (gen). -/
set_option linter.unusedVariables false
set_option linter.unusedSimpArgs false
set_option maxRecDepth 100000
namespace Go.Proofs.YtpellcnihifdaaaGreatDoor
open Go Go.Am Go.Proofs
noncomputable section
def ext30 : Ext := [(20, S20)]
theorem call30_20 : Callable Tryz.prog 20 := ⟨Tryz.f20, Tryz.func20, by kernel_rfl, by kernel_rfl⟩
theorem ext30Ok : ExtOk Tryz.prog ext30 := ⟨⟨call30_20, con20⟩, trivial⟩

noncomputable def b30 : Code := bodyOf Tryz.f30
theorem hb30 : Tryz.f30.body = some b30 := by kernel_rfl
def sig30 : List AT := [AT.v (Ty.int IntKind.i64)]
def tys30 : List Ty := [Ty.str]
def kds30 : List RK := []
def oks30 : List AT := owns sig30
def P30 (x0 : Int) : Prop := (if (!g20_0 x0) = true then True else ((InR IntKind.i64 (x0 - 1)) ∧ ((0 ≤ x0 - 1) ∧ (x0 - 1 < 3) ∧ True)))
def g30_0 (x0 : Int) : ByteArray := (if (!g20_0 x0) = true then ByteArray.mk #[] else List.getD [ByteArray.mk #[114, 101, 97, 100], ByteArray.mk #[99, 104, 97, 110, 103, 101], ByteArray.mk #[114, 101, 108, 101, 97, 115, 101]] (Int.toNat (x0 - 1)) ByteArray.empty)
theorem at30 (x0 : Int) (h : P30 x0) (K : Ctx) (q : Nat → Value) : AtV Tryz.prog 30 (PostR kds30 oks30 [⟨Ty.str, g30_0 x0⟩] [] [] q K) 11 K q [] [.code b30] (entE 0 0 sig30 (x0, ())) (entL sig30 (x0, ())) := by
  unfold P30 at h
  unfold g30_0
  by_cases b0 : (!g20_0 x0) = true
  · try simp only [if_pos b0] at h ⊢
    exact AtV.ret Tryz.func30 tabOk ext30Ok mixed false [] tys30 [true] (a1 trivial (a1 b0 trivial)) (by kernel_rfl)
  · try simp only [if_neg b0] at h ⊢
    replace b0 := Bool.eq_false_iff.2 b0
    obtain ⟨s0, h⟩ := h
    obtain ⟨s1, s2, h⟩ := h
    exact AtV.ret Tryz.func30 tabOk ext30Ok mixed false [] tys30 [false] (a1 trivial (a1 b0 (a1 s0 (a1 s1 (a1 s2 trivial))))) (by kernel_rfl)

def S30 : Am.Spec := { sig := sig30, pre := fun ⟨x0, _⟩ => P30 x0, res := fun ⟨x0, _⟩ => [⟨Ty.str, g30_0 x0⟩], kds := kds30 }
theorem con30 : Contract Tryz.prog 30 S30 := contract_of Tryz.func30 hb30 (Nat.le_of_ble_eq_true (by kernel_rfl)) (fun ⟨x0, _⟩ h _ K q => at30 x0 h K q)


end
end Go.Proofs.YtpellcnihifdaaaGreatDoor

/- Function 14 (impl.GrantText): its runs between cut points. Written by a program of this repo (gen). -/
set_option linter.unusedVariables false
set_option linter.unusedSimpArgs false
set_option maxRecDepth 100000
namespace Go.Proofs.YtpellcnihifdaaaGreatDoor
open Go Go.Am Go.Proofs
noncomputable section
def ext14 : Ext := [(31, S31), (20, S20), (30, S30)]
theorem call14_31 : Callable Tryz.prog 31 := ⟨Tryz.f31, Tryz.func31, by kernel_rfl, by kernel_rfl⟩
theorem call14_20 : Callable Tryz.prog 20 := ⟨Tryz.f20, Tryz.func20, by kernel_rfl, by kernel_rfl⟩
theorem call14_30 : Callable Tryz.prog 30 := ⟨Tryz.f30, Tryz.func30, by kernel_rfl, by kernel_rfl⟩
theorem ext14Ok : ExtOk Tryz.prog ext14 := ⟨⟨call14_31, con31⟩, ⟨call14_20, con20⟩, ⟨call14_30, con30⟩, trivial⟩

noncomputable def b14 : Code := bodyOf Tryz.f14
theorem hb14 : Tryz.f14.body = some b14 := by kernel_rfl
def sig14 : List AT := [AT.v (Ty.cons Ty.str (Ty.cons Ty.str (Ty.cons (Ty.int IntKind.i64) Ty.unit)))]
def tys14 : List Ty := [Ty.str]
def kds14 : List RK := []
def oks14 : List AT := owns sig14
def P14 (x0 : ByteArray × ByteArray × Int × Unit) : Prop := (if (!g31_0 (Prod.fst x0)) = true then True else (if (!g31_0 (Prod.fst (Prod.snd x0))) = true then True else (if (!g20_0 (Prod.fst (Prod.snd (Prod.snd x0)))) = true then True else ((ByteArray.size (Prod.fst x0) + 1 ≤ 9223372036854775807) ∧ ((P30 (Prod.fst (Prod.snd (Prod.snd x0)))) ∧ ((ByteArray.size (Prod.fst x0 ++ ByteArray.mk #[32]) + ByteArray.size (g30_0 (Prod.fst (Prod.snd (Prod.snd x0)))) ≤ 9223372036854775807) ∧ ((ByteArray.size (Prod.fst x0 ++ ByteArray.mk #[32] ++ g30_0 (Prod.fst (Prod.snd (Prod.snd x0)))) + 1 ≤ 9223372036854775807) ∧ ((ByteArray.size (Prod.fst x0 ++ ByteArray.mk #[32] ++ g30_0 (Prod.fst (Prod.snd (Prod.snd x0))) ++ ByteArray.mk #[32]) + ByteArray.size (Prod.fst (Prod.snd x0)) ≤ 9223372036854775807) ∧ True))))))))
def g14_0 (x0 : ByteArray × ByteArray × Int × Unit) : ByteArray := (if (!g31_0 (Prod.fst x0)) = true then ByteArray.mk #[] else (if (!g31_0 (Prod.fst (Prod.snd x0))) = true then ByteArray.mk #[] else (if (!g20_0 (Prod.fst (Prod.snd (Prod.snd x0)))) = true then ByteArray.mk #[] else Prod.fst x0 ++ ByteArray.mk #[32] ++ g30_0 (Prod.fst (Prod.snd (Prod.snd x0))) ++ ByteArray.mk #[32] ++ Prod.fst (Prod.snd x0))))
theorem at14 (x0 : ByteArray × ByteArray × Int × Unit) (h : P14 x0) (K : Ctx) (q : Nat → Value) : AtV Tryz.prog 14 (PostR kds14 oks14 [⟨Ty.str, g14_0 x0⟩] [] [] q K) 30 K q [] [.code b14] (entE 0 0 sig14 (x0, ())) (entL sig14 (x0, ())) := by
  unfold P14 at h
  unfold g14_0
  by_cases b0 : (!g31_0 (Prod.fst x0)) = true
  · try simp only [if_pos b0] at h ⊢
    exact AtV.ret Tryz.func14 tabOk ext14Ok mixed false [] tys14 [true, true, true] (a1 trivial (a1 b0 (a1 (rfl : Bool.true = Bool.true) (a1 (rfl : Bool.true = Bool.true) trivial)))) (by kernel_rfl)
  · try simp only [if_neg b0] at h ⊢
    replace b0 := Bool.eq_false_iff.2 b0
    by_cases b1 : (!g31_0 (Prod.fst (Prod.snd x0))) = true
    · try simp only [if_pos b1] at h ⊢
      exact AtV.ret Tryz.func14 tabOk ext14Ok mixed false [] tys14 [false, true, true] (a1 trivial (a1 b0 (a1 trivial (a1 b1 (a1 (rfl : Bool.true = Bool.true) trivial))))) (by kernel_rfl)
    · try simp only [if_neg b1] at h ⊢
      replace b1 := Bool.eq_false_iff.2 b1
      by_cases b2 : (!g20_0 (Prod.fst (Prod.snd (Prod.snd x0)))) = true
      · try simp only [if_pos b2] at h ⊢
        exact AtV.ret Tryz.func14 tabOk ext14Ok mixed false [] tys14 [false, false, true] (a1 trivial (a1 b0 (a1 trivial (a1 b1 (a1 trivial (a1 b2 trivial)))))) (by kernel_rfl)
      · try simp only [if_neg b2] at h ⊢
        replace b2 := Bool.eq_false_iff.2 b2
        obtain ⟨s0, h⟩ := h
        obtain ⟨s1, h⟩ := h
        obtain ⟨s2, h⟩ := h
        obtain ⟨s3, h⟩ := h
        obtain ⟨s4, h⟩ := h
        exact AtV.ret Tryz.func14 tabOk ext14Ok mixed false [] tys14 [false, false, false] (a1 trivial (a1 b0 (a1 trivial (a1 b1 (a1 trivial (a1 b2 (a1 s0 (a1 s1 (a1 s2 (a1 s3 (a1 s4 trivial))))))))))) (by kernel_rfl)

def S14 : Am.Spec := { sig := sig14, pre := fun ⟨x0, _⟩ => P14 x0, res := fun ⟨x0, _⟩ => [⟨Ty.str, g14_0 x0⟩], kds := kds14 }
theorem con14 : Contract Tryz.prog 14 S14 := contract_of Tryz.func14 hb14 (Nat.le_of_ble_eq_true (by kernel_rfl)) (fun ⟨x0, _⟩ h _ K q => at14 x0 h K q)


end
end Go.Proofs.YtpellcnihifdaaaGreatDoor

/- Function 29 (strings.Split): its contract, off what is known of the library. -/
set_option linter.unusedVariables false
set_option linter.unusedSimpArgs false
set_option maxRecDepth 100000
namespace Go.Proofs.YtpellcnihifdaaaGreatDoor
open Go Go.Am Go.Proofs

def sig29 : List AT := [AT.v Ty.str, AT.v Ty.str]
def g29_0 (x0 x1 : ByteArray) : List ByteArray := Lib.splitB x1 0 (Lib.countB x0 x1) x0
def P29 (x0 x1 : ByteArray) : Prop := x0.size < 4294967281 ∧ 1 ≤ x1.size
def S29 : Am.Spec := { sig := sig29, pre := fun ⟨x0, x1, _⟩ => P29 x0 x1, res := fun ⟨x0, x1, _⟩ => [⟨Ty.sl Ty.str, g29_0 x0 x1⟩] }

theorem con29 : Contract Tryz.prog 29 S29 := by
  refine Contract0.up rfl rfl ?_
  rintro w ⟨x0, x1, u⟩ vs bss hgo hp ⟨v0, s0, b0, bs0, rfl, rfl, ⟨rfl, rfl, _⟩, v1, s1, b1, bs1, rfl, rfl, ⟨rfl, rfl, _⟩, rfl, rfl⟩ hn
  obtain ⟨hs, h1⟩ : x0.size < 4294967281 ∧ 1 ≤ x1.size := hp
  obtain ⟨m, hm⟩ := maxLenG hgo.inv
  refine (Tryz.strings_Split x0 x1 m w hs hm h1).mono ?_
  rintro e w' ⟨rfl, rfl⟩
  have hlen : (g29_0 x0 x1).length = Lib.countB x0 x1 + 1 := Lib.splitB_all x1 h1 0 _ _ rfl
  have hle := Lib.countB_le x1 h1 x0.size x0 (Nat.le_refl _)
  have hparts : ∀ y ∈ g29_0 x0 x1, y.size ≤ maxLen := fun y hy => by
    have := splitB_part x1 0 _ _ y hy
    unfold maxLen; omega
  have e1 : ∀ xs : List ByteArray, fcs .str xs = xs.map Value.string := by
    intro xs
    induction xs with
    | nil => rfl
    | cons a r ih => unfold fcs at ih ⊢; rw [List.map_cons, List.flatten_cons, ih]; rfl
  have ho : OwnC (w.alloc (.cells ((g29_0 x0 x1).map Value.string).toArray 9)) (.sl .str) (g29_0 x0 x1) [.slice (some ⟨w.heap.size, 0, none⟩) (Lib.countB x0 x1 + 1) (Lib.countB x0 x1 + 1)] [w.heap.size] :=
    own_flat_mk rfl hparts hlen.symm (Nat.le_of_eq hlen) (by unfold maxLen; omega) (by rw [List.size_toArray, List.length_map, hlen]; simp [Ty.size]) (heap_new w _) (freeS_zero _ _) (fun j u hj => by
      rw [e1] at hj
      rw [Nat.zero_add, ← Array.getElem?_toList]
      exact hj)
  refine ⟨[_], [], [[w.heap.size]], rfl, (Kept.refl _ _).alloc _, ⟨_, _, _, _, _, rfl, rfl, ho, rfl, rfl, rfl⟩, ⟨rfl, rfl⟩, by simp, fun b hb hg => ?_⟩
  simp at hb
  have := hg.1
  omega

end Go.Proofs.YtpellcnihifdaaaGreatDoor

/- Function 13 (impl.ReadGrant): its runs between cut points. Written by a program of this repo (gen). -/
set_option linter.unusedVariables false
set_option linter.unusedSimpArgs false
set_option maxRecDepth 100000
namespace Go.Proofs.YtpellcnihifdaaaGreatDoor
open Go Go.Am Go.Proofs
noncomputable section
def ext13 : Ext := [(29, S29), (30, S30), (14, S14)]
theorem call13_29 : Callable Tryz.prog 29 := ⟨Tryz.f29, Tryz.func29, by kernel_rfl, by kernel_rfl⟩
theorem call13_30 : Callable Tryz.prog 30 := ⟨Tryz.f30, Tryz.func30, by kernel_rfl, by kernel_rfl⟩
theorem call13_14 : Callable Tryz.prog 14 := ⟨Tryz.f14, Tryz.func14, by kernel_rfl, by kernel_rfl⟩
theorem ext13Ok : ExtOk Tryz.prog ext13 := ⟨⟨call13_29, con29⟩, ⟨call13_30, con30⟩, ⟨call13_14, con14⟩, trivial⟩

noncomputable def b13 : Code := bodyOf Tryz.f13
theorem hb13 : Tryz.f13.body = some b13 := by kernel_rfl
def sig13 : List AT := [AT.v (Ty.str)]
def tys13 : List Ty := [Ty.cons Ty.str (Ty.cons Ty.str (Ty.cons (Ty.int IntKind.i64) Ty.unit)), Ty.bool]
def kds13 : List RK := []
def oks13 : List AT := owns sig13
def E13_6 (v6 : Int) (h2 : ByteArray × ByteArray × Int × Unit) (x0 : ByteArray) : Env := [(0, PV.a (Atom.val (Value.string x0))), (2, PV.a (Atom.optr 0 0 [])), (4, PV.a (Atom.osl 1 Option.none)), (5, PV.a (Atom.optr 2 0 [])), (6, PV.a (Atom.val (Value.int IntKind.i64 v6)))]
def L13_6 (v6 : Int) (h2 : ByteArray × ByteArray × Int × Unit) (x0 : ByteArray) : Heap := [Option.some (Arr.mk (Ty.cons Ty.str (Ty.cons Ty.str (Ty.cons (Ty.int IntKind.i64) Ty.unit))) [(ByteArray.empty, ByteArray.empty, 0, ())] Bool.true Option.none (Option.some Bool.false)), Option.some (Arr.mk Ty.str (g29_0 x0 (ByteArray.mk #[32])) Bool.false Option.none Option.none), Option.some (Arr.mk (Ty.cons Ty.str (Ty.cons Ty.str (Ty.cons (Ty.int IntKind.i64) Ty.unit))) [h2] Bool.true Option.none (Option.some Bool.false))]
mutual
def R13 : Nat → ByteArray → List Dyn → Prop
  | 0, _, _ => False
  | n + 1, x0, ds => ((P29 x0 (ByteArray.mk #[32])) ∧ (if ((↑(List.length (g29_0 x0 (ByteArray.mk #[32]))) : Int) != 3) = true then (ds = [Dyn.mk (Ty.cons Ty.str (Ty.cons Ty.str (Ty.cons (Ty.int IntKind.i64) Ty.unit))) (ByteArray.empty, ByteArray.empty, 0, ()), Dyn.mk Ty.bool Bool.false]) else ((0 < (↑(List.length (g29_0 x0 (ByteArray.mk #[32]))) : Int)) ∧ ((2 < (↑(List.length (g29_0 x0 (ByteArray.mk #[32]))) : Int)) ∧ (R13_6 n (1) ((List.getD (g29_0 x0 (ByteArray.mk #[32])) 0 ByteArray.empty, List.getD (g29_0 x0 (ByteArray.mk #[32])) 2 ByteArray.empty, 0, ())) (x0) ds)))))
def R13_6 : Nat → Int → ByteArray × ByteArray × Int × Unit → ByteArray → List Dyn → Prop
  | 0, _, _, _, _ => False
  | n + 1, v6, h2, x0, ds => (if (Decidable.decide (v6 ≤ 3)) = true then ((P30 v6) ∧ ((1 < (↑(List.length (g29_0 x0 (ByteArray.mk #[32]))) : Int)) ∧ (if (ByteArray.toList (g30_0 v6) == ByteArray.toList (List.getD (g29_0 x0 (ByteArray.mk #[32])) 1 ByteArray.empty)) = true then ((InR IntKind.i64 (v6 + 1)) ∧ (R13_6 n (v6 + 1) ((Prod.fst h2, Prod.fst (Prod.snd h2), v6, ())) (x0) ds)) else ((InR IntKind.i64 (v6 + 1)) ∧ (R13_6 n (v6 + 1) (h2) (x0) ds))))) else ((P14 h2) ∧ (if (!ByteArray.toList (g14_0 h2) == ByteArray.toList x0) = true then (ds = [Dyn.mk (Ty.cons Ty.str (Ty.cons Ty.str (Ty.cons (Ty.int IntKind.i64) Ty.unit))) (ByteArray.empty, ByteArray.empty, 0, ()), Dyn.mk Ty.bool Bool.false]) else (ds = [Dyn.mk (Ty.cons Ty.str (Ty.cons Ty.str (Ty.cons (Ty.int IntKind.i64) Ty.unit))) h2, Dyn.mk Ty.bool Bool.true]))))
end
theorem snd13 : ∀ n, (∀ (x0 : ByteArray) ds, R13 n x0 ds → ∀ K q, AtV Tryz.prog 13 (PostR kds13 oks13 ds [] [] q K) 38 K q [] [.code b13] (entE 0 0 sig13 (x0, ())) (entL sig13 (x0, ()))) ∧ (∀ (v6 : Int) (h2 : ByteArray × ByteArray × Int × Unit) (x0 : ByteArray) ds, R13_6 n v6 h2 x0 ds → ∀ K q, AtV Tryz.prog 13 (PostR kds13 oks13 ds [] [] q K) 38 K q [] (cutAt b13 6) (E13_6 v6 h2 x0) (L13_6 v6 h2 x0)) := by
  intro n
  induction n with
  | zero => exact ⟨fun _ _ h => by simp only [R13] at h, fun _ _ _ _ h => by simp only [R13_6] at h⟩
  | succ n ih =>
  obtain ⟨ih, ih6⟩ := ih
  refine ⟨?_, ?_⟩
  · intro x0 ds h K q
    rw [R13] at h
    obtain ⟨s0, h⟩ := h
    by_cases b0 : ((↑(List.length (g29_0 x0 (ByteArray.mk #[32]))) : Int) != 3) = true
    · rw [if_pos b0] at h
      subst h
      exact AtV.ret Tryz.func13 tabOk ext13Ok mixed false [] tys13 [true] (a1 s0 (a1 b0 trivial)) (by kernel_rfl)
    · rw [if_neg b0] at h
      replace b0 := Bool.eq_false_iff.2 b0
      obtain ⟨s1, h⟩ := h
      obtain ⟨s2, h⟩ := h
      exact AtV.go tabOk ext13Ok mixed false [] [] [0, 2, 4, 5, 6] [0, 1, 2] [false] (a1 s0 (a1 b0 (a1 ((by decide) : (0 : Int) ≤ (0 : Int)) (a1 s1 (a1 ((by decide) : (0 : Int) ≤ (2 : Int)) (a1 s2 trivial)))))) (ih6 _ _ _ _ h K q) (by kernel_rfl)

  · intro v6 h2 x0 ds h K q
    rw [R13_6] at h
    by_cases b0 : (Decidable.decide (v6 ≤ 3)) = true
    · rw [if_pos b0] at h
      obtain ⟨s0, h⟩ := h
      obtain ⟨s1, h⟩ := h
      by_cases b1 : (ByteArray.toList (g30_0 v6) == ByteArray.toList (List.getD (g29_0 x0 (ByteArray.mk #[32])) 1 ByteArray.empty)) = true
      · rw [if_pos b1] at h
        obtain ⟨s2, h⟩ := h
        exact AtV.go tabOk ext13Ok mixed false [] [] [0, 2, 4, 5, 6] [0, 1, 2] [true, true] (a1 b0 (a1 s0 (a1 ((by decide) : (0 : Int) ≤ (1 : Int)) (a1 s1 (a1 b1 (a1 s2 trivial)))))) (ih6 _ _ _ _ h K q) (by kernel_rfl)
      · rw [if_neg b1] at h
        replace b1 := Bool.eq_false_iff.2 b1
        obtain ⟨s2, h⟩ := h
        exact AtV.go tabOk ext13Ok mixed false [] [] [0, 2, 4, 5, 6] [0, 1, 2] [true, false] (a1 b0 (a1 s0 (a1 ((by decide) : (0 : Int) ≤ (1 : Int)) (a1 s1 (a1 b1 (a1 s2 trivial)))))) (ih6 _ _ _ _ h K q) (by kernel_rfl)
    · rw [if_neg b0] at h
      replace b0 := Bool.eq_false_iff.2 b0
      obtain ⟨s0, h⟩ := h
      by_cases b1 : (!ByteArray.toList (g14_0 h2) == ByteArray.toList x0) = true
      · rw [if_pos b1] at h
        subst h
        exact AtV.ret Tryz.func13 tabOk ext13Ok mixed false [] tys13 [false, true] (a1 b0 (a1 s0 (a1 b1 trivial))) (by kernel_rfl)
      · rw [if_neg b1] at h
        replace b1 := Bool.eq_false_iff.2 b1
        subst h
        exact AtV.ret Tryz.func13 tabOk ext13Ok mixed false [] tys13 [false, false] (a1 b0 (a1 s0 (a1 b1 trivial))) (by kernel_rfl)



abbrev GR13 := ByteArray × ByteArray × Int × Unit
def sp13 (x0 : ByteArray) : List ByteArray := g29_0 x0 (ByteArray.mk #[32])
def st13 (x0 : ByteArray) (v : Int) (h : GR13) : GR13 := if (ByteArray.toList (g30_0 v) == ByteArray.toList (List.getD (sp13 x0) 1 ByteArray.empty)) = true then (h.1, h.2.1, v, ()) else h
def gr13 (x0 : ByteArray) : GR13 := st13 x0 3 (st13 x0 2 (st13 x0 1 (List.getD (sp13 x0) 0 ByteArray.empty, List.getD (sp13 x0) 2 ByteArray.empty, 0, ())))
def ok13 (x0 : ByteArray) : Bool := if (((sp13 x0).length : Int) != 3) = true then false else (ByteArray.toList (g14_0 (gr13 x0)) == ByteArray.toList x0)
def g13_0 (x0 : ByteArray) : GR13 := if ok13 x0 = true then gr13 x0 else (ByteArray.empty, ByteArray.empty, 0, ())
def g13_1 (x0 : ByteArray) : Bool := ok13 x0
def P13 (x0 : ByteArray) : Prop := P29 x0 (ByteArray.mk #[32]) ∧ ((sp13 x0).length = 3 → P14 (gr13 x0))

theorem act13 {v : Int} (h1 : 1 ≤ v) (h3 : v ≤ 3) : P30 v := by
  have hv : v = 1 ∨ v = 2 ∨ v = 3 := by omega
  rcases hv with rfl | rfl | rfl <;> (unfold P30; decide)

theorem loop13 (x0 : ByteArray) (h : P13 x0) (hl : (sp13 x0).length = 3) : R13_6 4 1 (List.getD (sp13 x0) 0 ByteArray.empty, List.getD (sp13 x0) 2 ByteArray.empty, 0, ()) x0 [⟨.cons .str (.cons .str (.cons (.int .i64) .unit)), g13_0 x0⟩, ⟨.bool, g13_1 x0⟩] := by
  have hg := h.2 hl
  have l1 : (1 : Int) < ((sp13 x0).length : Int) := by omega
  have one : ∀ (n : Nat) (v : Int) (a : GR13) (ds : List Dyn), 1 ≤ v → v ≤ 3 → R13_6 n (v + 1) (st13 x0 v a) x0 ds → R13_6 (n + 1) v a x0 ds := fun n v a ds h1 h3 hr => by
    rw [R13_6, if_pos (by simp only [decide_eq_true_eq]; omega)]
    refine ⟨act13 h1 h3, l1, ?_⟩
    unfold st13 at hr
    by_cases c : (ByteArray.toList (g30_0 v) == ByteArray.toList (List.getD (sp13 x0) 1 ByteArray.empty)) = true
    · rw [if_pos c] at hr
      refine (if_pos c).mpr ?_
      exact ⟨by rw [i64_iff]; omega, hr⟩
    · rw [if_neg c] at hr
      refine (if_neg c).mpr ?_
      exact ⟨by rw [i64_iff]; omega, hr⟩
  refine one 3 1 _ _ (by decide) (by decide) (one 2 2 _ _ (by decide) (by decide) (one 1 3 _ _ (by decide) (by decide) ?_))
  show R13_6 1 4 (gr13 x0) x0 _
  have hn : ¬ (((sp13 x0).length : Int) != 3) = true := by rw [hl]; decide
  unfold g13_0 g13_1 ok13
  rw [if_neg hn, R13_6, if_neg (by decide)]
  refine ⟨hg, ?_⟩
  cases c : ByteArray.toList (g14_0 (gr13 x0)) == ByteArray.toList x0 with
  | true => rw [if_neg (by decide), if_pos rfl]
  | false => rw [if_pos (by decide), if_neg (by decide)]

theorem top13 (x0 : ByteArray) (h : P13 x0) : ∃ n, R13 n x0 [⟨.cons .str (.cons .str (.cons (.int .i64) .unit)), g13_0 x0⟩, ⟨.bool, g13_1 x0⟩] := by
  by_cases c : (((sp13 x0).length : Int) != 3) = true
  · refine ⟨1, ?_⟩
    rw [R13]
    refine ⟨h.1, (if_pos c).mpr ?_⟩
    unfold g13_0 g13_1 ok13
    rw [if_pos c]
    rfl
  · have hl : (sp13 x0).length = 3 := by
      simp only [bne_iff_ne, ne_eq, Decidable.not_not] at c
      omega
    refine ⟨5, ?_⟩
    rw [R13]
    refine ⟨h.1, (if_neg c).mpr ?_⟩
    exact ⟨show (0 : Int) < ((sp13 x0).length : Int) by omega, show (2 : Int) < ((sp13 x0).length : Int) by omega, loop13 x0 h hl⟩

def S13 : Am.Spec := { sig := sig13, pre := fun ⟨x0, _⟩ => P13 x0, res := fun ⟨x0, _⟩ => [⟨.cons .str (.cons .str (.cons (.int .i64) .unit)), g13_0 x0⟩, ⟨.bool, g13_1 x0⟩] }
theorem con13 : Contract Tryz.prog 13 S13 := contract_of Tryz.func13 hb13 (Nat.le_of_ble_eq_true (by kernel_rfl)) (fun ⟨x0, _⟩ h hwf K q =>
  let ⟨_, hn⟩ := top13 x0 h
  (snd13 _).1 x0 _ hn K q)

end
end Go.Proofs.YtpellcnihifdaaaGreatDoor

/- A law that says how functions of the program and of the specification hang together. -/
set_option linter.unusedVariables false
set_option linter.unusedSimpArgs false
set_option maxRecDepth 100000
namespace Go.Proofs.YtpellcnihifdaaaGreatDoor
open Go Go.Am Go.Proofs

def Rch (x0 : List (ByteArray × List ByteArray × Unit)) : Nat → ByteArray → ByteArray → Prop
  | 0, _, _ => False
  | f + 1, a, n => n ∈ und27 x0 a ∨ ∃ b, b ∈ und27 x0 a ∧ Rch x0 f b n
def Reach (x0 : List (ByteArray × List ByteArray × Unit)) (a n : ByteArray) : Prop := ∃ f, Rch x0 f a n

theorem Reach.one {x0 : List (ByteArray × List ByteArray × Unit)} {a n : ByteArray} (h : n ∈ und27 x0 a) : Reach x0 a n := ⟨1, .inl h⟩

theorem rch_trans {x0 : List (ByteArray × List ByteArray × Unit)} : ∀ (f : Nat) (a b n : ByteArray), Rch x0 f a b → Reach x0 b n → Reach x0 a n
  | 0, _, _, _, h, _ => h.elim
  | f + 1, a, b, n, h, ⟨g, hg⟩ => by
    rcases h with h | ⟨c, hc, h⟩
    · exact ⟨g + 1, .inr ⟨b, h, hg⟩⟩
    · obtain ⟨g', hg'⟩ := rch_trans f c b n h ⟨g, hg⟩
      exact ⟨g' + 1, .inr ⟨c, hc, hg'⟩⟩

theorem Reach.trans {x0 : List (ByteArray × List ByteArray × Unit)} {a b n : ByteArray} (h : Reach x0 a b) (k : Reach x0 b n) : Reach x0 a n := by
  obtain ⟨f, hf⟩ := h
  exact rch_trans f a b n hf k

theorem add_mem (all : List ByteArray) (m n : ByteArray) : n ∈ add27 all m ↔ n ∈ all ∨ n = m := by
  unfold add27
  by_cases c : g43_0 all m = true
  · rw [if_neg (by rw [c]; decide)]
    have := (has27 all m).1 c
    constructor
    · exact .inl
    · rintro (h | rfl)
      · exact h
      · exact this
  · rw [if_pos (by rw [Bool.eq_false_iff.2 c]; rfl)]
    simp

theorem adds_mem (l : List ByteArray) : ∀ (all : List ByteArray) (n : ByteArray), n ∈ l.foldl add27 all ↔ n ∈ all ∨ n ∈ l := by
  induction l with
  | nil => intro all n; simp
  | cons a l ih =>
    intro all n
    rw [List.foldl_cons, ih, add_mem, List.mem_cons]
    constructor
    · rintro ((h | h) | h)
      · exact .inl h
      · exact .inr (.inl h)
      · exact .inr (.inr h)
    · rintro (h | h | h)
      · exact .inl (.inl h)
      · exact .inl (.inr h)
      · exact .inr h

theorem add_pre (all : List ByteArray) (m : ByteArray) : ∃ r, add27 all m = all ++ r := by
  unfold add27
  split
  · exact ⟨_, rfl⟩
  · exact ⟨[], (List.append_nil _).symm⟩

theorem adds_pre (l : List ByteArray) : ∀ (all : List ByteArray), ∃ r, l.foldl add27 all = all ++ r := by
  induction l with
  | nil => intro all; exact ⟨[], (List.append_nil _).symm⟩
  | cons a l ih =>
    intro all
    obtain ⟨r, hr⟩ := add_pre all a
    obtain ⟨r', hr'⟩ := ih (add27 all a)
    exact ⟨r ++ r', by rw [List.foldl_cons, hr', hr, List.append_assoc]⟩

theorem bfs_law {x0 : List (ByteArray × List ByteArray × Unit)} (hp : ∀ r ∈ x0, ∀ n ∈ r.2.1, In27 x0 n) {x1 : ByteArray} (hx : In27 x0 x1) : ∀ (f k : Nat) (all : List ByteArray), f + k = x0.length + 2 → k ≤ all.length + 1 → Ok27 x0 all → (∀ n ∈ all, Reach x0 x1 n) →
    (∀ i, i < k → ∀ n ∈ und27 x0 ((x1 :: all).getD i ByteArray.empty), n ∈ all) → (∀ n ∈ bfs27 x0 x1 f k all, Reach x0 x1 n) ∧ ∀ a ∈ x1 :: bfs27 x0 x1 f k all, ∀ n ∈ und27 x0 a, n ∈ bfs27 x0 x1 f k all
  | 0, k, all, hf, hk, ho, _, _ => by have := ho.le; omega
  | f + 1, k, all, hf, hk, ho, hr, hd => by
    unfold bfs27
    by_cases c : k < all.length + 1
    · rw [if_pos c]
      have hm : (x1 :: all).getD k ByteArray.empty ∈ x1 :: all := mem_getD (x1 :: all) k _ (by simpa using c)
      have hin : In27 x0 ((x1 :: all).getD k ByteArray.empty) := by
        rcases List.mem_cons.1 hm with h | h
        · rw [h]; exact hx
        · exact ho.2 _ h
      obtain ⟨r, hpre⟩ := adds_pre (und27 x0 ((x1 :: all).getD k ByteArray.empty)) all
      have hv : vis27 x0 all ((x1 :: all).getD k ByteArray.empty) = all ++ r := hpre
      have hvm : ∀ n, n ∈ vis27 x0 all ((x1 :: all).getD k ByteArray.empty) ↔ n ∈ all ∨ n ∈ und27 x0 ((x1 :: all).getD k ByteArray.empty) := fun n => adds_mem _ all n
      have hok : Ok27 x0 (vis27 x0 all ((x1 :: all).getD k ByteArray.empty)) := ho.fold _ (unds27 hp hin)
      have hget : ∀ i, i < all.length + 1 → (x1 :: vis27 x0 all ((x1 :: all).getD k ByteArray.empty)).getD i ByteArray.empty = (x1 :: all).getD i ByteArray.empty := fun i hi => by
        rw [hv, List.getD_eq_getElem?_getD, List.getD_eq_getElem?_getD, ← List.cons_append, List.getElem?_append_left (by simpa using hi)]
      refine bfs_law hp hx f (k + 1) _ (by omega) ?_ hok (fun n hn => ?_) (fun i hi n hn => ?_)
      · rw [hv, List.length_append]; omega
      · rcases (hvm n).1 hn with h | h
        · exact hr n h
        · rcases List.mem_cons.1 hm with he | he
          · rw [he] at h; exact Reach.one h
          · exact (hr _ he).trans (Reach.one h)
      · rw [hget i (by omega)] at hn
        rw [hvm]
        by_cases he : i = k
        · subst he; exact .inr hn
        · exact .inl (hd i (by omega) n hn)
    · rw [if_neg c]
      refine ⟨hr, fun a ha n hn => ?_⟩
      obtain ⟨i, hi⟩ := List.getElem?_of_mem ha
      have hil := (List.getElem?_eq_some_iff.1 hi).1
      have hil : i < all.length + 1 := by simpa using hil
      refine hd i (by omega) n ?_
      rw [List.getD_eq_getElem?_getD, hi]
      exact hn

theorem reach_in {x0 : List (ByteArray × List ByteArray × Unit)} {S : List ByteArray} (hc : ∀ a ∈ S, ∀ n ∈ und27 x0 a, n ∈ S) : ∀ (f : Nat) (a n : ByteArray), (∀ m ∈ und27 x0 a, m ∈ S) → Rch x0 f a n → n ∈ S
  | 0, _, _, _, h => h.elim
  | f + 1, a, n, ha, h => by
    rcases h with h | ⟨b, hb, h⟩
    · exact ha n h
    · exact reach_in hc f b n (hc b (ha b hb)) h

theorem under_mem {x0 : List (ByteArray × List ByteArray × Unit)} {x1 : ByteArray} (h : P27 x0 x1) (n : ByteArray) : n ∈ g27_0 x0 x1 ↔ Reach x0 x1 n := by
  obtain ⟨h1, h2⟩ := bfs_law h.2.1 h.2.2 (x0.length + 2) 0 [] (by omega) (by omega) ⟨List.nodup_nil, fun n hn => by cases hn⟩ (fun n hn => by cases hn) (fun i hi => absurd hi (Nat.not_lt_zero i))
  unfold g27_0
  rw [(sortB_perm _).mem_iff]
  constructor
  · exact h1 n
  · rintro ⟨f, hf⟩
    exact reach_in (fun a ha => h2 a (List.mem_cons_of_mem _ ha)) f x1 n (h2 x1 (List.mem_cons_self ..)) hf

end Go.Proofs.YtpellcnihifdaaaGreatDoor

/- A law that says how functions of the program and of the specification hang together. -/
set_option linter.unusedVariables false
set_option linter.unusedSimpArgs false
set_option maxRecDepth 100000
namespace Go.Proofs.YtpellcnihifdaaaGreatDoor
open Go Go.Am Go.Proofs

theorem allI_mem {α : Type} {p : Nat → α → Bool} : ∀ (l : List α) (i : Nat), allI p i l = true → ∀ x ∈ l, ∃ j, p j x = true
  | [], _, _, x, hx => by cases hx
  | y :: r, i, h, x, hx => by
    simp only [allI, Bool.and_eq_true] at h
    rcases List.mem_cons.1 hx with rfl | hx
    · exact ⟨i, h.1⟩
    · exact allI_mem r (i + 1) h.2 x hx

end Go.Proofs.YtpellcnihifdaaaGreatDoor

/- A law that says how functions of the program and of the specification hang together. -/
set_option linter.unusedVariables false
set_option linter.unusedSimpArgs false
set_option maxRecDepth 100000
namespace Go.Proofs.YtpellcnihifdaaaGreatDoor
open Go Go.Am Go.Proofs

theorem roles_law {x0 : List (ByteArray × List ByteArray × Unit)} (h : g26_0 x0 = true) : x0.length ≤ 12 ∧ (∀ r ∈ x0, P27 x0 r.1) ∧ (∀ n, In27 x0 n → P27 x0 n) ∧ ∀ r ∈ x0, r.1 ∉ g27_0 x0 r.1 := by
  unfold g26_0 at h
  by_cases c1 : decide (x0.length ≤ 12) = true
  · rw [if_pos c1] at h
    by_cases c2 : g47_0 (nm26 x0) = true
    · rw [if_pos c2] at h
      by_cases c3 : x0.all (ok26 x0) = true
      · rw [if_pos c3] at h
        have hl : x0.length ≤ 12 := of_decide_eq_true c1
        refine ⟨hl, fun r hr => pre26 hl c3 hr, fun n hn => ⟨by omega, closed26 c3, hn⟩, fun r hr hm => ?_⟩
        have h2 : g48c50_0 (nm26 x0) x0 = false := by simpa using h
        unfold g48c50_0 at h2
        rw [any66c50] at h2
        have : (nm26 x0).any (fun n => g50_0 n x0) = true := List.any_eq_true.2 ⟨r.1, List.mem_map.2 ⟨r, hr, rfl⟩, (has27 _ _).2 hm⟩
        rw [h2] at this
        cases this
      · rw [if_neg c3] at h; cases h
    · rw [if_neg c2] at h; cases h
  · rw [if_neg c1] at h; cases h

theorem grants_law {x0 : List (ByteArray × List ByteArray × Unit)} {x1 : List (ByteArray × ByteArray × Int × Unit)} (h : g19_0 x0 x1 = true) : g26_0 x0 = true ∧ x1.length ≤ 48 ∧ ∀ x ∈ x1, g38_0 x0 x = true := by
  unfold g19_0 at h
  by_cases c : g26_0 x0 = true
  · rw [if_pos c, Bool.and_eq_true] at h
    have hl := of_decide_eq_true h.2
    refine ⟨c, by omega, fun x hx => ?_⟩
    obtain ⟨j, this⟩ := allI_mem _ _ h.1 x hx
    unfold ok19 at this
    rw [Bool.and_eq_true] at this
    exact this.1
  · rw [if_neg c] at h; cases h

theorem has_law (x0 : List (ByteArray × List ByteArray × Unit)) (x1 : List (ByteArray × ByteArray × Int × Unit)) (n o : ByteArray) (a : Int) : g23_0 x0 x1 n o a = true ↔ (1 ≤ a ∧ a ≤ 3) ∧ ∃ x ∈ x1, x.2.1 = o ∧ a ≤ x.2.2.1 ∧ (x.1 ∈ g27_0 x0 n ∨ x.1 = n) := by
  have ha : g20_0 a = true ↔ 1 ≤ a ∧ a ≤ 3 := by
    unfold g20_0 g40_0
    by_cases c : decide (a ≥ 1) = true
    · rw [if_pos c]
      have := of_decide_eq_true c
      simp only [decide_eq_true_eq]
      omega
    · rw [if_neg c]
      have : ¬ a ≥ 1 := fun h => c (decide_eq_true h)
      constructor
      · intro h; cases h
      · intro h; omega
  unfold g23_0
  by_cases c : g20_0 a = true
  · rw [if_pos c]
    unfold g41c42_0
    rw [any60c42, List.any_eq_true]
    constructor
    · rintro ⟨x, hx, h⟩
      refine ⟨ha.1 c, x, hx, ?_⟩
      unfold g42_0 at h
      by_cases c1 : (ByteArray.toList x.2.1 == ByteArray.toList o) = true
      · rw [if_pos c1] at h
        by_cases c2 : decide (x.2.2.1 ≥ a) = true
        · rw [if_pos c2] at h
          have hm := (has27 _ _).1 h
          refine ⟨(bytes_eq _ _).1 c1, of_decide_eq_true c2, ?_⟩
          simpa using hm
        · rw [if_neg c2] at h; cases h
      · rw [if_neg c1] at h; cases h
    · rintro ⟨_, x, hx, h1, h2, h3⟩
      refine ⟨x, hx, ?_⟩
      unfold g42_0
      rw [if_pos ((bytes_eq _ _).2 h1), if_pos (decide_eq_true h2)]
      exact (has27 _ _).2 (by simpa using h3)
  · rw [if_neg c]
    constructor
    · intro h; cases h
    · intro h; exact absurd (ha.2 h.1) c

theorem has_read {x0 : List (ByteArray × List ByteArray × Unit)} {x1 : List (ByteArray × ByteArray × Int × Unit)} {n o : ByteArray} {a : Int} (h : g23_0 x0 x1 n o a = true) : g23_0 x0 x1 n o 1 = true := by
  obtain ⟨h1, x, hx, h2, h3, h4⟩ := (has_law x0 x1 n o a).1 h
  exact (has_law x0 x1 n o 1).2 ⟨by omega, x, hx, h2, by omega, h4⟩

theorem has_under {x0 : List (ByteArray × List ByteArray × Unit)} {x1 : List (ByteArray × ByteArray × Int × Unit)} {n u o : ByteArray} {a : Int} (hn : P27 x0 n) (hu : P27 x0 u) (hm : u ∈ g27_0 x0 n) (h : g23_0 x0 x1 u o a = true) : g23_0 x0 x1 n o a = true := by
  obtain ⟨h1, x, hx, h2, h3, h4⟩ := (has_law x0 x1 u o a).1 h
  refine (has_law x0 x1 n o a).2 ⟨h1, x, hx, h2, h3, .inl ?_⟩
  rcases h4 with h4 | rfl
  · exact (under_mem hn _).2 (((under_mem hn u).1 hm).trans ((under_mem hu _).1 h4))
  · exact hm

theorem inside_mem (l : List ByteArray) (n : ByteArray) : g9_0 l n = true ↔ n ∈ l := by
  unfold g9_0 is9
  rw [List.any_eq_true]
  constructor
  · rintro ⟨y, hy, h⟩
    rw [← (bytes_eq _ _).1 h]
    exact hy
  · exact fun h => ⟨n, h, (bytes_eq _ _).2 rfl⟩

end Go.Proofs.YtpellcnihifdaaaGreatDoor

/- A law that says how functions of the program and of the specification hang together. -/
set_option linter.unusedVariables false
set_option linter.unusedSimpArgs false
set_option maxRecDepth 100000
namespace Go.Proofs.YtpellcnihifdaaaGreatDoor
open Go Go.Am Go.Proofs

theorem cp_law : ∀ (l : List ByteArray) (p : ByteArray), (p :: l).Pairwise sle → (p :: cp45 p l).Pairwise (fun a b => sless a b = true) ∧ ∀ n, n ∈ p :: cp45 p l ↔ n ∈ p :: l
  | [], p, _ => by
    unfold cp45
    exact ⟨List.pairwise_singleton _ _, fun n => Iff.rfl⟩
  | y :: r, p, h => by
    obtain ⟨h1, h2⟩ := List.pairwise_cons.1 h
    unfold cp45
    by_cases c : (ByteArray.toList y == ByteArray.toList p) = true
    · rw [if_pos c]
      have e := (bytes_eq _ _).1 c
      subst e
      obtain ⟨k1, k2⟩ := cp_law r y h2
      refine ⟨k1, fun n => ?_⟩
      rw [k2 n]
      simp
    · rw [if_neg c]
      obtain ⟨k1, k2⟩ := cp_law r y h2
      have hpy : sless p y = true := by
        cases hs : sless p y with
        | true => rfl
        | false => exact absurd ((bytes_eq _ _).2 (sless_tri (h1 y (List.mem_cons_self ..)) hs)) c
      refine ⟨List.pairwise_cons.2 ⟨fun z hz => ?_, k1⟩, fun n => ?_⟩
      · rcases List.mem_cons.1 hz with rfl | hz
        · exact hpy
        · exact sless_trans hpy ((List.pairwise_cons.1 k1).1 z hz)
      · rw [List.mem_cons, k2 n]
        exact List.mem_cons.symm

theorem ob_law (x1 : List (ByteArray × ByteArray × Int × Unit)) : (ob24 x1).Pairwise (fun a b => sless a b = true) ∧ ∀ n, n ∈ ob24 x1 ↔ ∃ x ∈ x1, x.2.1 = n := by
  have hm : ∀ n, n ∈ sortB (x1.map fun x => x.2.1) ↔ ∃ x ∈ x1, x.2.1 = n := fun n => by
    rw [(sortB_perm _).mem_iff, List.mem_map]
  have hs := sortB_sorted (x1.map fun x => x.2.1)
  have e : ob24 x1 = g45_0 (sortB (x1.map fun x => x.2.1)) := rfl
  rw [e]
  generalize sortB (x1.map fun x => x.2.1) = l at *
  cases l with
  | nil => exact ⟨List.Pairwise.nil, hm⟩
  | cons y r =>
    obtain ⟨k1, k2⟩ := cp_law r y hs
    exact ⟨k1, fun n => (k2 n).trans (hm n)⟩

theorem of_mem (x0 : List (ByteArray × List ByteArray × Unit)) (x1 : List (ByteArray × ByteArray × Int × Unit)) (n o : ByteArray) (x : ByteArray × ByteArray × Int × Unit) : x ∈ of24 x0 x1 n o ↔ x.1 = n ∧ x.2.1 = o ∧ g23_0 x0 x1 n o x.2.2.1 = true := by
  have one : ∀ a, x ∈ one24 x0 x1 n o a ↔ x = (n, o, a, ()) ∧ g23_0 x0 x1 n o a = true := fun a => by
    unfold one24
    split
    · rename_i h
      simp [h]
    · rename_i h
      constructor
      · intro hh; cases hh
      · intro hh; exact absurd hh.2 h
  unfold of24
  rw [List.mem_append, List.mem_append, one, one, one]
  obtain ⟨p, q, a, u⟩ := x
  constructor
  · rintro ((⟨e, h⟩ | ⟨e, h⟩) | ⟨e, h⟩) <;> (simp only [Prod.mk.injEq, and_true] at e; obtain ⟨rfl, rfl, rfl⟩ := e; exact ⟨rfl, rfl, h⟩)
  · rintro ⟨h1, h2, h3⟩
    have h1 : p = n := h1
    have h2 : q = o := h2
    have h3 : g23_0 x0 x1 n o a = true := h3
    subst h1 h2
    obtain ⟨ha, _⟩ := (has_law x0 x1 p q a).1 h3
    have : a = 1 ∨ a = 2 ∨ a = 3 := by omega
    rcases this with rfl | rfl | rfl
    · exact .inl (.inl ⟨rfl, h3⟩)
    · exact .inl (.inr ⟨rfl, h3⟩)
    · exact .inr ⟨rfl, h3⟩

theorem rights_mem (x0 : List (ByteArray × List ByteArray × Unit)) (x1 : List (ByteArray × ByteArray × Int × Unit)) (n : ByteArray) (x : ByteArray × ByteArray × Int × Unit) : x ∈ g24_0 x0 x1 n ↔ x.1 = n ∧ (∃ y ∈ x1, y.2.1 = x.2.1) ∧ g23_0 x0 x1 n x.2.1 x.2.2.1 = true := by
  unfold g24_0
  rw [List.mem_flatMap]
  constructor
  · rintro ⟨o, ho, h⟩
    obtain ⟨h1, h2, h3⟩ := (of_mem x0 x1 n o x).1 h
    subst h2
    exact ⟨h1, ((ob_law x1).2 _).1 ho, h3⟩
  · rintro ⟨h1, h2, h3⟩
    exact ⟨x.2.1, ((ob_law x1).2 _).2 h2, (of_mem x0 x1 n x.2.1 x).2 ⟨h1, rfl, h3⟩⟩

def Ahead (a b : ByteArray × ByteArray × Int × Unit) : Prop := sless a.2.1 b.2.1 = true ∨ a.2.1 = b.2.1 ∧ a.2.2.1 < b.2.2.1

theorem rights_order (x0 : List (ByteArray × List ByteArray × Unit)) (x1 : List (ByteArray × ByteArray × Int × Unit)) (n : ByteArray) : (g24_0 x0 x1 n).Pairwise Ahead := by
  unfold g24_0
  rw [List.pairwise_flatMap]
  refine ⟨fun o _ => ?_, (ob_law x1).1.imp fun {a b} hab x hx y hy => ?_⟩
  · have one : ∀ a, one24 x0 x1 n o a = [(n, o, a, ())] ∨ one24 x0 x1 n o a = [] := fun a => by
      unfold one24
      split
      · exact .inl rfl
      · exact .inr rfl
    unfold of24
    rcases one 1 with h1 | h1 <;> rcases one 2 with h2 | h2 <;> rcases one 3 with h3 | h3 <;> rw [h1, h2, h3] <;> simp [Ahead]
  · obtain ⟨_, h2, _⟩ := (of_mem x0 x1 n a x).1 hx
    obtain ⟨_, k2, _⟩ := (of_mem x0 x1 n b y).1 hy
    exact .inl (by rw [h2, k2]; exact hab)

end Go.Proofs.YtpellcnihifdaaaGreatDoor

/- A law that says how functions of the program and of the specification hang together. -/
set_option linter.unusedVariables false
set_option linter.unusedSimpArgs false
set_option maxRecDepth 100000
namespace Go.Proofs.YtpellcnihifdaaaGreatDoor
open Go Go.Am Go.Proofs

theorem app_list (a b : ByteArray) : (a ++ b).data.toList = a.data.toList ++ b.data.toList := by
  rw [ByteArray.data_append, Array.toList_append]

theorem split_of_three {k : UInt8} {a b c : List UInt8} (ha : k ∉ a) (hb : k ∉ b) (hc : k ∉ c) : splitC k (a ++ k :: (b ++ k :: c)) = [a, b, c] := by
  rw [splitC_hit k _ ha, splitC_hit k _ hb, splitC_free k hc]

end Go.Proofs.YtpellcnihifdaaaGreatDoor

/- A law that says how functions of the program and of the specification hang together. -/
set_option linter.unusedVariables false
set_option linter.unusedSimpArgs false
set_option maxRecDepth 100000
namespace Go.Proofs.YtpellcnihifdaaaGreatDoor
open Go Go.Am Go.Proofs

theorem name_freeG {x : ByteArray} (h : g31_0 x = true) : (32 : UInt8) ∉ x.data.toList := fun hm => by
  unfold g31_0 at h
  rw [Bool.and_eq_true] at h
  obtain ⟨j, hj⟩ := allI_mem _ 0 h.2 ((32 : UInt8).toNat : Int) (List.mem_map.2 ⟨32, hm, rfl⟩)
  unfold ok31 at hj
  simp at hj

theorem name_sizeG {x : ByteArray} (h : g31_0 x = true) : x.size ≤ 10 := by
  unfold g31_0 at h
  simp only [Bool.and_eq_true, decide_eq_true_eq] at h
  omega

theorem role_name {x0 : List (ByteArray × List ByteArray × Unit)} (h : g26_0 x0 = true) {n : ByteArray} (hn : In27 x0 n) : g31_0 n = true := by
  have hm := role27 hn
  unfold g26_0 at h
  by_cases c1 : decide (x0.length ≤ 12) = true
  · rw [if_pos c1] at h
    by_cases c2 : g47_0 (nm26 x0) = true
    · obtain ⟨j, hj⟩ := allI_mem _ _ c2 n hm
      unfold ok47 at hj
      rw [Bool.and_eq_true] at hj
      exact hj.1
    · rw [if_neg c2] at h; cases h
  · rw [if_neg c1] at h; cases h

theorem act_is {v : Int} (h1 : 1 ≤ v) (h3 : v ≤ 3) : g20_0 v = true := by
  have hv : v = 1 ∨ v = 2 ∨ v = 3 := by omega
  rcases hv with rfl | rfl | rfl <;> rfl

theorem act_free {v : Int} (h1 : 1 ≤ v) (h3 : v ≤ 3) : (32 : UInt8) ∉ (g30_0 v).data.toList ∧ (g30_0 v).size ≤ 7 := by
  have hv : v = 1 ∨ v = 2 ∨ v = 3 := by omega
  rcases hv with rfl | rfl | rfl
  · exact ⟨by show (32 : UInt8) ∉ [114, 101, 97, 100]; decide, by show 4 ≤ 7; decide⟩
  · exact ⟨by show (32 : UInt8) ∉ [99, 104, 97, 110, 103, 101]; decide, by show 6 ≤ 7; decide⟩
  · exact ⟨by show (32 : UInt8) ∉ [114, 101, 108, 101, 97, 115, 101]; decide, by show 7 ≤ 7; decide⟩

theorem act_inj {v u : Int} (h1 : 1 ≤ v) (h3 : v ≤ 3) (k1 : 1 ≤ u) (k3 : u ≤ 3) : (ByteArray.toList (g30_0 u) == ByteArray.toList (g30_0 v)) = decide (u = v) := by
  have ne : u ≠ v → ¬ g30_0 u = g30_0 v := fun hne e => by
    have hv : v = 1 ∨ v = 2 ∨ v = 3 := by omega
    have hu : u = 1 ∨ u = 2 ∨ u = 3 := by omega
    have e := congrArg ByteArray.size e
    rcases hv with rfl | rfl | rfl <;> rcases hu with rfl | rfl | rfl <;> first | exact hne rfl | (revert e; decide)
  by_cases h : u = v
  · subst h
    rw [decide_eq_true rfl]
    exact (bytes_eq _ _).2 rfl
  · rw [decide_eq_false h]
    exact Bool.eq_false_iff.2 fun e => ne h ((bytes_eq _ _).1 e)

theorem grant_back {a o : ByteArray} {v : Int} (ha : g31_0 a = true) (ho : g31_0 o = true) (h1 : 1 ≤ v) (h3 : v ≤ 3) :
    P14 (a, o, v, ()) ∧ P13 (g14_0 (a, o, v, ())) ∧ g13_1 (g14_0 (a, o, v, ())) = true ∧ g13_0 (g14_0 (a, o, v, ())) = (a, o, v, ()) := by
  obtain ⟨f2, z2⟩ := act_free h1 h3
  have za := name_sizeG ha
  have zo := name_sizeG ho
  have e1 : (ByteArray.mk #[32]).size = 1 := rfl
  have nn : ∀ b : Bool, b = true → ¬ (!b) = true := fun b h => by rw [h]; decide
  have hg : g14_0 (a, o, v, ()) = a ++ ByteArray.mk #[32] ++ g30_0 v ++ ByteArray.mk #[32] ++ o := by
    unfold g14_0
    rw [if_neg (nn _ ha), if_neg (nn _ ho), if_neg (nn _ (act_is h1 h3))]
  have hp : P14 (a, o, v, ()) := by
    unfold P14
    rw [if_neg (nn _ ha), if_neg (nn _ ho), if_neg (nn _ (act_is h1 h3))]
    simp only [ByteArray.size_append, e1]
    exact ⟨by omega, act13 h1 h3, by omega, by omega, by omega, trivial⟩
  have ht : (g14_0 (a, o, v, ())).data.toList = a.data.toList ++ 32 :: ((g30_0 v).data.toList ++ 32 :: o.data.toList) := by
    rw [hg]
    simp only [app_list, List.append_assoc]
    rfl
  have hsx := split_of_three (k := 32) (name_freeG ha) f2 (name_freeG ho)
  rw [← ht] at hsx
  have hts : (g14_0 (a, o, v, ())).size ≤ 100 := by
    rw [hg]
    simp only [ByteArray.size_append, e1]
    omega
  have hsp : sp13 (g14_0 (a, o, v, ())) = [a, g30_0 v, o] := by
    have := splitB_one 32 (g14_0 (a, o, v, ()))
    rw [hsx] at this
    exact this
  have hgr : gr13 (g14_0 (a, o, v, ())) = (a, o, v, ()) := by
    have hst : ∀ u : Int, 1 ≤ u → u ≤ 3 → ∀ h : ByteArray × ByteArray × Int × Unit, st13 (g14_0 (a, o, v, ())) u h = if u = v then (h.1, h.2.1, u, ()) else h := fun u k1 k3 h => by
      unfold st13
      rw [hsp]
      show (if (ByteArray.toList (g30_0 u) == ByteArray.toList (g30_0 v)) = true then _ else _) = _
      rw [act_inj h1 h3 k1 k3]
      simp only [decide_eq_true_eq]
    unfold gr13
    rw [hst 3 (by omega) (by omega), hst 2 (by omega) (by omega), hst 1 (by omega) (by omega), hsp]
    have hv : v = 1 ∨ v = 2 ∨ v = 3 := by omega
    rcases hv with rfl | rfl | rfl
    · rw [if_neg (by decide), if_neg (by decide), if_pos rfl]; rfl
    · rw [if_neg (by decide), if_pos rfl, if_neg (by decide)]; rfl
    · rw [if_pos rfl, if_neg (by decide), if_neg (by decide)]; rfl
  have hok : ok13 (g14_0 (a, o, v, ())) = true := by
    unfold ok13
    rw [hsp, if_neg (by show ¬ ((3 : Int) != 3) = true; decide), hgr]
    exact (bytes_eq _ _).2 rfl
  refine ⟨hp, ⟨⟨by omega, Nat.le_refl 1⟩, fun _ => by rw [hgr]; exact hp⟩, hok, ?_⟩
  unfold g13_0
  rw [if_pos hok, hgr]

end Go.Proofs.YtpellcnihifdaaaGreatDoor

/- A law that says how functions of the program and of the specification hang together. -/
set_option linter.unusedVariables false
set_option linter.unusedSimpArgs false
set_option maxRecDepth 100000
namespace Go.Proofs.YtpellcnihifdaaaGreatDoor
open Go Go.Am Go.Proofs

theorem bfs_ok {x0 : List (ByteArray × List ByteArray × Unit)} (hp : ∀ r ∈ x0, ∀ n ∈ r.2.1, In27 x0 n) {x1 : ByteArray} (hx : In27 x0 x1) : ∀ (f k : Nat) (all : List ByteArray), Ok27 x0 all → Ok27 x0 (bfs27 x0 x1 f k all)
  | 0, _, _, h => h
  | f + 1, k, all, h => by
    unfold bfs27
    split
    · rename_i c
      have hm : (x1 :: all).getD k ByteArray.empty ∈ x1 :: all := mem_getD (x1 :: all) k _ (by simpa using c)
      have hin : In27 x0 ((x1 :: all).getD k ByteArray.empty) := by
        rcases List.mem_cons.1 hm with he | he
        · rw [he]; exact hx
        · exact h.2 _ he
      exact bfs_ok hp hx f (k + 1) _ (h.fold _ (unds27 hp hin))
    · exact h

theorem under_le {x0 : List (ByteArray × List ByteArray × Unit)} {x1 : ByteArray} (h : P27 x0 x1) : (g27_0 x0 x1).length ≤ x0.length ∧ ∀ n ∈ g27_0 x0 x1, In27 x0 n := by
  have ho := bfs_ok h.2.1 h.2.2 (x0.length + 2) 0 [] ⟨List.nodup_nil, fun n hn => by cases hn⟩
  unfold g27_0
  refine ⟨?_, fun n hn => ?_⟩
  · rw [(sortB_perm _).length_eq]
    exact ho.le
  · exact ho.2 n ((sortB_perm _).mem_iff.1 hn)

theorem has_pre {x0 : List (ByteArray × List ByteArray × Unit)} (h : g26_0 x0 = true) {n : ByteArray} (hn : In27 x0 n) (x1 : List (ByteArray × ByteArray × Int × Unit)) (o : ByteArray) (a : Int) : P23 x0 x1 n o a := by
  obtain ⟨h1, h2, h3, h4⟩ := roles_law h
  have hp := h3 n hn
  have := (under_le hp).1
  exact ⟨hp, by omega, trivial⟩

theorem named_zero (v : Bool) (x0 : List (ByteArray × List ByteArray × Unit)) (n : ByteArray) : (g25_0 v x0 n == 0) = true ↔ v = true ∧ In27 x0 n := by
  unfold g25_0
  cases v with
  | false =>
    rw [if_pos (show (!false) = true from rfl)]
    constructor
    · intro h; exact absurd h (by decide)
    · intro h; cases h.1
  | true =>
    rw [if_neg (show ¬ (!true) = true by decide)]
    by_cases c : decide (g46_0 x0 n < 0) = true
    · rw [if_pos c]
      constructor
      · intro h; exact absurd h (by decide)
      · intro h
        have := h.2.1
        have := of_decide_eq_true c
        omega
    · rw [if_neg c]
      have h0 : 0 ≤ g46_0 x0 n := by
        rcases Int.lt_or_le (g46_0 x0 n) 0 with h | h
        · exact absurd (decide_eq_true h) c
        · exact h
      refine ⟨fun _ => ⟨rfl, ?_⟩, fun _ => rfl⟩
      cases x0 with
      | nil => exact absurd h0 (by show ¬ (0 : Int) ≤ -1; decide)
      | cons r l => exact in26 h0 (by simp)

theorem allowed_pre {x0 : List (ByteArray × List ByteArray × Unit)} (hl : x0.length ≤ 1048576) (x1 : List (ByteArray × ByteArray × Int × Unit)) (n o : ByteArray) (a : Int) : P8 x0 x1 n o a := by
  refine ⟨hl, ?_⟩
  split
  · rename_i h
    obtain ⟨h1, h2⟩ := (named_zero _ _ _).1 h
    exact ⟨has_pre (grants_law h1).1 h2 x1 o a, trivial⟩
  · trivial

theorem allowed_is {x0 : List (ByteArray × List ByteArray × Unit)} {x1 : List (ByteArray × ByteArray × Int × Unit)} (hv : g19_0 x0 x1 = true) {n : ByteArray} (hn : In27 x0 n) (o : ByteArray) (a : Int) : g8_0 x0 x1 n o a = g23_0 x0 x1 n o a := by
  unfold g8_0
  rw [if_pos ((named_zero _ _ _).2 ⟨hv, hn⟩)]

theorem rights_pre {x0 : List (ByteArray × List ByteArray × Unit)} {x1 : List (ByteArray × ByteArray × Int × Unit)} (hv : g19_0 x0 x1 = true) {n : ByteArray} (hn : In27 x0 n) : P24 x0 x1 n := by
  obtain ⟨h1, h2, _⟩ := grants_law hv
  exact ⟨by omega, fun o a => has_pre h1 hn x1 o a⟩

theorem grant_is {x0 : List (ByteArray × List ByteArray × Unit)} {x : ByteArray × ByteArray × Int × Unit} (h : g38_0 x0 x = true) : g31_0 x.2.1 = true ∧ 1 ≤ x.2.2.1 ∧ x.2.2.1 ≤ 3 := by
  unfold g38_0 at h
  split at h
  · split at h
    · rename_i h2
      refine ⟨h2, ?_⟩
      unfold g20_0 g40_0 at h
      split at h
      · rename_i h3
        have := of_decide_eq_true h3
        have := of_decide_eq_true h
        omega
      · cases h
    · cases h
  · cases h

theorem who_mem {x0 : List (ByteArray × List ByteArray × Unit)} {x1 : List (ByteArray × ByteArray × Int × Unit)} {o : ByteArray} {a : Int} (h : (g6_1 x0 x1 o a == 0) = true) : g19_0 x0 x1 = true ∧ ∀ n, n ∈ g6_0 x0 x1 o a ↔ (∃ r ∈ x0, r.1 = n) ∧ g23_0 x0 x1 n o a = true := by
  unfold g6_1 at h
  unfold g6_0
  by_cases c : (!g19_0 x0 x1) = true
  · rw [if_pos c] at h; exact absurd h (by decide)
  · rw [if_neg c] at h ⊢
    by_cases c2 : (!g20_0 a) = true
    · rw [if_pos c2] at h; exact absurd h (by decide)
    · rw [if_neg c2]
      refine ⟨by simpa using c, fun n => ?_⟩
      unfold g21c22_0
      rw [List.mem_map]
      constructor
      · rintro ⟨r, hr, rfl⟩
        obtain ⟨h1, h2⟩ := List.mem_filter.1 hr
        exact ⟨⟨r, h1, rfl⟩, h2⟩
      · rintro ⟨⟨r, hr, rfl⟩, h2⟩
        exact ⟨r, List.mem_filter.2 ⟨hr, h2⟩, rfl⟩

theorem who_pre {x0 : List (ByteArray × List ByteArray × Unit)} (hl : x0.length ≤ 1048576) (x1 : List (ByteArray × ByteArray × Int × Unit)) (o : ByteArray) (a : Int) : P6 x0 x1 o a := by
  refine ⟨hl, ?_⟩
  split
  · trivial
  · rename_i c
    split
    · trivial
    · have hv := (grants_law (show g19_0 x0 x1 = true by simpa using c)).1
      exact ⟨⟨hl, fun r hr => ⟨has_pre hv (self26 hr) x1 o a, trivial⟩⟩, trivial⟩

theorem least_pre {x0 : List (ByteArray × List ByteArray × Unit)} (hl : x0.length ≤ 1000) (x1 : List (ByteArray × ByteArray × Int × Unit)) (o : ByteArray) (a : Int) : P7 x0 x1 o a := by
  refine ⟨who_pre (by omega) x1 o a, ?_, fun n hn => ?_⟩
  · unfold g6_0
    split
    · simp
    · split
      · simp
      · unfold g21c22_0
        rw [List.length_map]
        exact Nat.le_trans (List.length_filter_le _ _) hl
  · have hc : (g6_1 x0 x1 o a == 0) = true := by
      unfold g6_1
      unfold g6_0 at hn
      split at hn
      · cases hn
      · rename_i c1
        rw [if_neg c1]
        split at hn
        · cases hn
        · rename_i c2
          rw [if_neg c2]
          rfl
    obtain ⟨h1, h2⟩ := who_mem hc
    obtain ⟨⟨r, hr, rfl⟩, _⟩ := (h2 n).1 hn
    exact rights_pre h1 (self26 hr)

theorem least_in {x0 : List (ByteArray × List ByteArray × Unit)} {x1 : List (ByteArray × ByteArray × Int × Unit)} {o : ByteArray} {a : Int} (h : (g6_1 x0 x1 o a == 0) = true) : (g7_1 x0 x1 o a == 0) = decide ((↑(g6_0 x0 x1 o a).length : Int) > 0) ∧ ((g7_1 x0 x1 o a == 0) = true → g7_0 x0 x1 o a ∈ g6_0 x0 x1 o a) := by
  have hne : ¬ (g6_1 x0 x1 o a != 0) = true := by
    have : g6_1 x0 x1 o a = 0 := by simpa using h
    rw [this]; decide
  unfold g7_1 g7_0
  rw [if_neg hne, if_neg hne]
  generalize g6_0 x0 x1 o a = l
  cases l with
  | nil => exact ⟨rfl, fun h => absurd h (by decide)⟩
  | cons y r =>
    have hz : ¬ (((y :: r).length : Int) == 0) = true := by simp only [List.length_cons, beq_iff_eq]; omega
    rw [if_neg hz, if_neg hz]
    refine ⟨?_, fun _ => ?_⟩
    · rw [decide_eq_true (by simp only [List.length_cons]; omega)]
      rfl
    · rcases mem7 x0 x1 (y :: r) y with h | h
      · show List.foldl _ y _ ∈ _
        rw [h]; exact List.mem_cons_self ..
      · exact h

end Go.Proofs.YtpellcnihifdaaaGreatDoor
