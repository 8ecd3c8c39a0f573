/- Several texts in one: the functions that this law reaches, and their laws. -/
import Derived.Test.YtjkeinpcphkfbaaZ5A
import Derived.Test.YtjkeinpcphkfbaaZ5B
import Derived.Shelf.Strings.Builder1
import Derived.Shelf.Strings.Builder2
import Derived.Shelf.Small.Bits
import Derived.Shelf.Strings.BuilderF
import Derived.Shelf.Strings.BuilderK
import Derived.Shelf.Strings.Builder2Cap
import Derived.Shelf.Strconv.Itoa0
import Derived.Shelf.Strings.Search1
import Derived.Shelf.Strings.Search2
import Derived.Shelf.Strings.Search3
import Derived.Shelf.LaysM
import Derived.Shelf.Strings.Shaped
import Derived.Shelf.Strings.Prefix
import Derived.Shelf.Bits.Mul64
import Derived.Shelf.Strings.Repeat
import Derived.Shelf.Strings.BuilderCap
import Derived.Ground.Names2Prog
import Derived.Shelf.Slices.Clone
import Derived.Ground.SlgnProg
import Derived.Shelf.SlicesE.Clone

/- Function 76 (impl.ValidReport): its runs between cut points. Written by a program of this repo (gen). -/
set_option linter.unusedVariables false
set_option linter.unusedSimpArgs false
set_option maxRecDepth 100000
namespace Go.Proofs.Ytjkeinpcphkfbaa
open Go Go.Am Go.Proofs
def ext76 : Ext := [(109, S109c110)]
theorem call76_109 : Callable Try.prog 109 := ⟨Try.f109, Try.func109, by kernel_rfl, by kernel_rfl⟩
theorem ext76Ok : ExtOk Try.prog ext76 := ⟨⟨call76_109, con109c110⟩, trivial⟩
/-! Function 76. -/
noncomputable def b76 : Code := bodyOf Try.f76
theorem hb76 : Try.f76.body = some b76 := by kernel_rfl
def sig76 : List AT := [AT.v (Ty.sl Ty.str)]
def tys76 : List Ty := [Ty.bool]
def P76 (x0 : List ByteArray) : Prop := True
def g76_0 (x0 : List ByteArray) : Bool := (if (Decidable.decide ((↑(List.length x0) : Int) ≤ 200)) = true then !g109c110_0 x0 else Bool.false)
theorem p76_0 (x0 : List ByteArray) : runF tab ext76 false 11 [] 2000 [] tys76 Try.f76.results [true] [.code b76] (entE 0 0 sig76 (x0, ())) (entL sig76 (x0, ())) = some ([Dyn.mk Ty.bool !g109c110_0 x0], [], [Decidable.decide ((↑(List.length x0) : Int) ≤ 200) = Bool.true, True]) := by kernel_rfl
theorem p76_1 (x0 : List ByteArray) : runF tab ext76 false 11 [] 2000 [] tys76 Try.f76.results [false] [.code b76] (entE 0 0 sig76 (x0, ())) (entL sig76 (x0, ())) = some ([Dyn.mk Ty.bool Bool.false], [], [Decidable.decide ((↑(List.length x0) : Int) ≤ 200) = Bool.false]) := by kernel_rfl
theorem at76 (x0 : List ByteArray) (h : P76 x0) (w0 : World) (O : List Nat) (q : Nat → Value) : AtV Try.prog 76 (PostR [⟨Ty.bool, g76_0 x0⟩] [] [] q w0 O) 11 w0 O q [] [.code b76] (entE 0 0 sig76 (x0, ())) (entL sig76 (x0, ())) := by
  unfold P76 at h
  unfold g76_0
  by_cases b0 : (Decidable.decide ((↑(List.length x0) : Int) ≤ 200)) = true
  · try simp only [if_pos b0] at h ⊢
    exact AtV.fin Try.func76 tabOk ext76Ok mixed (p76_0 x0) ⟨b0, trivial, trivial⟩
  · try simp only [if_neg b0] at h ⊢
    replace b0 := Bool.eq_false_iff.2 b0
    exact AtV.fin Try.func76 tabOk ext76Ok mixed (p76_1 x0) ⟨b0, trivial⟩

def S76 : Am.Spec := { sig := sig76, pre := fun ⟨x0, _⟩ => P76 x0, res := fun ⟨x0, _⟩ => [⟨Ty.bool, g76_0 x0⟩] }
theorem con76 : Contract Try.prog 76 S76 := contract_of Try.func76 hb76 (Nat.le_of_ble_eq_true (by kernel_rfl)) (fun ⟨x0, _⟩ h _ w0 O q => at76 x0 h w0 O q)


end Go.Proofs.Ytjkeinpcphkfbaa

/- The contracts of the library that this program uses, laid at this program. Written by a tool of the kit. -/
set_option linter.unusedVariables false
set_option maxRecDepth 100000
namespace Go.Proofs
open Go.Shelf
def Try.lays144_ren : Go.Shelf.Ren := ⟨fun | 144 => 82 | 143 => 114 | 219 => 135 | 217 => 157 | 225 => 158 | 224 => 159 | 267 => 160 | 266 => 169 | 314 => 170 | n => n, fun | 9 => 9 | 4 => 4 | 3 => 3 | 5 => 5 | 46 => 130 | 146 => 156 | 51 => 155 | n => n, fun | 1 => 0 | n => n⟩
theorem Try.lays144 : Go.Proofs.Lays.n144 Try.prog Try.lays144_ren := {
  mixed := by kernel_rfl
  f143 := Try.func114.trans (congrArg some (by kernel_rfl))
  f144 := Try.func82.trans (congrArg some (by kernel_rfl))
  f217 := Try.func157.trans (congrArg some (by kernel_rfl))
  f219 := Try.func135.trans (congrArg some (by kernel_rfl))
  f224 := Try.func159.trans (congrArg some (by kernel_rfl))
  f225 := Try.func158.trans (congrArg some (by kernel_rfl))
  f266 := Try.func169.trans (congrArg some (by kernel_rfl))
  f267 := Try.func160.trans (congrArg some (by kernel_rfl))
  f314 := Try.func170.trans (congrArg some (by kernel_rfl))
  t3 := Try.underlying3
  a3 := Try.isAgg3
  z3 := Try.sizeOf3
  v3 := Try.zeroValue3
  t4 := Try.underlying4
  a4 := Try.isAgg4
  z4 := Try.sizeOf4
  v4 := Try.zeroValue4
  t5 := Try.underlying5
  a5 := Try.isAgg5
  z5 := Try.sizeOf5
  v5 := Try.zeroValue5
  t9 := Try.underlying9
  a9 := Try.isAgg9
  z9 := Try.sizeOf9
  v9 := Try.zeroValue9
  t46 := Try.underlying130
  a46 := Try.isAgg130
  z46 := Try.sizeOf130
  v46 := Try.zeroValue130
  t51 := Try.underlying155
  a51 := Try.isAgg155
  z51 := Try.sizeOf155
  v51 := Try.zeroValue155
  t146 := Try.underlying156
  a146 := Try.isAgg156
  z146 := Try.sizeOf156
  v146 := Try.zeroValue156
  g1 := by kernel_rfl }
open Go.RowKit Go.Lib in theorem Try.strings_Contains (s sub : ByteArray) (m : Int) (w : World) (hs : s.size < 4294967281) (hm : w.cell? ⟨0, 0, none⟩ = some (.int .i64 m)) :
    Calls Try.prog 82 #[.string s, .string sub] w fun e w' => e = .returned (.bool (Lib.contains s.data.toList sub.data.toList)) ∧ w' = w := Any.strings_Contains Try.lays144 s sub m w hs hm
def Try.lays105_ren : Go.Shelf.Ren := ⟨fun | 105 => 91 | 212 => 120 | 99 => 121 | 165 => 122 | 166 => 123 | 170 => 124 | 169 => 125 | 263 => 137 | 264 => 138 | 206 => 139 | 240 => 140 | 241 => 141 | 276 => 161 | 277 => 162 | n => n, fun | 9 => 9 | 3 => 3 | 4 => 4 | 20 => 20 | 0 => 0 | 46 => 130 | 109 => 131 | 5 => 5 | 72 => 135 | 76 => 139 | 51 => 155 | 146 => 156 | 53 => 144 | 148 => 158 | 70 => 133 | 37 => 65 | 75 => 138 | 127 => 160 | 164 => 173 | 80 => 142 | n => n, fun | n => n⟩
theorem Try.lays105 : Go.Proofs.Lays.n105 Try.prog Try.lays105_ren := {
  mixed := by kernel_rfl
  f99 := Try.func121.trans (congrArg some (by kernel_rfl))
  f105 := Try.func91.trans (congrArg some (by kernel_rfl))
  f165 := Try.func122.trans (congrArg some (by kernel_rfl))
  f166 := Try.func123.trans (congrArg some (by kernel_rfl))
  f169 := Try.func125.trans (congrArg some (by kernel_rfl))
  f170 := Try.func124.trans (congrArg some (by kernel_rfl))
  f206 := Try.func139.trans (congrArg some (by kernel_rfl))
  f212 := Try.func120.trans (congrArg some (by kernel_rfl))
  f240 := Try.func140.trans (congrArg some (by kernel_rfl))
  f241 := Try.func141.trans (congrArg some (by kernel_rfl))
  f263 := Try.func137.trans (congrArg some (by kernel_rfl))
  f264 := Try.func138.trans (congrArg some (by kernel_rfl))
  f276 := Try.func161.trans (congrArg some (by kernel_rfl))
  f277 := Try.func162.trans (congrArg some (by kernel_rfl))
  t0 := Try.underlying0
  a0 := Try.isAgg0
  z0 := Try.sizeOf0
  v0 := Try.zeroValue0
  t3 := Try.underlying3
  a3 := Try.isAgg3
  z3 := Try.sizeOf3
  v3 := Try.zeroValue3
  t4 := Try.underlying4
  a4 := Try.isAgg4
  z4 := Try.sizeOf4
  v4 := Try.zeroValue4
  t5 := Try.underlying5
  a5 := Try.isAgg5
  z5 := Try.sizeOf5
  v5 := Try.zeroValue5
  t9 := Try.underlying9
  a9 := Try.isAgg9
  z9 := Try.sizeOf9
  v9 := Try.zeroValue9
  t20 := Try.underlying20
  a20 := Try.isAgg20
  z20 := Try.sizeOf20
  v20 := Try.zeroValue20
  t37 := Try.underlying65
  a37 := Try.isAgg65
  z37 := Try.sizeOf65
  v37 := Try.zeroValue65
  t46 := Try.underlying130
  a46 := Try.isAgg130
  z46 := Try.sizeOf130
  v46 := Try.zeroValue130
  t51 := Try.underlying155
  a51 := Try.isAgg155
  z51 := Try.sizeOf155
  v51 := Try.zeroValue155
  t53 := Try.underlying144
  a53 := Try.isAgg144
  z53 := Try.sizeOf144
  v53 := Try.zeroValue144
  t70 := Try.underlying133
  a70 := Try.isAgg133
  z70 := Try.sizeOf133
  v70 := Try.zeroValue133
  t72 := Try.underlying135
  a72 := Try.isAgg135
  z72 := Try.sizeOf135
  v72 := Try.zeroValue135
  t75 := Try.underlying138
  a75 := Try.isAgg138
  z75 := Try.sizeOf138
  v75 := Try.zeroValue138
  t76 := Try.underlying139
  a76 := Try.isAgg139
  z76 := Try.sizeOf139
  v76 := Try.zeroValue139
  t109 := Try.underlying131
  a109 := Try.isAgg131
  z109 := Try.sizeOf131
  v109 := Try.zeroValue131
  t127 := Try.underlying160
  a127 := Try.isAgg160
  z127 := Try.sizeOf160
  v127 := Try.zeroValue160
  t146 := Try.underlying156
  a146 := Try.isAgg156
  z146 := Try.sizeOf156
  v146 := Try.zeroValue156
  t148 := Try.underlying158
  a148 := Try.isAgg158
  z148 := Try.sizeOf158
  v148 := Try.zeroValue158
  t164 := Try.underlying173
  a164 := Try.isAgg173
  z164 := Try.sizeOf173
  v164 := Try.zeroValue173 }
theorem Try.Builder_Extra_105 : Builder.Extra Try.prog Try.lays105_ren := {
  sizeBuilder := by kernel_rfl
  liesBuilder := by kernel_rfl
  t5 := Try.underlying5
  a5 := Try.isAgg5
  z5 := Try.sizeOf5
  v5 := Try.zeroValue5
  infoByte := by kernel_rfl
  cellsByte := by kernel_rfl
  sizeByte := by kernel_rfl
  neB5 := by decide }
open Go.RowKit Go.Lib in theorem Try.strings_Repeat (s : ByteArray) (c : Nat) (w : World) (hc : c ≤ 9223372036854775807) (hlen : s.size * c ≤ 140737488355328) :
    Calls Try.prog 91 #[.string s, .int .i64 c] w fun e w' => e = .returned (.string ⟨(Lib.repeatL s.data.toList c).toArray⟩) ∧ Below w.heap.size w w' := Any.strings_Repeat Try.lays105 Try.Builder_Extra_105 s c w hc hlen
end Go.Proofs

/- Function 82 (strings.Contains): its contract, off what is known of the library. -/
set_option linter.unusedVariables false
set_option linter.unusedSimpArgs false
set_option maxRecDepth 100000
namespace Go.Proofs.Ytjkeinpcphkfbaa
open Go Go.Am Go.Proofs

def sig82 : List AT := [AT.v Ty.str, AT.v Ty.str]
def g82_0 (x0 x1 : ByteArray) : Bool := Lib.contains x0.data.toList x1.data.toList
def P82 (x0 x1 : ByteArray) : Prop := x0.size < 4294967281
def S82 : Am.Spec := { sig := sig82, pre := fun ⟨x0, x1, _⟩ => P82 x0 x1, res := fun ⟨x0, x1, _⟩ => [⟨Ty.bool, g82_0 x0 x1⟩] }
theorem con82 : Contract Try.prog 82 S82 := contract_flat rfl fun w ⟨x0, x1, _⟩ vs bss hg hp hw ha => by
  obtain ⟨v0, s0, _, _, rfl, _, ⟨_, rfl, _⟩, v1, s1, _, _, rfl, _, ⟨_, rfl, _⟩, rfl, _⟩ := ha
  refine ⟨fun d hd => by rw [List.mem_singleton.1 hd]; exact ⟨rfl, trivial⟩, ?_⟩
  obtain ⟨m, hm⟩ := hg _ (List.mem_singleton.2 rfl)
  refine (Try.strings_Contains x0 x1 m w hp hm).mono ?_
  rintro e w' ⟨rfl, rfl⟩
  exact ⟨rfl, Kept.refl _ _⟩

end Go.Proofs.Ytjkeinpcphkfbaa

/- Function 33 (impl.FindLines): its runs between cut points. Written by a program of this repo (gen). -/
set_option linter.unusedVariables false
set_option linter.unusedSimpArgs false
set_option maxRecDepth 100000
namespace Go.Proofs.Ytjkeinpcphkfbaa
open Go Go.Am Go.Proofs
def ext33 : Ext := [(76, S76), (82, S82)]
theorem call33_76 : Callable Try.prog 76 := ⟨Try.f76, Try.func76, by kernel_rfl, by kernel_rfl⟩
theorem call33_82 : Callable Try.prog 82 := ⟨Try.f82, Try.func82, by kernel_rfl, by kernel_rfl⟩
theorem ext33Ok : ExtOk Try.prog ext33 := ⟨⟨call33_76, con76⟩, ⟨call33_82, con82⟩, trivial⟩
/-! Function 33. -/
noncomputable def b33 : Code := bodyOf Try.f33
theorem hb33 : Try.f33.body = some b33 := by kernel_rfl
def sig33 : List AT := [AT.v (Ty.sl Ty.str), AT.v (Ty.str)]
def tys33 : List Ty := [Ty.sl (Ty.int IntKind.i64), Ty.int IntKind.i64]
def E33_7 (v16 : Int) (h0 : List Int) (x1 : ByteArray) (x0 : List ByteArray) : Env := [(1, PV.a (Atom.val (Value.string x1))), (6, PV.a (Atom.osl 0 Option.none)), (14, PV.a (Atom.sl Ty.str x0)), (15, PV.a (Atom.val (Value.int IntKind.i64 (↑(List.length x0) : Int)))), (16, PV.a (Atom.val (Value.int IntKind.i64 v16)))]
def L33_7 (v16 : Int) (h0 : List Int) (x1 : ByteArray) (x0 : List ByteArray) : Heap := [Option.some (Arr.mk (Ty.int IntKind.i64) h0 Bool.false)]
mutual
def R33 : Nat → List ByteArray → ByteArray → List Dyn → Prop
  | 0, _, _, _ => False
  | n + 1, x0, x1, ds => (if (!g76_0 x0) = true then (ds = [Dyn.mk (Ty.sl (Ty.int IntKind.i64)) [], Dyn.mk (Ty.int IntKind.i64) 1]) else (if (ByteArray.toList x1 == ByteArray.toList (ByteArray.mk #[])) = true then (ds = [Dyn.mk (Ty.sl (Ty.int IntKind.i64)) [], Dyn.mk (Ty.int IntKind.i64) 2]) else (R33_7 n (0) ([]) (x1) (x0) ds)))
def R33_7 : Nat → Int → List Int → ByteArray → List ByteArray → List Dyn → Prop
  | 0, _, _, _, _, _ => False
  | n + 1, v16, h0, x1, x0, ds => (if (Decidable.decide (v16 < (↑(List.length x0) : Int))) = true then ((0 ≤ v16) ∧ (v16 < (↑(List.length x0) : Int)) ∧ ((P82 (List.getD x0 (Int.toNat v16) ByteArray.empty) x1) ∧ (if (g82_0 (List.getD x0 (Int.toNat v16) ByteArray.empty) x1) = true then (((List.length h0 + 1) * 8 ≤ 140737488355328) ∧ ((InR IntKind.i64 (v16 + 1)) ∧ (R33_7 n (v16 + 1) (h0 ++ [v16]) (x1) (x0) ds))) else ((InR IntKind.i64 (v16 + 1)) ∧ (R33_7 n (v16 + 1) (h0) (x1) (x0) ds))))) else (ds = [Dyn.mk (Ty.sl (Ty.int IntKind.i64)) h0, Dyn.mk (Ty.int IntKind.i64) 0]))
end
theorem p33_0 (x0 : List ByteArray) (x1 : ByteArray) : runF tab ext33 false 30 [] 2000 [] tys33 Try.f33.results [true] [.code b33] (entE 0 0 sig33 (x0, x1, ())) (entL sig33 (x0, x1, ())) = some ([Dyn.mk (Ty.sl (Ty.int IntKind.i64)) [], Dyn.mk (Ty.int IntKind.i64) 1], [], [True, (!g76_0 x0) = Bool.true]) := by kernel_rfl
theorem p33_1 (x0 : List ByteArray) (x1 : ByteArray) : runF tab ext33 false 30 [] 2000 [] tys33 Try.f33.results [false, true] [.code b33] (entE 0 0 sig33 (x0, x1, ())) (entL sig33 (x0, x1, ())) = some ([Dyn.mk (Ty.sl (Ty.int IntKind.i64)) [], Dyn.mk (Ty.int IntKind.i64) 2], [], [True, (!g76_0 x0) = Bool.false, (ByteArray.toList x1 == ByteArray.toList (ByteArray.mk #[])) = Bool.true]) := by kernel_rfl
theorem p33_2 (x0 : List ByteArray) (x1 : ByteArray) : Am.runN tab ext33 false 30 [] 2000 [] [(6, Ty.int IntKind.i64)] [1, 6, 14, 15, 16] [true] [false, false] [.code b33] (entE 0 0 sig33 (x0, x1, ())) (entL sig33 (x0, x1, ())) = some (cutAt b33 7, E33_7 (0) ([]) (x1) (x0), L33_7 (0) ([]) (x1) (x0), [True, (!g76_0 x0) = Bool.false, (ByteArray.toList x1 == ByteArray.toList (ByteArray.mk #[])) = Bool.false]) := by kernel_rfl
theorem p33_3 (v16 : Int) (h0 : List Int) (x1 : ByteArray) (x0 : List ByteArray) : Am.runN tab ext33 false 30 [] 2000 [] [(6, Ty.int IntKind.i64)] [1, 6, 14, 15, 16] [true] [true, true] (cutAt b33 7) (E33_7 v16 h0 x1 x0) (L33_7 v16 h0 x1 x0) = some (cutAt b33 7, E33_7 (v16 + 1) (h0 ++ [v16]) (x1) (x0), L33_7 (v16 + 1) (h0 ++ [v16]) (x1) (x0), [Decidable.decide (v16 < (↑(List.length x0) : Int)) = Bool.true, 0 ≤ v16, v16 < (↑(List.length x0) : Int), P82 (List.getD x0 (Int.toNat v16) ByteArray.empty) x1, g82_0 (List.getD x0 (Int.toNat v16) ByteArray.empty) x1 = Bool.true, (List.length h0 + 1) * 8 ≤ 140737488355328, InR IntKind.i64 (v16 + 1)]) := by kernel_rfl
theorem p33_4 (v16 : Int) (h0 : List Int) (x1 : ByteArray) (x0 : List ByteArray) : Am.runN tab ext33 false 30 [] 2000 [] [(6, Ty.int IntKind.i64)] [1, 6, 14, 15, 16] [true] [true, false] (cutAt b33 7) (E33_7 v16 h0 x1 x0) (L33_7 v16 h0 x1 x0) = some (cutAt b33 7, E33_7 (v16 + 1) (h0) (x1) (x0), L33_7 (v16 + 1) (h0) (x1) (x0), [Decidable.decide (v16 < (↑(List.length x0) : Int)) = Bool.true, 0 ≤ v16, v16 < (↑(List.length x0) : Int), P82 (List.getD x0 (Int.toNat v16) ByteArray.empty) x1, g82_0 (List.getD x0 (Int.toNat v16) ByteArray.empty) x1 = Bool.false, InR IntKind.i64 (v16 + 1)]) := by kernel_rfl
theorem p33_5 (v16 : Int) (h0 : List Int) (x1 : ByteArray) (x0 : List ByteArray) : runF tab ext33 false 30 [] 2000 [] tys33 Try.f33.results [false] (cutAt b33 7) (E33_7 v16 h0 x1 x0) (L33_7 v16 h0 x1 x0) = some ([Dyn.mk (Ty.sl (Ty.int IntKind.i64)) h0, Dyn.mk (Ty.int IntKind.i64) 0], [], [Decidable.decide (v16 < (↑(List.length x0) : Int)) = Bool.false]) := by kernel_rfl
theorem snd33 : ∀ n, (∀ (x0 : List ByteArray) (x1 : ByteArray) ds, R33 n x0 x1 ds → ∀ w0 O q, AtV Try.prog 33 (PostR ds [] [] q w0 O) 30 w0 O q [] [.code b33] (entE 0 0 sig33 (x0, x1, ())) (entL sig33 (x0, x1, ()))) ∧ (∀ (v16 : Int) (h0 : List Int) (x1 : ByteArray) (x0 : List ByteArray) ds, R33_7 n v16 h0 x1 x0 ds → ∀ w0 O q, AtV Try.prog 33 (PostR ds [] [] q w0 O) 30 w0 O q [] (cutAt b33 7) (E33_7 v16 h0 x1 x0) (L33_7 v16 h0 x1 x0)) := by
  intro n
  induction n with
  | zero => exact ⟨fun _ _ _ h => by simp only [R33] at h, fun _ _ _ _ _ h => by simp only [R33_7] at h⟩
  | succ n ih =>
  obtain ⟨ih, ih7⟩ := ih
  refine ⟨?_, ?_⟩
  · intro x0 x1 ds h w0 O q
    rw [R33] at h
    by_cases b0 : (!g76_0 x0) = true
    · rw [if_pos b0] at h
      subst h
      exact AtV.fin Try.func33 tabOk ext33Ok mixed (p33_0 x0 x1) ⟨trivial, b0, trivial⟩
    · rw [if_neg b0] at h
      replace b0 := Bool.eq_false_iff.2 b0
      by_cases b1 : (ByteArray.toList x1 == ByteArray.toList (ByteArray.mk #[])) = true
      · rw [if_pos b1] at h
        subst h
        exact AtV.fin Try.func33 tabOk ext33Ok mixed (p33_1 x0 x1) ⟨trivial, b0, b1, trivial⟩
      · rw [if_neg b1] at h
        replace b1 := Bool.eq_false_iff.2 b1
        exact AtV.runN tabOk ext33Ok mixed (p33_2 x0 x1) ⟨trivial, b0, b1, trivial⟩ (ih7 _ _ _ _ _ h w0 O q)

  · intro v16 h0 x1 x0 ds h w0 O q
    rw [R33_7] at h
    by_cases b0 : (Decidable.decide (v16 < (↑(List.length x0) : Int))) = true
    · rw [if_pos b0] at h
      obtain ⟨s0, s1, h⟩ := h
      obtain ⟨s2, h⟩ := h
      by_cases b1 : (g82_0 (List.getD x0 (Int.toNat v16) ByteArray.empty) x1) = true
      · rw [if_pos b1] at h
        obtain ⟨s3, h⟩ := h
        obtain ⟨s4, h⟩ := h
        exact AtV.runN tabOk ext33Ok mixed (p33_3 v16 h0 x1 x0) ⟨b0, s0, s1, s2, b1, s3, s4, trivial⟩ (ih7 _ _ _ _ _ h w0 O q)
      · rw [if_neg b1] at h
        replace b1 := Bool.eq_false_iff.2 b1
        obtain ⟨s3, h⟩ := h
        exact AtV.runN tabOk ext33Ok mixed (p33_4 v16 h0 x1 x0) ⟨b0, s0, s1, s2, b1, s3, trivial⟩ (ih7 _ _ _ _ _ h w0 O q)
    · rw [if_neg b0] at h
      replace b0 := Bool.eq_false_iff.2 b0
      subst h
      exact AtV.fin Try.func33 tabOk ext33Ok mixed (p33_5 v16 h0 x1 x0) ⟨b0, trivial⟩



def g33_0 (x0 : List ByteArray) (x1 : ByteArray) : List Int := if g76_0 x0 = true then (if (ByteArray.toList x1 == ByteArray.toList (ByteArray.mk #[])) = true then [] else found (fun s => g82_0 s x1) x0) else []
def g33_1 (x0 : List ByteArray) (x1 : ByteArray) : Int := if g76_0 x0 = true then (if (ByteArray.toList x1 == ByteArray.toList (ByteArray.mk #[])) = true then 2 else 0) else 1
def P33 (x0 : List ByteArray) (x1 : ByteArray) : Prop := x0.length ≤ 1048576 ∧ ∀ s ∈ x0, s.size ≤ 1048576

theorem top33 (x0 : List ByteArray) (x1 : ByteArray) (hp : P33 x0 x1) : R33 (x0.length + 1 + 1) x0 x1 [⟨.sl (.int .i64), g33_0 x0 x1⟩, ⟨.int .i64, g33_1 x0 x1⟩] := by
  rw [R33]
  unfold g33_0 g33_1
  by_cases hok : g76_0 x0 = true
  case neg =>
    have hok := Bool.eq_false_iff.2 hok
    rw [if_pos (by rw [hok]; rfl)]
    simp [hok]
  case pos =>
    rw [if_neg (by rw [hok]; simp)]
    simp only [if_pos hok]
    obtain ⟨hl, hline⟩ := hp
    have hm : x0.length ≤ maxLen := by unfold maxLen; omega
    by_cases h1 : (ByteArray.toList x1 == ByteArray.toList (ByteArray.mk #[])) = true
    · simp only [if_pos h1]
    · simp only [if_neg h1]
      refine loop_fold (b := (([], 0) : List Int × Nat)) x0 ByteArray.empty (foundStep fun s => g82_0 s x1) (fun b => [(⟨.sl (.int .i64), b.1⟩ : Dyn), ⟨.int .i64, (0 : Int)⟩]) (fun i b => b.1.length ≤ i ∧ b.2 = i) (fun n i b ds => R33_7 n i b.1 x1 x0 ds) ⟨by simp, rfl⟩ (fun n b _ => ?_) (fun n i b hi hb => ?_)
      · show R33_7 (n + 1) x0.length b.1 x1 x0 _
        rw [R33_7, if_neg (by simp)]
      · obtain ⟨hb1, hb2⟩ := hb
        have hP : P82 (x0.getD i ByteArray.empty) x1 := by have := hline _ (mem_getD x0 i ByteArray.empty hi); show (x0.getD i ByteArray.empty).size < 4294967281; omega
        simp only [foundStep]
        by_cases he : g82_0 (x0.getD i ByteArray.empty) x1 = true
        · simp only [if_pos he]
          refine ⟨⟨len_up hb1, by omega⟩, fun ds hr => ?_⟩
          rw [R33_7, if_pos (by simp; omega)]
          simp only [Int.toNat_natCast]
          refine ⟨by omega, by omega, hP, ?_⟩
          rw [if_pos he]
          rw [hb2] at hr
          exact ⟨by omega, inR_up hm hi, hr⟩
        · simp only [if_neg he]
          refine ⟨⟨by omega, by omega⟩, fun ds hr => ?_⟩
          rw [R33_7, if_pos (by simp; omega)]
          simp only [Int.toNat_natCast]
          refine ⟨by omega, by omega, hP, ?_⟩
          rw [if_neg he]
          exact ⟨inR_up hm hi, hr⟩

def S33 : Am.Spec := { sig := sig33, pre := fun ⟨x0, x1, _⟩ => P33 x0 x1, res := fun ⟨x0, x1, _⟩ => [⟨.sl (.int .i64), g33_0 x0 x1⟩, ⟨.int .i64, g33_1 x0 x1⟩] }
theorem con33 : Contract Try.prog 33 S33 := contract_of Try.func33 hb33 (Nat.le_of_ble_eq_true (by kernel_rfl)) (fun ⟨x0, x1, _⟩ h hwf w0 O q =>
  (snd33 _).1 x0 x1 _ (top33 x0 x1 h) w0 O q)

end Go.Proofs.Ytjkeinpcphkfbaa

/- Function 18 (laws.eqInt64S): its runs between cut points. Written by a program of this repo (gen). -/
set_option linter.unusedVariables false
set_option linter.unusedSimpArgs false
set_option maxRecDepth 100000
namespace Go.Proofs.Ytjkeinpcphkfbaa
open Go Go.Am Go.Proofs
def ext18 : Ext := []
theorem ext18Ok : ExtOk Try.prog ext18 := trivial
/-! Function 18. -/
noncomputable def b18 : Code := bodyOf Try.f18
theorem hb18 : Try.f18.body = some b18 := by kernel_rfl
def sig18 : List AT := [AT.v (Ty.sl (Ty.int IntKind.i64)), AT.v (Ty.sl (Ty.int IntKind.i64))]
def tys18 : List Ty := [Ty.bool]
def E18_4 (v5 : Int) (x0 : List Int) (x1 : List Int) : Env := [(0, PV.a (Atom.sl (Ty.int IntKind.i64) x0)), (1, PV.a (Atom.sl (Ty.int IntKind.i64) x1)), (5, PV.a (Atom.val (Value.int IntKind.i64 v5)))]
def L18_4 (v5 : Int) (x0 : List Int) (x1 : List Int) : Heap := []
mutual
def R18 : Nat → List Int → List Int → List Dyn → Prop
  | 0, _, _, _ => False
  | n + 1, x0, x1, ds => (if ((↑(List.length x0) : Int) != (↑(List.length x1) : Int)) = true then (ds = [Dyn.mk Ty.bool Bool.false]) else (R18_4 n (0) (x0) (x1) ds))
def R18_4 : Nat → Int → List Int → List Int → List Dyn → Prop
  | 0, _, _, _, _ => False
  | n + 1, v5, x0, x1, ds => (if (Decidable.decide (v5 < (↑(List.length x0) : Int))) = true then ((0 ≤ v5) ∧ (v5 < (↑(List.length x0) : Int)) ∧ ((0 ≤ v5) ∧ (v5 < (↑(List.length x1) : Int)) ∧ (if (List.getD x0 (Int.toNat v5) 0 != List.getD x1 (Int.toNat v5) 0) = true then (ds = [Dyn.mk Ty.bool Bool.false]) else ((InR IntKind.i64 (v5 + 1)) ∧ (R18_4 n (v5 + 1) (x0) (x1) ds))))) else (ds = [Dyn.mk Ty.bool Bool.true]))
end
theorem p18_0 (x0 : List Int) (x1 : List Int) : runF tab ext18 false 26 [] 2000 [] tys18 Try.f18.results [true] [.code b18] (entE 0 0 sig18 (x0, x1, ())) (entL sig18 (x0, x1, ())) = some ([Dyn.mk Ty.bool Bool.false], [], [((↑(List.length x0) : Int) != (↑(List.length x1) : Int)) = Bool.true]) := by kernel_rfl
theorem p18_1 (x0 : List Int) (x1 : List Int) : Am.runN tab ext18 false 26 [] 2000 [] [] [0, 1, 5] [] [false] [.code b18] (entE 0 0 sig18 (x0, x1, ())) (entL sig18 (x0, x1, ())) = some (cutAt b18 4, E18_4 (0) (x0) (x1), L18_4 (0) (x0) (x1), [((↑(List.length x0) : Int) != (↑(List.length x1) : Int)) = Bool.false]) := by kernel_rfl
theorem p18_2 (v5 : Int) (x0 : List Int) (x1 : List Int) : runF tab ext18 false 26 [] 2000 [] tys18 Try.f18.results [true, true] (cutAt b18 4) (E18_4 v5 x0 x1) (L18_4 v5 x0 x1) = some ([Dyn.mk Ty.bool Bool.false], [], [Decidable.decide (v5 < (↑(List.length x0) : Int)) = Bool.true, 0 ≤ v5, v5 < (↑(List.length x0) : Int), 0 ≤ v5, v5 < (↑(List.length x1) : Int), (List.getD x0 (Int.toNat v5) 0 != List.getD x1 (Int.toNat v5) 0) = Bool.true]) := by kernel_rfl
theorem p18_3 (v5 : Int) (x0 : List Int) (x1 : List Int) : Am.runN tab ext18 false 26 [] 2000 [] [] [0, 1, 5] [] [true, false] (cutAt b18 4) (E18_4 v5 x0 x1) (L18_4 v5 x0 x1) = some (cutAt b18 4, E18_4 (v5 + 1) (x0) (x1), L18_4 (v5 + 1) (x0) (x1), [Decidable.decide (v5 < (↑(List.length x0) : Int)) = Bool.true, 0 ≤ v5, v5 < (↑(List.length x0) : Int), 0 ≤ v5, v5 < (↑(List.length x1) : Int), (List.getD x0 (Int.toNat v5) 0 != List.getD x1 (Int.toNat v5) 0) = Bool.false, InR IntKind.i64 (v5 + 1)]) := by kernel_rfl
theorem p18_4 (v5 : Int) (x0 : List Int) (x1 : List Int) : runF tab ext18 false 26 [] 2000 [] tys18 Try.f18.results [false] (cutAt b18 4) (E18_4 v5 x0 x1) (L18_4 v5 x0 x1) = some ([Dyn.mk Ty.bool Bool.true], [], [Decidable.decide (v5 < (↑(List.length x0) : Int)) = Bool.false]) := by kernel_rfl
theorem snd18 : ∀ n, (∀ (x0 : List Int) (x1 : List Int) ds, R18 n x0 x1 ds → ∀ w0 O q, AtV Try.prog 18 (PostR ds [] [] q w0 O) 26 w0 O q [] [.code b18] (entE 0 0 sig18 (x0, x1, ())) (entL sig18 (x0, x1, ()))) ∧ (∀ (v5 : Int) (x0 : List Int) (x1 : List Int) ds, R18_4 n v5 x0 x1 ds → ∀ w0 O q, AtV Try.prog 18 (PostR ds [] [] q w0 O) 26 w0 O q [] (cutAt b18 4) (E18_4 v5 x0 x1) (L18_4 v5 x0 x1)) := by
  intro n
  induction n with
  | zero => exact ⟨fun _ _ _ h => by simp only [R18] at h, fun _ _ _ _ h => by simp only [R18_4] at h⟩
  | succ n ih =>
  obtain ⟨ih, ih4⟩ := ih
  refine ⟨?_, ?_⟩
  · intro x0 x1 ds h w0 O q
    rw [R18] at h
    by_cases b0 : ((↑(List.length x0) : Int) != (↑(List.length x1) : Int)) = true
    · rw [if_pos b0] at h
      subst h
      exact AtV.fin Try.func18 tabOk ext18Ok mixed (p18_0 x0 x1) ⟨b0, trivial⟩
    · rw [if_neg b0] at h
      replace b0 := Bool.eq_false_iff.2 b0
      exact AtV.runN tabOk ext18Ok mixed (p18_1 x0 x1) ⟨b0, trivial⟩ (ih4 _ _ _ _ h w0 O q)

  · intro v5 x0 x1 ds h w0 O q
    rw [R18_4] at h
    by_cases b0 : (Decidable.decide (v5 < (↑(List.length x0) : Int))) = true
    · rw [if_pos b0] at h
      obtain ⟨s0, s1, h⟩ := h
      obtain ⟨s2, s3, h⟩ := h
      by_cases b1 : (List.getD x0 (Int.toNat v5) 0 != List.getD x1 (Int.toNat v5) 0) = true
      · rw [if_pos b1] at h
        subst h
        exact AtV.fin Try.func18 tabOk ext18Ok mixed (p18_2 v5 x0 x1) ⟨b0, s0, s1, s2, s3, b1, trivial⟩
      · rw [if_neg b1] at h
        replace b1 := Bool.eq_false_iff.2 b1
        obtain ⟨s4, h⟩ := h
        exact AtV.runN tabOk ext18Ok mixed (p18_3 v5 x0 x1) ⟨b0, s0, s1, s2, s3, b1, s4, trivial⟩ (ih4 _ _ _ _ h w0 O q)
    · rw [if_neg b0] at h
      replace b0 := Bool.eq_false_iff.2 b0
      subst h
      exact AtV.fin Try.func18 tabOk ext18Ok mixed (p18_4 v5 x0 x1) ⟨b0, trivial⟩



theorem eq18 (x0 x1 : List (Int)) (hl : x0.length = x1.length) (hm : x0.length ≤ maxLen) : ∀ k i : Nat, i + k = x0.length → R18_4 (k + 1) (i : Int) x0 x1 [⟨.bool, decide (x0.drop i = x1.drop i)⟩] := by
  intro k
  induction k with
  | zero =>
    intro i hi
    have h1 : ¬ (i : Int) < (x0.length : Int) := by omega
    rw [R18_4, if_neg (by simpa using h1), drop_end x0 i (by omega), drop_end x1 i (by omega)]
    simp
  | succ k ih =>
    intro i hi
    have h1 : (i : Int) < (x0.length : Int) := by omega
    rw [R18_4, if_pos (by simpa using h1)]
    refine ⟨by omega, h1, by omega, by omega, ?_⟩
    simp only [Int.toNat_natCast]
    rw [drop_get x0 i 0 (by omega), drop_get x1 i 0 (by omega)]
    by_cases he : x0.getD i 0 = x1.getD i 0
    · rw [if_neg (by simp only [he, bne_self_eq_false, Bool.false_eq_true, not_false_eq_true])]
      refine ⟨inR_up hm (by omega), ?_⟩
      have := ih (i + 1) (by omega)
      simp only [he, List.cons.injEq, true_and]
      exact this
    · rw [if_pos (by simpa only [bne_iff_ne, ne_eq] using he)]
      simp only [he, List.cons.injEq, false_and, decide_false]

def g18_0 (x0 x1 : List (Int)) : Bool := decide (x0 = x1)
def P18 (x0 x1 : List (Int)) : Prop := True
def S18 : Am.Spec := { sig := sig18, pre := fun ⟨x0, x1, _⟩ => P18 x0 x1, res := fun ⟨x0, x1, _⟩ => [⟨Ty.bool, g18_0 x0 x1⟩] }
theorem con18 : Contract Try.prog 18 S18 := contract_of Try.func18 hb18 (Nat.le_of_ble_eq_true (by kernel_rfl)) (fun ⟨x0, x1, _⟩ h hwf w0 O q => by
  refine (snd18 (x0.length + 2)).1 x0 x1 _ ?_ w0 O q
  show R18 (x0.length + 1 + 1) x0 x1 [⟨Ty.bool, decide (x0 = x1)⟩]
  rw [R18]
  by_cases hl : x0.length = x1.length
  · rw [if_neg (by simp [hl])]
    have := eq18 x0 x1 hl hwf.1.1 x0.length 0 (by omega)
    simpa using this
  · rw [if_pos (by simp; omega)]
    have : x0 ≠ x1 := fun h => hl (by rw [h])
    simp [this])

end Go.Proofs.Ytjkeinpcphkfbaa

/- Function 28 (laws.eqStringS): its runs between cut points. Written by a program of this repo (gen). -/
set_option linter.unusedVariables false
set_option linter.unusedSimpArgs false
set_option maxRecDepth 100000
namespace Go.Proofs.Ytjkeinpcphkfbaa
open Go Go.Am Go.Proofs
def ext28 : Ext := []
theorem ext28Ok : ExtOk Try.prog ext28 := trivial
/-! Function 28. -/
noncomputable def b28 : Code := bodyOf Try.f28
theorem hb28 : Try.f28.body = some b28 := by kernel_rfl
def sig28 : List AT := [AT.v (Ty.sl Ty.str), AT.v (Ty.sl Ty.str)]
def tys28 : List Ty := [Ty.bool]
def E28_4 (v5 : Int) (x0 : List ByteArray) (x1 : List ByteArray) : Env := [(0, PV.a (Atom.sl Ty.str x0)), (1, PV.a (Atom.sl Ty.str x1)), (5, PV.a (Atom.val (Value.int IntKind.i64 v5)))]
def L28_4 (v5 : Int) (x0 : List ByteArray) (x1 : List ByteArray) : Heap := []
mutual
def R28 : Nat → List ByteArray → List ByteArray → List Dyn → Prop
  | 0, _, _, _ => False
  | n + 1, x0, x1, ds => (if ((↑(List.length x0) : Int) != (↑(List.length x1) : Int)) = true then (ds = [Dyn.mk Ty.bool Bool.false]) else (R28_4 n (0) (x0) (x1) ds))
def R28_4 : Nat → Int → List ByteArray → List ByteArray → List Dyn → Prop
  | 0, _, _, _, _ => False
  | n + 1, v5, x0, x1, ds => (if (Decidable.decide (v5 < (↑(List.length x0) : Int))) = true then ((0 ≤ v5) ∧ (v5 < (↑(List.length x0) : Int)) ∧ ((0 ≤ v5) ∧ (v5 < (↑(List.length x1) : Int)) ∧ (if (!ByteArray.toList (List.getD x0 (Int.toNat v5) ByteArray.empty) == ByteArray.toList (List.getD x1 (Int.toNat v5) ByteArray.empty)) = true then (ds = [Dyn.mk Ty.bool Bool.false]) else ((InR IntKind.i64 (v5 + 1)) ∧ (R28_4 n (v5 + 1) (x0) (x1) ds))))) else (ds = [Dyn.mk Ty.bool Bool.true]))
end
theorem p28_0 (x0 : List ByteArray) (x1 : List ByteArray) : runF tab ext28 false 26 [] 2000 [] tys28 Try.f28.results [true] [.code b28] (entE 0 0 sig28 (x0, x1, ())) (entL sig28 (x0, x1, ())) = some ([Dyn.mk Ty.bool Bool.false], [], [((↑(List.length x0) : Int) != (↑(List.length x1) : Int)) = Bool.true]) := by kernel_rfl
theorem p28_1 (x0 : List ByteArray) (x1 : List ByteArray) : Am.runN tab ext28 false 26 [] 2000 [] [] [0, 1, 5] [] [false] [.code b28] (entE 0 0 sig28 (x0, x1, ())) (entL sig28 (x0, x1, ())) = some (cutAt b28 4, E28_4 (0) (x0) (x1), L28_4 (0) (x0) (x1), [((↑(List.length x0) : Int) != (↑(List.length x1) : Int)) = Bool.false]) := by kernel_rfl
theorem p28_2 (v5 : Int) (x0 : List ByteArray) (x1 : List ByteArray) : runF tab ext28 false 26 [] 2000 [] tys28 Try.f28.results [true, true] (cutAt b28 4) (E28_4 v5 x0 x1) (L28_4 v5 x0 x1) = some ([Dyn.mk Ty.bool Bool.false], [], [Decidable.decide (v5 < (↑(List.length x0) : Int)) = Bool.true, 0 ≤ v5, v5 < (↑(List.length x0) : Int), 0 ≤ v5, v5 < (↑(List.length x1) : Int), (!ByteArray.toList (List.getD x0 (Int.toNat v5) ByteArray.empty) == ByteArray.toList (List.getD x1 (Int.toNat v5) ByteArray.empty)) = Bool.true]) := by kernel_rfl
theorem p28_3 (v5 : Int) (x0 : List ByteArray) (x1 : List ByteArray) : Am.runN tab ext28 false 26 [] 2000 [] [] [0, 1, 5] [] [true, false] (cutAt b28 4) (E28_4 v5 x0 x1) (L28_4 v5 x0 x1) = some (cutAt b28 4, E28_4 (v5 + 1) (x0) (x1), L28_4 (v5 + 1) (x0) (x1), [Decidable.decide (v5 < (↑(List.length x0) : Int)) = Bool.true, 0 ≤ v5, v5 < (↑(List.length x0) : Int), 0 ≤ v5, v5 < (↑(List.length x1) : Int), (!ByteArray.toList (List.getD x0 (Int.toNat v5) ByteArray.empty) == ByteArray.toList (List.getD x1 (Int.toNat v5) ByteArray.empty)) = Bool.false, InR IntKind.i64 (v5 + 1)]) := by kernel_rfl
theorem p28_4 (v5 : Int) (x0 : List ByteArray) (x1 : List ByteArray) : runF tab ext28 false 26 [] 2000 [] tys28 Try.f28.results [false] (cutAt b28 4) (E28_4 v5 x0 x1) (L28_4 v5 x0 x1) = some ([Dyn.mk Ty.bool Bool.true], [], [Decidable.decide (v5 < (↑(List.length x0) : Int)) = Bool.false]) := by kernel_rfl
theorem snd28 : ∀ n, (∀ (x0 : List ByteArray) (x1 : List ByteArray) ds, R28 n x0 x1 ds → ∀ w0 O q, AtV Try.prog 28 (PostR ds [] [] q w0 O) 26 w0 O q [] [.code b28] (entE 0 0 sig28 (x0, x1, ())) (entL sig28 (x0, x1, ()))) ∧ (∀ (v5 : Int) (x0 : List ByteArray) (x1 : List ByteArray) ds, R28_4 n v5 x0 x1 ds → ∀ w0 O q, AtV Try.prog 28 (PostR ds [] [] q w0 O) 26 w0 O q [] (cutAt b28 4) (E28_4 v5 x0 x1) (L28_4 v5 x0 x1)) := by
  intro n
  induction n with
  | zero => exact ⟨fun _ _ _ h => by simp only [R28] at h, fun _ _ _ _ h => by simp only [R28_4] at h⟩
  | succ n ih =>
  obtain ⟨ih, ih4⟩ := ih
  refine ⟨?_, ?_⟩
  · intro x0 x1 ds h w0 O q
    rw [R28] at h
    by_cases b0 : ((↑(List.length x0) : Int) != (↑(List.length x1) : Int)) = true
    · rw [if_pos b0] at h
      subst h
      exact AtV.fin Try.func28 tabOk ext28Ok mixed (p28_0 x0 x1) ⟨b0, trivial⟩
    · rw [if_neg b0] at h
      replace b0 := Bool.eq_false_iff.2 b0
      exact AtV.runN tabOk ext28Ok mixed (p28_1 x0 x1) ⟨b0, trivial⟩ (ih4 _ _ _ _ h w0 O q)

  · intro v5 x0 x1 ds h w0 O q
    rw [R28_4] at h
    by_cases b0 : (Decidable.decide (v5 < (↑(List.length x0) : Int))) = true
    · rw [if_pos b0] at h
      obtain ⟨s0, s1, h⟩ := h
      obtain ⟨s2, s3, h⟩ := h
      by_cases b1 : (!ByteArray.toList (List.getD x0 (Int.toNat v5) ByteArray.empty) == ByteArray.toList (List.getD x1 (Int.toNat v5) ByteArray.empty)) = true
      · rw [if_pos b1] at h
        subst h
        exact AtV.fin Try.func28 tabOk ext28Ok mixed (p28_2 v5 x0 x1) ⟨b0, s0, s1, s2, s3, b1, trivial⟩
      · rw [if_neg b1] at h
        replace b1 := Bool.eq_false_iff.2 b1
        obtain ⟨s4, h⟩ := h
        exact AtV.runN tabOk ext28Ok mixed (p28_3 v5 x0 x1) ⟨b0, s0, s1, s2, s3, b1, s4, trivial⟩ (ih4 _ _ _ _ h w0 O q)
    · rw [if_neg b0] at h
      replace b0 := Bool.eq_false_iff.2 b0
      subst h
      exact AtV.fin Try.func28 tabOk ext28Ok mixed (p28_4 v5 x0 x1) ⟨b0, trivial⟩



theorem eq28 (x0 x1 : List (ByteArray)) (hl : x0.length = x1.length) (hm : x0.length ≤ maxLen) : ∀ k i : Nat, i + k = x0.length → R28_4 (k + 1) (i : Int) x0 x1 [⟨.bool, decide (x0.drop i = x1.drop i)⟩] := by
  intro k
  induction k with
  | zero =>
    intro i hi
    have h1 : ¬ (i : Int) < (x0.length : Int) := by omega
    rw [R28_4, if_neg (by simpa using h1), drop_end x0 i (by omega), drop_end x1 i (by omega)]
    simp
  | succ k ih =>
    intro i hi
    have h1 : (i : Int) < (x0.length : Int) := by omega
    rw [R28_4, if_pos (by simpa using h1)]
    refine ⟨by omega, h1, by omega, by omega, ?_⟩
    simp only [Int.toNat_natCast]
    rw [drop_get x0 i ByteArray.empty (by omega), drop_get x1 i ByteArray.empty (by omega)]
    by_cases he : x0.getD i ByteArray.empty = x1.getD i ByteArray.empty
    · have hd := (bytes_eq _ _).2 he
      rw [if_neg (by rw [hd]; simp)]
      refine ⟨inR_up hm (by omega), ?_⟩
      have := ih (i + 1) (by omega)
      simp only [he, List.cons.injEq, true_and]
      exact this
    · have hd : (ByteArray.toList (x0.getD i ByteArray.empty) == ByteArray.toList (x1.getD i ByteArray.empty)) = false :=
        (bytes_ne _ _).2 he
      rw [if_pos (by rw [hd]; rfl)]
      simp only [he, List.cons.injEq, false_and, decide_false]

def g28_0 (x0 x1 : List (ByteArray)) : Bool := decide (x0 = x1)
def P28 (x0 x1 : List (ByteArray)) : Prop := True
def S28 : Am.Spec := { sig := sig28, pre := fun ⟨x0, x1, _⟩ => P28 x0 x1, res := fun ⟨x0, x1, _⟩ => [⟨Ty.bool, g28_0 x0 x1⟩] }
theorem con28 : Contract Try.prog 28 S28 := contract_of Try.func28 hb28 (Nat.le_of_ble_eq_true (by kernel_rfl)) (fun ⟨x0, x1, _⟩ h hwf w0 O q => by
  refine (snd28 (x0.length + 2)).1 x0 x1 _ ?_ w0 O q
  show R28 (x0.length + 1 + 1) x0 x1 [⟨Ty.bool, decide (x0 = x1)⟩]
  rw [R28]
  by_cases hl : x0.length = x1.length
  · rw [if_neg (by simp [hl])]
    have := eq28 x0 x1 hl hwf.1.1 x0.length 0 (by omega)
    simpa using this
  · rw [if_pos (by simp; omega)]
    have : x0 ≠ x1 := fun h => hl (by rw [h])
    simp [this])

end Go.Proofs.Ytjkeinpcphkfbaa

/- Function 72 (laws.markText): its runs between cut points. Written by a program of this repo (gen). -/
set_option linter.unusedVariables false
set_option linter.unusedSimpArgs false
set_option maxRecDepth 100000
namespace Go.Proofs.Ytjkeinpcphkfbaa
open Go Go.Am Go.Proofs
def ext72 : Ext := []
theorem ext72Ok : ExtOk Try.prog ext72 := trivial
/-! Function 72. -/
noncomputable def b72 : Code := bodyOf Try.f72
theorem hb72 : Try.f72.body = some b72 := by kernel_rfl
def sig72 : List AT := [AT.v (Ty.int IntKind.i64)]
def tys72 : List Ty := [Ty.str]
def E72_4 (v3 : ByteArray) (x0 : Int) : Env := [(0, PV.a (Atom.val (Value.int IntKind.i64 x0))), (3, PV.a (Atom.val (Value.string v3)))]
def L72_4 (v3 : ByteArray) (x0 : Int) : Heap := []
mutual
def R72 : Nat → Int → List Dyn → Prop
  | 0, _, _ => False
  | n + 1, x0, ds => (if (Decidable.decide (x0 ≤ 0)) = true then (ds = [Dyn.mk Ty.str (ByteArray.mk #[109, 48])]) else (R72_4 n (ByteArray.mk #[]) (x0) ds))
def R72_4 : Nat → ByteArray → Int → List Dyn → Prop
  | 0, _, _, _ => False
  | n + 1, v3, x0, ds => (if (Decidable.decide (x0 > 0)) = true then ((InR IntKind.i64 (Int.tmod x0 10)) ∧ ((InR IntKind.i64 (48 + Int.tmod x0 10)) ∧ ((InR IntKind.u8 (48 + Int.tmod x0 10)) ∧ ((ByteArray.size (bytesStr [48 + Int.tmod x0 10]) + ByteArray.size v3 ≤ 9223372036854775807) ∧ ((InR IntKind.i64 (Int.tdiv x0 10)) ∧ (R72_4 n (bytesStr [48 + Int.tmod x0 10] ++ v3) (Int.tdiv x0 10) ds)))))) else ((1 + ByteArray.size v3 ≤ 9223372036854775807) ∧ (ds = [Dyn.mk Ty.str (ByteArray.mk #[109] ++ v3)])))
end
theorem p72_0 (x0 : Int) : runF tab ext72 false 20 [] 2000 [] tys72 Try.f72.results [true] [.code b72] (entE 0 0 sig72 (x0, ())) (entL sig72 (x0, ())) = some ([Dyn.mk Ty.str (ByteArray.mk #[109, 48])], [], [Decidable.decide (x0 ≤ 0) = Bool.true]) := by kernel_rfl
theorem p72_1 (x0 : Int) : Am.runN tab ext72 false 20 [] 2000 [] [] [0, 3] [] [false] [.code b72] (entE 0 0 sig72 (x0, ())) (entL sig72 (x0, ())) = some (cutAt b72 4, E72_4 (ByteArray.mk #[]) (x0), L72_4 (ByteArray.mk #[]) (x0), [Decidable.decide (x0 ≤ 0) = Bool.false]) := by kernel_rfl
theorem p72_2 (v3 : ByteArray) (x0 : Int) : Am.runN tab ext72 false 20 [] 2000 [] [] [0, 3] [] [true] (cutAt b72 4) (E72_4 v3 x0) (L72_4 v3 x0) = some (cutAt b72 4, E72_4 (bytesStr [48 + Int.tmod x0 10] ++ v3) (Int.tdiv x0 10), L72_4 (bytesStr [48 + Int.tmod x0 10] ++ v3) (Int.tdiv x0 10), [Decidable.decide (x0 > 0) = Bool.true, (10 : Int) ≠ (0 : Int), InR IntKind.i64 (Int.tmod x0 10), InR IntKind.i64 (48 + Int.tmod x0 10), InR IntKind.u8 (48 + Int.tmod x0 10), ByteArray.size (bytesStr [48 + Int.tmod x0 10]) + ByteArray.size v3 ≤ 9223372036854775807, (10 : Int) ≠ (0 : Int), InR IntKind.i64 (Int.tdiv x0 10)]) := by kernel_rfl
theorem p72_3 (v3 : ByteArray) (x0 : Int) : runF tab ext72 false 20 [] 2000 [] tys72 Try.f72.results [false] (cutAt b72 4) (E72_4 v3 x0) (L72_4 v3 x0) = some ([Dyn.mk Ty.str (ByteArray.mk #[109] ++ v3)], [], [Decidable.decide (x0 > 0) = Bool.false, 1 + ByteArray.size v3 ≤ 9223372036854775807]) := by kernel_rfl
theorem snd72 : ∀ n, (∀ (x0 : Int) ds, R72 n x0 ds → ∀ w0 O q, AtV Try.prog 72 (PostR ds [] [] q w0 O) 20 w0 O q [] [.code b72] (entE 0 0 sig72 (x0, ())) (entL sig72 (x0, ()))) ∧ (∀ (v3 : ByteArray) (x0 : Int) ds, R72_4 n v3 x0 ds → ∀ w0 O q, AtV Try.prog 72 (PostR ds [] [] q w0 O) 20 w0 O q [] (cutAt b72 4) (E72_4 v3 x0) (L72_4 v3 x0)) := by
  intro n
  induction n with
  | zero => exact ⟨fun _ _ h => by simp only [R72] at h, fun _ _ _ h => by simp only [R72_4] at h⟩
  | succ n ih =>
  obtain ⟨ih, ih4⟩ := ih
  refine ⟨?_, ?_⟩
  · intro x0 ds h w0 O q
    rw [R72] at h
    by_cases b0 : (Decidable.decide (x0 ≤ 0)) = true
    · rw [if_pos b0] at h
      subst h
      exact AtV.fin Try.func72 tabOk ext72Ok mixed (p72_0 x0) ⟨b0, trivial⟩
    · rw [if_neg b0] at h
      replace b0 := Bool.eq_false_iff.2 b0
      exact AtV.runN tabOk ext72Ok mixed (p72_1 x0) ⟨b0, trivial⟩ (ih4 _ _ _ h w0 O q)

  · intro v3 x0 ds h w0 O q
    rw [R72_4] at h
    by_cases b0 : (Decidable.decide (x0 > 0)) = true
    · rw [if_pos b0] at h
      obtain ⟨s0, h⟩ := h
      obtain ⟨s1, h⟩ := h
      obtain ⟨s2, h⟩ := h
      obtain ⟨s3, h⟩ := h
      obtain ⟨s4, h⟩ := h
      exact AtV.runN tabOk ext72Ok mixed (p72_2 v3 x0) ⟨b0, (by decide), s0, s1, s2, s3, (by decide), s4, trivial⟩ (ih4 _ _ _ h w0 O q)
    · rw [if_neg b0] at h
      replace b0 := Bool.eq_false_iff.2 b0
      obtain ⟨s0, h⟩ := h
      subst h
      exact AtV.fin Try.func72 tabOk ext72Ok mixed (p72_3 v3 x0) ⟨b0, s0, trivial⟩



def loop72 : Nat → ByteArray → Int → ByteArray
  | 0, v, _ => v
  | n + 1, v, x => if 0 < x then loop72 n (bytesStr [48 + Int.tmod x 10] ++ v) (Int.tdiv x 10) else v

theorem run72 : ∀ (n : Nat) (v : ByteArray) (x : Int), x < 10 ^ n → InR .i64 x → v.size + n ≤ 1000 → R72_4 (n + 1) v x [⟨.str, ByteArray.mk #[109] ++ loop72 n v x⟩] := by
  intro n
  induction n with
  | zero =>
    intro v x h1 _ h2
    rw [R72_4, if_neg (by simp at h1 ⊢; omega)]
    exact ⟨by omega, rfl⟩
  | succ n ih =>
    intro v x h1 hi h2
    rw [i64_iff] at hi
    rw [R72_4]
    by_cases hx : 0 < x
    · rw [if_pos (by simpa using hx)]
      have e1 : Int.tmod x 10 = x % 10 := Int.tmod_eq_emod_of_nonneg (by omega)
      have e2 : Int.tdiv x 10 = x / 10 := Int.tdiv_eq_ediv_of_nonneg (by omega)
      have hs : (bytesStr [48 + Int.tmod x 10]).size = 1 := bytesStr_size _
      have hp : (10 : Int) ^ (n + 1) = 10 * 10 ^ n := by rw [Int.pow_succ, Int.mul_comm]
      refine ⟨by rw [i64_iff, e1]; omega, by rw [i64_iff, e1]; omega, by rw [u8_iff, e1]; omega, by rw [hs]; omega, by rw [i64_iff, e2]; omega, ?_⟩
      have := ih (bytesStr [48 + Int.tmod x 10] ++ v) (Int.tdiv x 10) (by rw [e2]; omega) (by rw [i64_iff, e2]; omega) (by rw [ByteArray.size_append, hs]; omega)
      simp only [loop72, if_pos hx]
      exact this
    · rw [if_neg (by simp; omega)]
      simp only [loop72, if_neg hx]
      exact ⟨by omega, trivial⟩

def g72_0 (x0 : Int) : ByteArray := if x0 ≤ 0 then ByteArray.mk #[109, 48] else ByteArray.mk #[109] ++ loop72 19 (ByteArray.mk #[]) x0
def P72 (x0 : Int) : Prop := True

theorem top72 (x0 : Int) (hi : InR .i64 x0) : R72 21 x0 [⟨.str, g72_0 x0⟩] := by
  rw [R72]
  unfold g72_0
  by_cases h : x0 ≤ 0
  · rw [if_pos (by simpa using h), if_pos h]
  · rw [if_neg (by simpa using h), if_neg h]
    have hi' := hi
    rw [i64_iff] at hi'
    exact run72 19 _ x0 (by omega) hi (by decide)

def S72 : Am.Spec := { sig := sig72, pre := fun ⟨x0, _⟩ => P72 x0, res := fun ⟨x0, _⟩ => [⟨.str, g72_0 x0⟩] }
theorem con72 : Contract Try.prog 72 S72 := contract_of Try.func72 hb72 (Nat.le_of_ble_eq_true (by kernel_rfl)) (fun ⟨x0, _⟩ h hwf w0 O q =>
  (snd72 _).1 x0 _ (top72 x0 hwf.1) w0 O q)

end Go.Proofs.Ytjkeinpcphkfbaa

/- Function 29 (laws.markStringS): its runs between cut points. Written by a program of this repo (gen). -/
set_option linter.unusedVariables false
set_option linter.unusedSimpArgs false
set_option maxRecDepth 100000
namespace Go.Proofs.Ytjkeinpcphkfbaa
open Go Go.Am Go.Proofs
def ext29 : Ext := [(72, S72)]
theorem call29_72 : Callable Try.prog 72 := ⟨Try.f72, Try.func72, by kernel_rfl, by kernel_rfl⟩
theorem ext29Ok : ExtOk Try.prog ext29 := ⟨⟨call29_72, con72⟩, trivial⟩
/-! Function 29. -/
noncomputable def b29 : Code := bodyOf Try.f29
theorem hb29 : Try.f29.body = some b29 := by kernel_rfl
def sig29 : List AT := [AT.own Ty.str, AT.v (Ty.int IntKind.i64)]
def tys29 : List Ty := [Ty.int IntKind.i64]
def E29_2 (v5 : Int) (x1 : Int) (x0 : List ByteArray) : Env := [(0, PV.a (Atom.osl 0 Option.none)), (1, PV.a (Atom.val (Value.int IntKind.i64 x1))), (5, PV.a (Atom.val (Value.int IntKind.i64 v5)))]
def L29_2 (v5 : Int) (x1 : Int) (x0 : List ByteArray) : Heap := [Option.some (Arr.mk Ty.str x0 Bool.false)]
mutual
def R29 : Nat → List ByteArray → Int → List Dyn → List (Option Lst) → Prop
  | 0, _, _, _, _ => False
  | n + 1, x0, x1, ds, us => (R29_2 n (0) (x1) (x0) ds us)
def R29_2 : Nat → Int → Int → List ByteArray → List Dyn → List (Option Lst) → Prop
  | 0, _, _, _, _, _ => False
  | n + 1, v5, x1, x0, ds, us => (if (Decidable.decide (v5 < (↑(List.length x0) : Int))) = true then ((0 ≤ v5) ∧ (v5 < (↑(List.length x0) : Int)) ∧ ((InR IntKind.i64 (x1 + 1)) ∧ ((InR IntKind.i64 (v5 + 1)) ∧ (R29_2 n (v5 + 1) (x1 + 1) (List.set x0 (Int.toNat v5) (g72_0 x1)) ds us)))) else (ds = [Dyn.mk (Ty.int IntKind.i64) x1] ∧ us = [Option.some (Lst.mk Ty.str x0)]))
end
theorem p29_0 (x0 : List ByteArray) (x1 : Int) : Am.runN tab ext29 false 20 [] 2000 [0] [] [0, 1, 5] [true] [] [.code b29] (entE 0 0 sig29 (x0, x1, ())) (entL sig29 (x0, x1, ())) = some (cutAt b29 2, E29_2 (0) (x1) (x0), L29_2 (0) (x1) (x0), []) := by kernel_rfl
theorem p29_1 (v5 : Int) (x1 : Int) (x0 : List ByteArray) : Am.runN tab ext29 false 20 [] 2000 [0] [] [0, 1, 5] [true] [true] (cutAt b29 2) (E29_2 v5 x1 x0) (L29_2 v5 x1 x0) = some (cutAt b29 2, E29_2 (v5 + 1) (x1 + 1) (List.set x0 (Int.toNat v5) (g72_0 x1)), L29_2 (v5 + 1) (x1 + 1) (List.set x0 (Int.toNat v5) (g72_0 x1)), [Decidable.decide (v5 < (↑(List.length x0) : Int)) = Bool.true, True, 0 ≤ v5, v5 < (↑(List.length x0) : Int), InR IntKind.i64 (x1 + 1), InR IntKind.i64 (v5 + 1)]) := by kernel_rfl
theorem p29_2 (v5 : Int) (x1 : Int) (x0 : List ByteArray) : runF tab ext29 false 20 [] 2000 [0] tys29 Try.f29.results [false] (cutAt b29 2) (E29_2 v5 x1 x0) (L29_2 v5 x1 x0) = some ([Dyn.mk (Ty.int IntKind.i64) x1], [Option.some (Lst.mk Ty.str x0)], [Decidable.decide (v5 < (↑(List.length x0) : Int)) = Bool.false]) := by kernel_rfl
theorem snd29 : ∀ n, (∀ (x0 : List ByteArray) (x1 : Int) ds us, R29 n x0 x1 ds us → ∀ w0 O q, AtV Try.prog 29 (PostR ds us [0] q w0 O) 20 w0 O q [0] [.code b29] (entE 0 0 sig29 (x0, x1, ())) (entL sig29 (x0, x1, ()))) ∧ (∀ (v5 : Int) (x1 : Int) (x0 : List ByteArray) ds us, R29_2 n v5 x1 x0 ds us → ∀ w0 O q, AtV Try.prog 29 (PostR ds us [0] q w0 O) 20 w0 O q [0] (cutAt b29 2) (E29_2 v5 x1 x0) (L29_2 v5 x1 x0)) := by
  intro n
  induction n with
  | zero => exact ⟨fun _ _ _ _ h => by simp only [R29] at h, fun _ _ _ _ _ h => by simp only [R29_2] at h⟩
  | succ n ih =>
  obtain ⟨ih, ih2⟩ := ih
  refine ⟨?_, ?_⟩
  · intro x0 x1 ds us h w0 O q
    rw [R29] at h
    exact AtV.runN tabOk ext29Ok mixed (p29_0 x0 x1) trivial (ih2 _ _ _ _ _ h w0 O q)

  · intro v5 x1 x0 ds us h w0 O q
    rw [R29_2] at h
    by_cases b0 : (Decidable.decide (v5 < (↑(List.length x0) : Int))) = true
    · rw [if_pos b0] at h
      obtain ⟨s0, s1, h⟩ := h
      obtain ⟨s2, h⟩ := h
      obtain ⟨s3, h⟩ := h
      exact AtV.runN tabOk ext29Ok mixed (p29_1 v5 x1 x0) ⟨b0, trivial, s0, s1, s2, s3, trivial⟩ (ih2 _ _ _ _ _ h w0 O q)
    · rw [if_neg b0] at h
      replace b0 := Bool.eq_false_iff.2 b0
      obtain ⟨h, h'⟩ := h; subst h; subst h'
      exact AtV.fin Try.func29 tabOk ext29Ok mixed (p29_2 v5 x1 x0) ⟨b0, trivial⟩



def M29 (x1 : Int) (n : Nat) : List ByteArray := (List.range n).map fun (j : Nat) => g72_0 (x1 + (j : Int))

theorem M29_len (x1 : Int) (n : Nat) : (M29 x1 n).length = n := by simp [M29]

theorem M29_step (x1 : Int) (x0 : List ByteArray) (i : Nat) (h : i < x0.length) : (M29 x1 i ++ x0.drop i).set i (g72_0 (x1 + (i : Int))) = M29 x1 (i + 1) ++ x0.drop (i + 1) := by
  rw [List.set_append_right _ _ (by rw [M29_len]; exact Nat.le_refl _), M29_len, Nat.sub_self, List.drop_eq_getElem_cons h, List.set_cons_zero]
  simp [M29, List.range_succ]

theorem run29 (x0 : List ByteArray) (x1 : Int) (hm : x0.length ≤ maxLen) (h0 : 0 ≤ x1) (h1 : x1 + x0.length ≤ 9223372036854775807) : ∀ (k i : Nat), i + k = x0.length →
    R29_2 (k + 1) (i : Int) (x1 + (i : Int)) (M29 x1 i ++ x0.drop i) [⟨.int .i64, x1 + (x0.length : Int)⟩] [some ⟨.str, M29 x1 x0.length⟩] := by
  intro k
  induction k with
  | zero =>
    intro i hi
    have hl : (M29 x1 i ++ x0.drop i).length = x0.length := by simp [M29_len]; omega
    rw [R29_2, if_neg (by rw [hl]; simp; omega), drop_end x0 i (by omega), List.append_nil]
    have : i = x0.length := by omega
    subst this
    exact ⟨rfl, rfl⟩
  | succ k ih =>
    intro i hi
    have hl : (M29 x1 i ++ x0.drop i).length = x0.length := by simp [M29_len]; omega
    rw [R29_2, if_pos (by rw [hl]; simp; omega), hl]
    simp only [Int.toNat_natCast]
    refine ⟨by omega, by omega, by rw [i64_iff]; omega, inR_up hm (by omega), ?_⟩
    rw [M29_step x1 x0 i (by omega), Int.add_assoc]
    exact ih (i + 1) (by omega)

def P29 (x0 : List ByteArray) (x1 : Int) : Prop := 0 ≤ x1 ∧ x1 + x0.length ≤ 9223372036854775807
def g29_0 (x0 : List ByteArray) (x1 : Int) : Int := x1 + (x0.length : Int)
def u29_0 (x0 : List ByteArray) (x1 : Int) : List ByteArray := M29 x1 x0.length

theorem top29 (x0 : List ByteArray) (x1 : Int) (hm : x0.length ≤ maxLen) (h : P29 x0 x1) : R29 (x0.length + 1 + 1) x0 x1 [⟨.int .i64, g29_0 x0 x1⟩] [some ⟨.str, u29_0 x0 x1⟩] := by
  rw [R29]
  have := run29 x0 x1 hm h.1 h.2 x0.length 0 (by omega)
  simpa [M29, g29_0, u29_0] using this

def S29 : Am.Spec := { sig := sig29, pre := fun ⟨x0, x1, _⟩ => P29 x0 x1, upd := fun ⟨x0, x1, _⟩ => [some ⟨.str, u29_0 x0 x1⟩], res := fun ⟨x0, x1, _⟩ => [⟨.int .i64, g29_0 x0 x1⟩] }
theorem con29 : Contract Try.prog 29 S29 := contract_of Try.func29 hb29 (Nat.le_of_ble_eq_true (by kernel_rfl)) (fun ⟨x0, x1, _⟩ h hwf w0 O q =>
  (snd29 _).1 x0 x1 _ _ (top29 x0 x1 hwf.1.1 h) w0 O q)

end Go.Proofs.Ytjkeinpcphkfbaa

/- Function 21 (laws.markInt64S): its runs between cut points. Written by a program of this repo (gen). -/
set_option linter.unusedVariables false
set_option linter.unusedSimpArgs false
set_option maxRecDepth 100000
namespace Go.Proofs.Ytjkeinpcphkfbaa
open Go Go.Am Go.Proofs
def ext21 : Ext := []
theorem ext21Ok : ExtOk Try.prog ext21 := trivial
/-! Function 21. -/
noncomputable def b21 : Code := bodyOf Try.f21
theorem hb21 : Try.f21.body = some b21 := by kernel_rfl
def sig21 : List AT := [AT.own (Ty.int IntKind.i64), AT.v (Ty.int IntKind.i64)]
def tys21 : List Ty := [Ty.int IntKind.i64]
def E21_2 (v5 : Int) (x1 : Int) (x0 : List Int) : Env := [(0, PV.a (Atom.osl 0 Option.none)), (1, PV.a (Atom.val (Value.int IntKind.i64 x1))), (5, PV.a (Atom.val (Value.int IntKind.i64 v5)))]
def L21_2 (v5 : Int) (x1 : Int) (x0 : List Int) : Heap := [Option.some (Arr.mk (Ty.int IntKind.i64) x0 Bool.false)]
mutual
def R21 : Nat → List Int → Int → List Dyn → List (Option Lst) → Prop
  | 0, _, _, _, _ => False
  | n + 1, x0, x1, ds, us => (R21_2 n (0) (x1) (x0) ds us)
def R21_2 : Nat → Int → Int → List Int → List Dyn → List (Option Lst) → Prop
  | 0, _, _, _, _, _ => False
  | n + 1, v5, x1, x0, ds, us => (if (Decidable.decide (v5 < (↑(List.length x0) : Int))) = true then ((0 ≤ v5) ∧ (v5 < (↑(List.length x0) : Int)) ∧ ((InR IntKind.i64 (x1 + 1)) ∧ ((InR IntKind.i64 (v5 + 1)) ∧ (R21_2 n (v5 + 1) (x1 + 1) (List.set x0 (Int.toNat v5) x1) ds us)))) else (ds = [Dyn.mk (Ty.int IntKind.i64) x1] ∧ us = [Option.some (Lst.mk (Ty.int IntKind.i64) x0)]))
end
theorem p21_0 (x0 : List Int) (x1 : Int) : Am.runN tab ext21 false 19 [] 2000 [0] [] [0, 1, 5] [true] [] [.code b21] (entE 0 0 sig21 (x0, x1, ())) (entL sig21 (x0, x1, ())) = some (cutAt b21 2, E21_2 (0) (x1) (x0), L21_2 (0) (x1) (x0), []) := by kernel_rfl
theorem p21_1 (v5 : Int) (x1 : Int) (x0 : List Int) : Am.runN tab ext21 false 19 [] 2000 [0] [] [0, 1, 5] [true] [true] (cutAt b21 2) (E21_2 v5 x1 x0) (L21_2 v5 x1 x0) = some (cutAt b21 2, E21_2 (v5 + 1) (x1 + 1) (List.set x0 (Int.toNat v5) x1), L21_2 (v5 + 1) (x1 + 1) (List.set x0 (Int.toNat v5) x1), [Decidable.decide (v5 < (↑(List.length x0) : Int)) = Bool.true, 0 ≤ v5, v5 < (↑(List.length x0) : Int), InR IntKind.i64 (x1 + 1), InR IntKind.i64 (v5 + 1)]) := by kernel_rfl
theorem p21_2 (v5 : Int) (x1 : Int) (x0 : List Int) : runF tab ext21 false 19 [] 2000 [0] tys21 Try.f21.results [false] (cutAt b21 2) (E21_2 v5 x1 x0) (L21_2 v5 x1 x0) = some ([Dyn.mk (Ty.int IntKind.i64) x1], [Option.some (Lst.mk (Ty.int IntKind.i64) x0)], [Decidable.decide (v5 < (↑(List.length x0) : Int)) = Bool.false]) := by kernel_rfl
theorem snd21 : ∀ n, (∀ (x0 : List Int) (x1 : Int) ds us, R21 n x0 x1 ds us → ∀ w0 O q, AtV Try.prog 21 (PostR ds us [0] q w0 O) 19 w0 O q [0] [.code b21] (entE 0 0 sig21 (x0, x1, ())) (entL sig21 (x0, x1, ()))) ∧ (∀ (v5 : Int) (x1 : Int) (x0 : List Int) ds us, R21_2 n v5 x1 x0 ds us → ∀ w0 O q, AtV Try.prog 21 (PostR ds us [0] q w0 O) 19 w0 O q [0] (cutAt b21 2) (E21_2 v5 x1 x0) (L21_2 v5 x1 x0)) := by
  intro n
  induction n with
  | zero => exact ⟨fun _ _ _ _ h => by simp only [R21] at h, fun _ _ _ _ _ h => by simp only [R21_2] at h⟩
  | succ n ih =>
  obtain ⟨ih, ih2⟩ := ih
  refine ⟨?_, ?_⟩
  · intro x0 x1 ds us h w0 O q
    rw [R21] at h
    exact AtV.runN tabOk ext21Ok mixed (p21_0 x0 x1) trivial (ih2 _ _ _ _ _ h w0 O q)

  · intro v5 x1 x0 ds us h w0 O q
    rw [R21_2] at h
    by_cases b0 : (Decidable.decide (v5 < (↑(List.length x0) : Int))) = true
    · rw [if_pos b0] at h
      obtain ⟨s0, s1, h⟩ := h
      obtain ⟨s2, h⟩ := h
      obtain ⟨s3, h⟩ := h
      exact AtV.runN tabOk ext21Ok mixed (p21_1 v5 x1 x0) ⟨b0, s0, s1, s2, s3, trivial⟩ (ih2 _ _ _ _ _ h w0 O q)
    · rw [if_neg b0] at h
      replace b0 := Bool.eq_false_iff.2 b0
      obtain ⟨h, h'⟩ := h; subst h; subst h'
      exact AtV.fin Try.func21 tabOk ext21Ok mixed (p21_2 v5 x1 x0) ⟨b0, trivial⟩



def M21 (x1 : Int) (n : Nat) : List Int := (List.range n).map fun (j : Nat) => x1 + (j : Int)

theorem M21_len (x1 : Int) (n : Nat) : (M21 x1 n).length = n := by simp [M21]

theorem M21_step (x1 : Int) (x0 : List Int) (i : Nat) (h : i < x0.length) : (M21 x1 i ++ x0.drop i).set i (x1 + (i : Int)) = M21 x1 (i + 1) ++ x0.drop (i + 1) := by
  rw [List.set_append_right _ _ (by rw [M21_len]; exact Nat.le_refl _), M21_len, Nat.sub_self, List.drop_eq_getElem_cons h, List.set_cons_zero]
  simp [M21, List.range_succ]

theorem run21 (x0 : List Int) (x1 : Int) (hm : x0.length ≤ maxLen) (h0 : 0 ≤ x1) (h1 : x1 + x0.length ≤ 9223372036854775807) : ∀ (k i : Nat), i + k = x0.length →
    R21_2 (k + 1) (i : Int) (x1 + (i : Int)) (M21 x1 i ++ x0.drop i) [⟨.int .i64, x1 + (x0.length : Int)⟩] [some ⟨.int .i64, M21 x1 x0.length⟩] := by
  intro k
  induction k with
  | zero =>
    intro i hi
    have hl : (M21 x1 i ++ x0.drop i).length = x0.length := by simp [M21_len]; omega
    rw [R21_2, if_neg (by rw [hl]; simp; omega), drop_end x0 i (by omega), List.append_nil]
    have : i = x0.length := by omega
    subst this
    exact ⟨rfl, rfl⟩
  | succ k ih =>
    intro i hi
    have hl : (M21 x1 i ++ x0.drop i).length = x0.length := by simp [M21_len]; omega
    rw [R21_2, if_pos (by rw [hl]; simp; omega), hl]
    simp only [Int.toNat_natCast]
    refine ⟨by omega, by omega, by rw [i64_iff]; omega, inR_up hm (by omega), ?_⟩
    rw [M21_step x1 x0 i (by omega), Int.add_assoc]
    exact ih (i + 1) (by omega)

def P21 (x0 : List Int) (x1 : Int) : Prop := 0 ≤ x1 ∧ x1 + x0.length ≤ 9223372036854775807
def g21_0 (x0 : List Int) (x1 : Int) : Int := x1 + (x0.length : Int)
def u21_0 (x0 : List Int) (x1 : Int) : List Int := M21 x1 x0.length

theorem top21 (x0 : List Int) (x1 : Int) (hm : x0.length ≤ maxLen) (h : P21 x0 x1) : R21 (x0.length + 1 + 1) x0 x1 [⟨.int .i64, g21_0 x0 x1⟩] [some ⟨.int .i64, u21_0 x0 x1⟩] := by
  rw [R21]
  have := run21 x0 x1 hm h.1 h.2 x0.length 0 (by omega)
  simpa [M21, g21_0, u21_0] using this

def S21 : Am.Spec := { sig := sig21, pre := fun ⟨x0, x1, _⟩ => P21 x0 x1, upd := fun ⟨x0, x1, _⟩ => [some ⟨.int .i64, u21_0 x0 x1⟩], res := fun ⟨x0, x1, _⟩ => [⟨.int .i64, g21_0 x0 x1⟩] }
theorem con21 : Contract Try.prog 21 S21 := contract_of Try.func21 hb21 (Nat.le_of_ble_eq_true (by kernel_rfl)) (fun ⟨x0, x1, _⟩ h hwf w0 O q =>
  (snd21 _).1 x0 x1 _ _ (top21 x0 x1 hwf.1.1 h) w0 O q)

end Go.Proofs.Ytjkeinpcphkfbaa

/- Function 22 (laws.heldInt64S): its runs between cut points. Written by a program of this repo (gen). -/
set_option linter.unusedVariables false
set_option linter.unusedSimpArgs false
set_option maxRecDepth 100000
namespace Go.Proofs.Ytjkeinpcphkfbaa
open Go Go.Am Go.Proofs
def ext22 : Ext := []
theorem ext22Ok : ExtOk Try.prog ext22 := trivial
/-! Function 22. -/
noncomputable def b22 : Code := bodyOf Try.f22
theorem hb22 : Try.f22.body = some b22 := by kernel_rfl
def sig22 : List AT := [AT.v (Ty.sl (Ty.int IntKind.i64)), AT.v (Ty.int IntKind.i64)]
def tys22 : List Ty := [Ty.int IntKind.i64]
def E22_2 (v5 : Int) (x0 : List Int) (x1 : Int) : Env := [(0, PV.a (Atom.sl (Ty.int IntKind.i64) x0)), (1, PV.a (Atom.val (Value.int IntKind.i64 x1))), (5, PV.a (Atom.val (Value.int IntKind.i64 v5)))]
def L22_2 (v5 : Int) (x0 : List Int) (x1 : Int) : Heap := []
mutual
def R22 : Nat → List Int → Int → List Dyn → Prop
  | 0, _, _, _ => False
  | n + 1, x0, x1, ds => (R22_2 n (0) (x0) (x1) ds)
def R22_2 : Nat → Int → List Int → Int → List Dyn → Prop
  | 0, _, _, _, _ => False
  | n + 1, v5, x0, x1, ds => (if (Decidable.decide (v5 < (↑(List.length x0) : Int))) = true then ((0 ≤ v5) ∧ (v5 < (↑(List.length x0) : Int)) ∧ (if (List.getD x0 (Int.toNat v5) 0 != x1) = true then (ds = [Dyn.mk (Ty.int IntKind.i64) (-1)]) else ((InR IntKind.i64 (x1 + 1)) ∧ ((InR IntKind.i64 (v5 + 1)) ∧ (R22_2 n (v5 + 1) (x0) (x1 + 1) ds))))) else (ds = [Dyn.mk (Ty.int IntKind.i64) x1]))
end
theorem p22_0 (x0 : List Int) (x1 : Int) : Am.runN tab ext22 false 21 [] 2000 [] [] [0, 1, 5] [] [] [.code b22] (entE 0 0 sig22 (x0, x1, ())) (entL sig22 (x0, x1, ())) = some (cutAt b22 2, E22_2 (0) (x0) (x1), L22_2 (0) (x0) (x1), []) := by kernel_rfl
theorem p22_1 (v5 : Int) (x0 : List Int) (x1 : Int) : runF tab ext22 false 21 [] 2000 [] tys22 Try.f22.results [true, true] (cutAt b22 2) (E22_2 v5 x0 x1) (L22_2 v5 x0 x1) = some ([Dyn.mk (Ty.int IntKind.i64) (-1)], [], [Decidable.decide (v5 < (↑(List.length x0) : Int)) = Bool.true, 0 ≤ v5, v5 < (↑(List.length x0) : Int), (List.getD x0 (Int.toNat v5) 0 != x1) = Bool.true]) := by kernel_rfl
theorem p22_2 (v5 : Int) (x0 : List Int) (x1 : Int) : Am.runN tab ext22 false 21 [] 2000 [] [] [0, 1, 5] [] [true, false] (cutAt b22 2) (E22_2 v5 x0 x1) (L22_2 v5 x0 x1) = some (cutAt b22 2, E22_2 (v5 + 1) (x0) (x1 + 1), L22_2 (v5 + 1) (x0) (x1 + 1), [Decidable.decide (v5 < (↑(List.length x0) : Int)) = Bool.true, 0 ≤ v5, v5 < (↑(List.length x0) : Int), (List.getD x0 (Int.toNat v5) 0 != x1) = Bool.false, InR IntKind.i64 (x1 + 1), InR IntKind.i64 (v5 + 1)]) := by kernel_rfl
theorem p22_3 (v5 : Int) (x0 : List Int) (x1 : Int) : runF tab ext22 false 21 [] 2000 [] tys22 Try.f22.results [false] (cutAt b22 2) (E22_2 v5 x0 x1) (L22_2 v5 x0 x1) = some ([Dyn.mk (Ty.int IntKind.i64) x1], [], [Decidable.decide (v5 < (↑(List.length x0) : Int)) = Bool.false]) := by kernel_rfl
theorem snd22 : ∀ n, (∀ (x0 : List Int) (x1 : Int) ds, R22 n x0 x1 ds → ∀ w0 O q, AtV Try.prog 22 (PostR ds [] [] q w0 O) 21 w0 O q [] [.code b22] (entE 0 0 sig22 (x0, x1, ())) (entL sig22 (x0, x1, ()))) ∧ (∀ (v5 : Int) (x0 : List Int) (x1 : Int) ds, R22_2 n v5 x0 x1 ds → ∀ w0 O q, AtV Try.prog 22 (PostR ds [] [] q w0 O) 21 w0 O q [] (cutAt b22 2) (E22_2 v5 x0 x1) (L22_2 v5 x0 x1)) := by
  intro n
  induction n with
  | zero => exact ⟨fun _ _ _ h => by simp only [R22] at h, fun _ _ _ _ h => by simp only [R22_2] at h⟩
  | succ n ih =>
  obtain ⟨ih, ih2⟩ := ih
  refine ⟨?_, ?_⟩
  · intro x0 x1 ds h w0 O q
    rw [R22] at h
    exact AtV.runN tabOk ext22Ok mixed (p22_0 x0 x1) trivial (ih2 _ _ _ _ h w0 O q)

  · intro v5 x0 x1 ds h w0 O q
    rw [R22_2] at h
    by_cases b0 : (Decidable.decide (v5 < (↑(List.length x0) : Int))) = true
    · rw [if_pos b0] at h
      obtain ⟨s0, s1, h⟩ := h
      by_cases b1 : (List.getD x0 (Int.toNat v5) 0 != x1) = true
      · rw [if_pos b1] at h
        subst h
        exact AtV.fin Try.func22 tabOk ext22Ok mixed (p22_1 v5 x0 x1) ⟨b0, s0, s1, b1, trivial⟩
      · rw [if_neg b1] at h
        replace b1 := Bool.eq_false_iff.2 b1
        obtain ⟨s2, h⟩ := h
        obtain ⟨s3, h⟩ := h
        exact AtV.runN tabOk ext22Ok mixed (p22_2 v5 x0 x1) ⟨b0, s0, s1, b1, s2, s3, trivial⟩ (ih2 _ _ _ _ h w0 O q)
    · rw [if_neg b0] at h
      replace b0 := Bool.eq_false_iff.2 b0
      subst h
      exact AtV.fin Try.func22 tabOk ext22Ok mixed (p22_3 v5 x0 x1) ⟨b0, trivial⟩



theorem run22 (x0 : List Int) (x1 : Int) (hm : x0.length ≤ maxLen) (h0 : 0 ≤ x1) (h1 : x1 + x0.length ≤ 9223372036854775807) (he : ∀ i : Nat, i < x0.length → x0.getD i 0 = x1 + (i : Int)) : ∀ (k i : Nat), i + k = x0.length →
    R22_2 (k + 1) (i : Int) x0 (x1 + (i : Int)) [⟨.int .i64, x1 + (x0.length : Int)⟩] := by
  intro k
  induction k with
  | zero =>
    intro i hi
    rw [R22_2, if_neg (by simp; omega)]
    have : i = x0.length := by omega
    subst this
    rfl
  | succ k ih =>
    intro i hi
    rw [R22_2, if_pos (by simp; omega)]
    simp only [Int.toNat_natCast]
    have hb := he i (by omega)
    refine ⟨by omega, by omega, ?_⟩
    rw [if_neg (by simp only [hb, bne_self_eq_false, Bool.false_eq_true, not_false_eq_true])]
    refine ⟨by rw [i64_iff]; omega, inR_up hm (by omega), ?_⟩
    rw [Int.add_assoc]
    exact ih (i + 1) (by omega)

def P22 (x0 : List Int) (x1 : Int) : Prop := (0 ≤ x1 ∧ x1 + x0.length ≤ 9223372036854775807) ∧ ∀ i : Nat, i < x0.length → x0.getD i 0 = x1 + (i : Int)
def g22_0 (x0 : List Int) (x1 : Int) : Int := x1 + (x0.length : Int)

theorem top22 (x0 : List Int) (x1 : Int) (hm : x0.length ≤ maxLen) (h : P22 x0 x1) : R22 (x0.length + 1 + 1) x0 x1 [⟨.int .i64, g22_0 x0 x1⟩] := by
  rw [R22]
  have := run22 x0 x1 hm h.1.1 h.1.2 h.2 x0.length 0 (by omega)
  simpa [g22_0] using this

def S22 : Am.Spec := { sig := sig22, pre := fun ⟨x0, x1, _⟩ => P22 x0 x1, res := fun ⟨x0, x1, _⟩ => [⟨.int .i64, g22_0 x0 x1⟩] }
theorem con22 : Contract Try.prog 22 S22 := contract_of Try.func22 hb22 (Nat.le_of_ble_eq_true (by kernel_rfl)) (fun ⟨x0, x1, _⟩ h hwf w0 O q =>
  (snd22 _).1 x0 x1 _ (top22 x0 x1 hwf.1.1 h) w0 O q)

end Go.Proofs.Ytjkeinpcphkfbaa

/- Function 5 (laws.FnExactFindLines): its runs between cut points. Written by a program of this repo (gen). -/
set_option linter.unusedVariables false
set_option linter.unusedSimpArgs false
set_option maxRecDepth 100000
namespace Go.Proofs.Ytjkeinpcphkfbaa
open Go Go.Am Go.Proofs
def ext5 : Ext := [(23, S23), (25, S25), (32, S32), (33, S33), (18, S18), (28, S28), (29, S29), (21, S21), (22, S22)]
theorem call5_23 : Callable Try.prog 23 := ⟨Try.f23, Try.func23, by kernel_rfl, by kernel_rfl⟩
theorem call5_25 : Callable Try.prog 25 := ⟨Try.f25, Try.func25, by kernel_rfl, by kernel_rfl⟩
theorem call5_32 : Callable Try.prog 32 := ⟨Try.f32, Try.func32, by kernel_rfl, by kernel_rfl⟩
theorem call5_33 : Callable Try.prog 33 := ⟨Try.f33, Try.func33, by kernel_rfl, by kernel_rfl⟩
theorem call5_18 : Callable Try.prog 18 := ⟨Try.f18, Try.func18, by kernel_rfl, by kernel_rfl⟩
theorem call5_28 : Callable Try.prog 28 := ⟨Try.f28, Try.func28, by kernel_rfl, by kernel_rfl⟩
theorem call5_29 : Callable Try.prog 29 := ⟨Try.f29, Try.func29, by kernel_rfl, by kernel_rfl⟩
theorem call5_21 : Callable Try.prog 21 := ⟨Try.f21, Try.func21, by kernel_rfl, by kernel_rfl⟩
theorem call5_22 : Callable Try.prog 22 := ⟨Try.f22, Try.func22, by kernel_rfl, by kernel_rfl⟩
theorem ext5Ok : ExtOk Try.prog ext5 := ⟨⟨call5_23, con23⟩, ⟨call5_25, con25⟩, ⟨call5_32, con32⟩, ⟨call5_33, con33⟩, ⟨call5_18, con18⟩, ⟨call5_28, con28⟩, ⟨call5_29, con29⟩, ⟨call5_21, con21⟩, ⟨call5_22, con22⟩, trivial⟩
/-! Function 5. -/
noncomputable def b5 : Code := bodyOf Try.f5
theorem hb5 : Try.f5.body = some b5 := by kernel_rfl
def sig5 : List AT := [AT.v (Ty.sl Ty.str), AT.v (Ty.str)]
def tys5 : List Ty := [Ty.bool]
def P5 (x0 : List ByteArray) (x1 : ByteArray) : Prop := (if (Decidable.decide ((↑(ByteArray.size x1) : Int) > 1048576)) = true then True else ((P23 x0 1048576) ∧ (if (Decidable.decide (g23_0 x0 1048576 < 0)) = true then True else ((P25 x0) ∧ ((P32 (g25_0 x0) x1) ∧ ((P25 x0) ∧ ((P33 (g25_0 x0) x1) ∧ (if (!g18_0 (g33_0 (g25_0 x0) x1) (g32_0 (g25_0 x0) x1)) = true then True else (if (g33_1 (g25_0 x0) x1 != g32_1 (g25_0 x0) x1) = true then True else ((P25 x0) ∧ (if (!g28_0 (g25_0 x0) (g25_0 x0)) = true then True else ((P29 (g25_0 x0) 1) ∧ (List.length (u29_0 (g25_0 x0) 1) = List.length (g25_0 x0)) ∧ (if (Decidable.decide (g29_0 (g25_0 x0) 1 < 0)) = true then True else ((P21 (g33_0 (g25_0 x0) x1) 1) ∧ (List.length (u21_0 (g33_0 (g25_0 x0) x1) 1) = List.length (g33_0 (g25_0 x0) x1)) ∧ ((P22 (u21_0 (g33_0 (g25_0 x0) x1) 1) 1) ∧ (if (Decidable.decide (g22_0 (u21_0 (g33_0 (g25_0 x0) x1) 1) 1 < 0)) = true then True else (if (g22_0 (u21_0 (g33_0 (g25_0 x0) x1) 1) 1 != g21_0 (g33_0 (g25_0 x0) x1) 1) = true then True else ((P25 x0) ∧ ((P33 (g25_0 x0) x1) ∧ ((P22 (u21_0 (g33_0 (g25_0 x0) x1) 1) 1) ∧ True))))))))))))))))))))
def g5_0 (x0 : List ByteArray) (x1 : ByteArray) : Bool := (if (Decidable.decide ((↑(ByteArray.size x1) : Int) > 1048576)) = true then Bool.true else (if (Decidable.decide (g23_0 x0 1048576 < 0)) = true then Bool.true else (if (!g18_0 (g33_0 (g25_0 x0) x1) (g32_0 (g25_0 x0) x1)) = true then Bool.false else (if (g33_1 (g25_0 x0) x1 != g32_1 (g25_0 x0) x1) = true then Bool.false else (if (!g28_0 (g25_0 x0) (g25_0 x0)) = true then Bool.false else (if (Decidable.decide (g29_0 (g25_0 x0) 1 < 0)) = true then Bool.false else (if (Decidable.decide (g22_0 (u21_0 (g33_0 (g25_0 x0) x1) 1) 1 < 0)) = true then Bool.false else (if (g22_0 (u21_0 (g33_0 (g25_0 x0) x1) 1) 1 != g21_0 (g33_0 (g25_0 x0) x1) 1) = true then Bool.false else Bool.true))))))))
theorem p5_0 (x0 : List ByteArray) (x1 : ByteArray) : runF tab ext5 false 104 [] 2000 [] tys5 Try.f5.results [true] [.code b5] (entE 0 0 sig5 (x0, x1, ())) (entL sig5 (x0, x1, ())) = some ([Dyn.mk Ty.bool Bool.true], [], [Decidable.decide ((↑(ByteArray.size x1) : Int) > 1048576) = Bool.true]) := by kernel_rfl
theorem p5_1 (x0 : List ByteArray) (x1 : ByteArray) : runF tab ext5 false 104 [] 2000 [] tys5 Try.f5.results [false, true] [.code b5] (entE 0 0 sig5 (x0, x1, ())) (entL sig5 (x0, x1, ())) = some ([Dyn.mk Ty.bool Bool.true], [], [Decidable.decide ((↑(ByteArray.size x1) : Int) > 1048576) = Bool.false, P23 x0 1048576, Decidable.decide (g23_0 x0 1048576 < 0) = Bool.true]) := by kernel_rfl
theorem p5_2 (x0 : List ByteArray) (x1 : ByteArray) : runF tab ext5 false 104 [] 2000 [] tys5 Try.f5.results [false, false, true, true] [.code b5] (entE 0 0 sig5 (x0, x1, ())) (entL sig5 (x0, x1, ())) = some ([Dyn.mk Ty.bool Bool.false], [], [Decidable.decide ((↑(ByteArray.size x1) : Int) > 1048576) = Bool.false, P23 x0 1048576, Decidable.decide (g23_0 x0 1048576 < 0) = Bool.false, P25 x0, P32 (g25_0 x0) x1, P25 x0, P33 (g25_0 x0) x1, True, (!g18_0 (g33_0 (g25_0 x0) x1) (g32_0 (g25_0 x0) x1)) = Bool.true, Bool.true = Bool.true]) := by kernel_rfl
theorem p5_3 (x0 : List ByteArray) (x1 : ByteArray) : runF tab ext5 false 104 [] 2000 [] tys5 Try.f5.results [false, false, false, true] [.code b5] (entE 0 0 sig5 (x0, x1, ())) (entL sig5 (x0, x1, ())) = some ([Dyn.mk Ty.bool Bool.false], [], [Decidable.decide ((↑(ByteArray.size x1) : Int) > 1048576) = Bool.false, P23 x0 1048576, Decidable.decide (g23_0 x0 1048576 < 0) = Bool.false, P25 x0, P32 (g25_0 x0) x1, P25 x0, P33 (g25_0 x0) x1, True, (!g18_0 (g33_0 (g25_0 x0) x1) (g32_0 (g25_0 x0) x1)) = Bool.false, (g33_1 (g25_0 x0) x1 != g32_1 (g25_0 x0) x1) = Bool.true]) := by kernel_rfl
theorem p5_4 (x0 : List ByteArray) (x1 : ByteArray) : runF tab ext5 false 104 [] 2000 [] tys5 Try.f5.results [false, false, false, false, true] [.code b5] (entE 0 0 sig5 (x0, x1, ())) (entL sig5 (x0, x1, ())) = some ([Dyn.mk Ty.bool Bool.false], [], [Decidable.decide ((↑(ByteArray.size x1) : Int) > 1048576) = Bool.false, P23 x0 1048576, Decidable.decide (g23_0 x0 1048576 < 0) = Bool.false, P25 x0, P32 (g25_0 x0) x1, P25 x0, P33 (g25_0 x0) x1, True, (!g18_0 (g33_0 (g25_0 x0) x1) (g32_0 (g25_0 x0) x1)) = Bool.false, (g33_1 (g25_0 x0) x1 != g32_1 (g25_0 x0) x1) = Bool.false, P25 x0, True, (!g28_0 (g25_0 x0) (g25_0 x0)) = Bool.true]) := by kernel_rfl
theorem p5_5 (x0 : List ByteArray) (x1 : ByteArray) : runF tab ext5 false 104 [] 2000 [] tys5 Try.f5.results [false, false, false, false, false, true, true, true] [.code b5] (entE 0 0 sig5 (x0, x1, ())) (entL sig5 (x0, x1, ())) = some ([Dyn.mk Ty.bool Bool.false], [], [Decidable.decide ((↑(ByteArray.size x1) : Int) > 1048576) = Bool.false, P23 x0 1048576, Decidable.decide (g23_0 x0 1048576 < 0) = Bool.false, P25 x0, P32 (g25_0 x0) x1, P25 x0, P33 (g25_0 x0) x1, True, (!g18_0 (g33_0 (g25_0 x0) x1) (g32_0 (g25_0 x0) x1)) = Bool.false, (g33_1 (g25_0 x0) x1 != g32_1 (g25_0 x0) x1) = Bool.false, P25 x0, True, (!g28_0 (g25_0 x0) (g25_0 x0)) = Bool.false, P29 (g25_0 x0) 1, List.length (u29_0 (g25_0 x0) 1) = List.length (g25_0 x0), Decidable.decide (g29_0 (g25_0 x0) 1 < 0) = Bool.true, Bool.true = Bool.true, Bool.true = Bool.true]) := by kernel_rfl
theorem p5_6 (x0 : List ByteArray) (x1 : ByteArray) : runF tab ext5 false 104 [] 2000 [] tys5 Try.f5.results [false, false, false, false, false, false, false, false, true] [.code b5] (entE 0 0 sig5 (x0, x1, ())) (entL sig5 (x0, x1, ())) = some ([Dyn.mk Ty.bool Bool.false], [], [Decidable.decide ((↑(ByteArray.size x1) : Int) > 1048576) = Bool.false, P23 x0 1048576, Decidable.decide (g23_0 x0 1048576 < 0) = Bool.false, P25 x0, P32 (g25_0 x0) x1, P25 x0, P33 (g25_0 x0) x1, True, (!g18_0 (g33_0 (g25_0 x0) x1) (g32_0 (g25_0 x0) x1)) = Bool.false, (g33_1 (g25_0 x0) x1 != g32_1 (g25_0 x0) x1) = Bool.false, P25 x0, True, (!g28_0 (g25_0 x0) (g25_0 x0)) = Bool.false, P29 (g25_0 x0) 1, List.length (u29_0 (g25_0 x0) 1) = List.length (g25_0 x0), Decidable.decide (g29_0 (g25_0 x0) 1 < 0) = Bool.false, True, (!g18_0 (g33_0 (g25_0 x0) x1) (g32_0 (g25_0 x0) x1)) = Bool.false, (g33_1 (g25_0 x0) x1 != g32_1 (g25_0 x0) x1) = Bool.false, P21 (g33_0 (g25_0 x0) x1) 1, List.length (u21_0 (g33_0 (g25_0 x0) x1) 1) = List.length (g33_0 (g25_0 x0) x1), P22 (u21_0 (g33_0 (g25_0 x0) x1) 1) 1, Decidable.decide (g22_0 (u21_0 (g33_0 (g25_0 x0) x1) 1) 1 < 0) = Bool.true]) := by kernel_rfl
theorem p5_7 (x0 : List ByteArray) (x1 : ByteArray) : runF tab ext5 false 104 [] 2000 [] tys5 Try.f5.results [false, false, false, false, false, false, false, false, false, true] [.code b5] (entE 0 0 sig5 (x0, x1, ())) (entL sig5 (x0, x1, ())) = some ([Dyn.mk Ty.bool Bool.false], [], [Decidable.decide ((↑(ByteArray.size x1) : Int) > 1048576) = Bool.false, P23 x0 1048576, Decidable.decide (g23_0 x0 1048576 < 0) = Bool.false, P25 x0, P32 (g25_0 x0) x1, P25 x0, P33 (g25_0 x0) x1, True, (!g18_0 (g33_0 (g25_0 x0) x1) (g32_0 (g25_0 x0) x1)) = Bool.false, (g33_1 (g25_0 x0) x1 != g32_1 (g25_0 x0) x1) = Bool.false, P25 x0, True, (!g28_0 (g25_0 x0) (g25_0 x0)) = Bool.false, P29 (g25_0 x0) 1, List.length (u29_0 (g25_0 x0) 1) = List.length (g25_0 x0), Decidable.decide (g29_0 (g25_0 x0) 1 < 0) = Bool.false, True, (!g18_0 (g33_0 (g25_0 x0) x1) (g32_0 (g25_0 x0) x1)) = Bool.false, (g33_1 (g25_0 x0) x1 != g32_1 (g25_0 x0) x1) = Bool.false, P21 (g33_0 (g25_0 x0) x1) 1, List.length (u21_0 (g33_0 (g25_0 x0) x1) 1) = List.length (g33_0 (g25_0 x0) x1), P22 (u21_0 (g33_0 (g25_0 x0) x1) 1) 1, Decidable.decide (g22_0 (u21_0 (g33_0 (g25_0 x0) x1) 1) 1 < 0) = Bool.false, (g22_0 (u21_0 (g33_0 (g25_0 x0) x1) 1) 1 != g21_0 (g33_0 (g25_0 x0) x1) 1) = Bool.true]) := by kernel_rfl
theorem p5_8 (x0 : List ByteArray) (x1 : ByteArray) : runF tab ext5 false 104 [] 2000 [] tys5 Try.f5.results [false, false, false, false, false, false, false, false, false, false, false, false, false, false] [.code b5] (entE 0 0 sig5 (x0, x1, ())) (entL sig5 (x0, x1, ())) = some ([Dyn.mk Ty.bool Bool.true], [], [Decidable.decide ((↑(ByteArray.size x1) : Int) > 1048576) = Bool.false, P23 x0 1048576, Decidable.decide (g23_0 x0 1048576 < 0) = Bool.false, P25 x0, P32 (g25_0 x0) x1, P25 x0, P33 (g25_0 x0) x1, True, (!g18_0 (g33_0 (g25_0 x0) x1) (g32_0 (g25_0 x0) x1)) = Bool.false, (g33_1 (g25_0 x0) x1 != g32_1 (g25_0 x0) x1) = Bool.false, P25 x0, True, (!g28_0 (g25_0 x0) (g25_0 x0)) = Bool.false, P29 (g25_0 x0) 1, List.length (u29_0 (g25_0 x0) 1) = List.length (g25_0 x0), Decidable.decide (g29_0 (g25_0 x0) 1 < 0) = Bool.false, True, (!g18_0 (g33_0 (g25_0 x0) x1) (g32_0 (g25_0 x0) x1)) = Bool.false, (g33_1 (g25_0 x0) x1 != g32_1 (g25_0 x0) x1) = Bool.false, P21 (g33_0 (g25_0 x0) x1) 1, List.length (u21_0 (g33_0 (g25_0 x0) x1) 1) = List.length (g33_0 (g25_0 x0) x1), P22 (u21_0 (g33_0 (g25_0 x0) x1) 1) 1, Decidable.decide (g22_0 (u21_0 (g33_0 (g25_0 x0) x1) 1) 1 < 0) = Bool.false, (g22_0 (u21_0 (g33_0 (g25_0 x0) x1) 1) 1 != g21_0 (g33_0 (g25_0 x0) x1) 1) = Bool.false, P25 x0, P33 (g25_0 x0) x1, True, (!g18_0 (g33_0 (g25_0 x0) x1) (g32_0 (g25_0 x0) x1)) = Bool.false, (g33_1 (g25_0 x0) x1 != g32_1 (g25_0 x0) x1) = Bool.false, P22 (u21_0 (g33_0 (g25_0 x0) x1) 1) 1, Decidable.decide (g22_0 (u21_0 (g33_0 (g25_0 x0) x1) 1) 1 < 0) = Bool.false, (g22_0 (u21_0 (g33_0 (g25_0 x0) x1) 1) 1 != g21_0 (g33_0 (g25_0 x0) x1) 1) = Bool.false]) := by kernel_rfl
theorem at5 (x0 : List ByteArray) (x1 : ByteArray) (h : P5 x0 x1) (w0 : World) (O : List Nat) (q : Nat → Value) : AtV Try.prog 5 (PostR [⟨Ty.bool, g5_0 x0 x1⟩] [] [] q w0 O) 104 w0 O q [] [.code b5] (entE 0 0 sig5 (x0, x1, ())) (entL sig5 (x0, x1, ())) := by
  unfold P5 at h
  unfold g5_0
  by_cases b0 : (Decidable.decide ((↑(ByteArray.size x1) : Int) > 1048576)) = true
  · try simp only [if_pos b0] at h ⊢
    exact AtV.fin Try.func5 tabOk ext5Ok mixed (p5_0 x0 x1) ⟨b0, trivial⟩
  · try simp only [if_neg b0] at h ⊢
    replace b0 := Bool.eq_false_iff.2 b0
    obtain ⟨s0, h⟩ := h
    by_cases b1 : (Decidable.decide (g23_0 x0 1048576 < 0)) = true
    · try simp only [if_pos b1] at h ⊢
      exact AtV.fin Try.func5 tabOk ext5Ok mixed (p5_1 x0 x1) ⟨b0, s0, b1, trivial⟩
    · try simp only [if_neg b1] at h ⊢
      replace b1 := Bool.eq_false_iff.2 b1
      obtain ⟨s1, h⟩ := h
      obtain ⟨s2, h⟩ := h
      obtain ⟨s3, h⟩ := h
      obtain ⟨s4, h⟩ := h
      by_cases b2 : (!g18_0 (g33_0 (g25_0 x0) x1) (g32_0 (g25_0 x0) x1)) = true
      · try simp only [if_pos b2] at h ⊢
        exact AtV.fin Try.func5 tabOk ext5Ok mixed (p5_2 x0 x1) ⟨b0, s0, b1, s1, s2, s3, s4, trivial, b2, rfl, trivial⟩
      · try simp only [if_neg b2] at h ⊢
        replace b2 := Bool.eq_false_iff.2 b2
        by_cases b3 : (g33_1 (g25_0 x0) x1 != g32_1 (g25_0 x0) x1) = true
        · try simp only [if_pos b3] at h ⊢
          exact AtV.fin Try.func5 tabOk ext5Ok mixed (p5_3 x0 x1) ⟨b0, s0, b1, s1, s2, s3, s4, trivial, b2, b3, trivial⟩
        · try simp only [if_neg b3] at h ⊢
          replace b3 := Bool.eq_false_iff.2 b3
          obtain ⟨s5, h⟩ := h
          by_cases b4 : (!g28_0 (g25_0 x0) (g25_0 x0)) = true
          · try simp only [if_pos b4] at h ⊢
            exact AtV.fin Try.func5 tabOk ext5Ok mixed (p5_4 x0 x1) ⟨b0, s0, b1, s1, s2, s3, s4, trivial, b2, b3, s5, trivial, b4, trivial⟩
          · try simp only [if_neg b4] at h ⊢
            replace b4 := Bool.eq_false_iff.2 b4
            obtain ⟨s6, s7, h⟩ := h
            by_cases b5 : (Decidable.decide (g29_0 (g25_0 x0) 1 < 0)) = true
            · try simp only [if_pos b5] at h ⊢
              exact AtV.fin Try.func5 tabOk ext5Ok mixed (p5_5 x0 x1) ⟨b0, s0, b1, s1, s2, s3, s4, trivial, b2, b3, s5, trivial, b4, s6, s7, b5, rfl, rfl, trivial⟩
            · try simp only [if_neg b5] at h ⊢
              replace b5 := Bool.eq_false_iff.2 b5
              obtain ⟨s8, s9, h⟩ := h
              obtain ⟨s10, h⟩ := h
              by_cases b6 : (Decidable.decide (g22_0 (u21_0 (g33_0 (g25_0 x0) x1) 1) 1 < 0)) = true
              · try simp only [if_pos b6] at h ⊢
                exact AtV.fin Try.func5 tabOk ext5Ok mixed (p5_6 x0 x1) ⟨b0, s0, b1, s1, s2, s3, s4, trivial, b2, b3, s5, trivial, b4, s6, s7, b5, trivial, b2, b3, s8, s9, s10, b6, trivial⟩
              · try simp only [if_neg b6] at h ⊢
                replace b6 := Bool.eq_false_iff.2 b6
                by_cases b7 : (g22_0 (u21_0 (g33_0 (g25_0 x0) x1) 1) 1 != g21_0 (g33_0 (g25_0 x0) x1) 1) = true
                · try simp only [if_pos b7] at h ⊢
                  exact AtV.fin Try.func5 tabOk ext5Ok mixed (p5_7 x0 x1) ⟨b0, s0, b1, s1, s2, s3, s4, trivial, b2, b3, s5, trivial, b4, s6, s7, b5, trivial, b2, b3, s8, s9, s10, b6, b7, trivial⟩
                · try simp only [if_neg b7] at h ⊢
                  replace b7 := Bool.eq_false_iff.2 b7
                  obtain ⟨s11, h⟩ := h
                  obtain ⟨s12, h⟩ := h
                  obtain ⟨s13, h⟩ := h
                  exact AtV.fin Try.func5 tabOk ext5Ok mixed (p5_8 x0 x1) ⟨b0, s0, b1, s1, s2, s3, s4, trivial, b2, b3, s5, trivial, b4, s6, s7, b5, trivial, b2, b3, s8, s9, s10, b6, b7, s11, s12, trivial, b2, b3, s13, b6, b7, trivial⟩

def S5 : Am.Spec := { sig := sig5, pre := fun ⟨x0, x1, _⟩ => P5 x0 x1, res := fun ⟨x0, x1, _⟩ => [⟨Ty.bool, g5_0 x0 x1⟩] }
theorem con5 : Contract Try.prog 5 S5 := contract_of Try.func5 hb5 (Nat.le_of_ble_eq_true (by kernel_rfl)) (fun ⟨x0, x1, _⟩ h _ w0 O q => at5 x0 x1 h w0 O q)


end Go.Proofs.Ytjkeinpcphkfbaa

/- A law that says how functions of the program and of the specification hang together. -/
set_option linter.unusedVariables false
set_option linter.unusedSimpArgs false
set_option maxRecDepth 100000
namespace Go.Proofs.Ytjkeinpcphkfbaa
open Go Go.Am Go.Proofs

theorem reportLine (s : ByteArray) : g78_0 s = g75_0 s := by
  unfold g78_0 g111c112_0 g75_0
  rw [any134c112]
  have hq : (!(bytesOf s).any g112_0) = (bytesOf s).all ok75 := by
    rw [List.not_any_eq_all_not]
    congr 1
    funext b
    simp only [g112_0, ok75]
    by_cases h1 : b < 32 <;> by_cases h2 : b > 126 <;> simp [h1, h2] <;> omega
  rw [hq]
  by_cases h : ((s.size : Nat) : Int) ≤ 100
  · have h' : s.size ≤ 100 := by omega
    simp [h, h']
  · have h' : ¬ s.size ≤ 100 := by omega
    simp [h, h']

theorem report (x : List ByteArray) : g76_0 x = g73_0 x := by
  unfold g76_0 g73_0 g109c110_0
  rw [any133c110]
  have hq : (!x.any g110_0) = x.all g75_0 := by
    rw [List.not_any_eq_all_not]
    congr 1
    funext b
    simp only [g110_0, reportLine, Bool.not_not]
  rw [hq]
  by_cases h : ((x.length : Nat) : Int) ≤ 200
  · have h' : x.length ≤ 200 := by omega
    simp [h, h']
  · have h' : ¬ x.length ≤ 200 := by omega
    simp [h, h']

end Go.Proofs.Ytjkeinpcphkfbaa

/- A law that says how functions of the program and of the specification hang together. -/
set_option linter.unusedVariables false
set_option linter.unusedSimpArgs false
set_option maxRecDepth 100000
namespace Go.Proofs.Ytjkeinpcphkfbaa
open Go Go.Am Go.Proofs

theorem find_pre (x : List ByteArray) (w : ByteArray) (h1 : x.length + sizes x ≤ 1048576) (h2 : w.size ≤ 1048576) : P32 x w ∧ P33 x w :=
  ⟨h2, by omega, fun s hs => by have := size_le_sizes hs; omega⟩

theorem find_eq (x : List ByteArray) (w : ByteArray) : g33_0 x w = g32_0 x w ∧ g33_1 x w = g32_1 x w := by
  unfold g33_0 g32_0 g33_1 g32_1
  rw [report]
  exact ⟨rfl, rfl⟩

theorem find_len (x : List ByteArray) (w : ByteArray) : (g32_0 x w).length ≤ x.length := by
  unfold g32_0
  split
  · split
    · simp
    · exact found_len _ _
  · simp

end Go.Proofs.Ytjkeinpcphkfbaa

/- A law that says how functions of the program and of the specification hang together. -/
set_option linter.unusedVariables false
set_option linter.unusedSimpArgs false
set_option maxRecDepth 100000
namespace Go.Proofs.Ytjkeinpcphkfbaa
open Go Go.Am Go.Proofs

theorem marked_strs (xs : List ByteArray) (h : xs.length ≤ 1048576) : P29 xs 1 ∧ (u29_0 xs 1).length = xs.length ∧ ¬ g29_0 xs 1 < 0 := by
  have hl : (u29_0 xs 1).length = xs.length := by rw [u29_0, M29_len]
  refine ⟨⟨by omega, by omega⟩, hl, ?_⟩
  unfold g29_0
  omega

end Go.Proofs.Ytjkeinpcphkfbaa

/- A law that says how functions of the program and of the specification hang together. -/
set_option linter.unusedVariables false
set_option linter.unusedSimpArgs false
set_option maxRecDepth 100000
namespace Go.Proofs.Ytjkeinpcphkfbaa
open Go Go.Am Go.Proofs

theorem marked_int (xs : List Int) (h : xs.length ≤ 1048576) : P21 xs 1 ∧ (u21_0 xs 1).length = xs.length ∧ P22 (u21_0 xs 1) 1 ∧
    g22_0 (u21_0 xs 1) 1 = g21_0 xs 1 ∧ ¬ g21_0 xs 1 < 0 := by
  have hl : (u21_0 xs 1).length = xs.length := by rw [u21_0, M21_len]
  refine ⟨⟨by omega, by omega⟩, hl, ⟨⟨by omega, by rw [hl]; omega⟩, fun i hi => ?_⟩, ?_, ?_⟩
  · rw [hl] at hi
    rw [getD_lt _ _ _ (by rw [hl]; exact hi)]
    simp [u21_0, M21]
  · unfold g22_0 g21_0
    rw [hl]
  · unfold g21_0
    omega

end Go.Proofs.Ytjkeinpcphkfbaa

/- The plain law of FnExactFindLines. -/
set_option linter.unusedVariables false
set_option linter.unusedSimpArgs false
set_option maxRecDepth 100000
namespace Go.Proofs.Ytjkeinpcphkfbaa
open Go Go.Am Go.Proofs

theorem law5 (x : List ByteArray) (k : ByteArray) (hw : Wf (.sl .str) x) (hk : Wf .str k) : P5 x k ∧ g5_0 x k = true := by
  unfold P5 g5_0
  by_cases h0 : (k.size : Int) > 1048576
  · simp only [h0, decide_true, if_true, and_self]
  by_cases h : g23_0 x 1048576 < 0
  · simp only [h0, h, decide_true, decide_false, Bool.false_eq_true, if_false, if_true, and_true]
    exact (show (0 : Int) ≤ 1048576 from by decide)
  · have hs := sz23_sum x 1048576 h
    have hp : P25 x := by
      show 16 * (x.length : Int) ≤ 281474976710656
      omega
    have hz : P23 x 1048576 := (show (0 : Int) ≤ 1048576 from by decide)
    have hl := find_len x k
    obtain ⟨e0, e1⟩ := find_eq x k
    obtain ⟨q1, q2⟩ := find_pre x k (by omega) (by omega)
    obtain ⟨b1, b2, b5⟩ := marked_strs x (by omega)
    obtain ⟨m1, m2, m3, m4, m5⟩ := marked_int (g32_0 x k) (by omega)
    simp only [h0, h, decide_false, Bool.false_eq_true, if_false, g25_0, e0, e1, q1, q2, g28_0, g18_0, decide_true, Bool.not_true, bne_self_eq_false, b1, b2, b5, m1, m2, m3, m4, m5, hp, hz, true_and, and_self]

end Go.Proofs.Ytjkeinpcphkfbaa
