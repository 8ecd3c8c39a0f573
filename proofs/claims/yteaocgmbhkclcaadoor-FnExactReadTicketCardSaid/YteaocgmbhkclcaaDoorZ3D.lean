/- Several texts in one: the functions that this law reaches, and their laws. -/
import Derived.Test.YteaocgmbhkclcaaDoorZ3A
import Derived.Test.YteaocgmbhkclcaaDoorZ3B
import Derived.Test.YteaocgmbhkclcaaDoorZ3C
import Derived.WalkKit
import Derived.Lib.ItoaNum
import Derived.Lib.TrimByte
import Derived.Lib.ParseIntBCases

/- Function 21 (strconv.ParseInt): its contract, off what is known of the library. -/
set_option linter.unusedVariables false
set_option linter.unusedSimpArgs false
set_option maxRecDepth 100000
namespace Go.Proofs.YteaocgmbhkclcaaDoor
open Go Go.Am Go.Proofs

/-- What ParseInt(s, 10, 64) gives. -/
theorem parseOk21 (s : ByteArray) (hs : s.size ≤ 281474976710656) (v : Int) (h : Lib.parseIntB 64 s.data.toList = .ok v) (W : World) :
    Calls Tryd.prog 21 #[.string s, .int .i64 10, .int .i64 64] W fun e w' => e = .returned (.tuple #[.int .i64 v, .nilIface]) ∧ Go.RowKit.Below W.heap.size W w' := by
  refine (Tryd.strconv_ParseInt_10_at64_ok s (by omega) v h W).mono ?_
  rintro e w' ⟨rfl, hw⟩
  refine ⟨rfl, ?_⟩
  rcases hw with rfl | ⟨t, rfl⟩
  · exact Go.RowKit.Below.refl _ _
  · exact Lib.bytesWorld_below _ _ _

theorem parseNo21 (s : ByteArray) (hs : s.size ≤ 281474976710656) (h : ∀ v, Lib.parseIntB 64 s.data.toList ≠ .ok v) (W : World) (hg : GInv W) :
    Calls Tryd.prog 21 #[.string s, .int .i64 10, .int .i64 64] W fun e w' => ∃ n t N, e = .returned (.tuple #[.int .i64 n, .iface t (.pointer (some ⟨N, 0, none⟩))]) ∧ Go.RowKit.Below W.heap.size W w' := by
  obtain ⟨es, hes, hes2⟩ := errSyntaxG hg
  obtain ⟨er, her, her2⟩ := errRangeG hg
  rcases hp : Lib.parseIntB 64 s.data.toList with v | _ | _
  · exact absurd hp (h v)
  · refine (Tryd.strconv_ParseInt_10_at64_syntax s hs hp es W hes hes2).mono ?_
    rintro e w' ⟨N, rfl, _, _, hb⟩
    exact ⟨_, _, _, rfl, hb⟩
  · refine (Tryd.strconv_ParseInt_10_at64_range s hs hp er W her her2).mono ?_
    rintro e w' ⟨N, rfl, _, _, hb⟩
    exact ⟨_, _, _, rfl, hb⟩

end Go.Proofs.YteaocgmbhkclcaaDoor

/- Function 20 (strings.TrimPrefix): its contract, off what is known of the library. -/
set_option linter.unusedVariables false
set_option linter.unusedSimpArgs false
set_option maxRecDepth 100000
namespace Go.Proofs.YteaocgmbhkclcaaDoor
open Go Go.Am Go.Proofs
def sig20 : List AT := [AT.v Ty.str, AT.v Ty.str]
def g20_0 (x0 x1 : ByteArray) : ByteArray := ⟨(Lib.trimPrefix x0.data.toList x1.data.toList).toArray⟩
def P20 (x0 x1 : ByteArray) : Prop := True
def S20 : Am.Spec := { sig := sig20, pre := fun ⟨x0, x1, _⟩ => P20 x0 x1, res := fun ⟨x0, x1, _⟩ => [⟨Ty.str, g20_0 x0 x1⟩] }
theorem con20 : Contract Tryd.prog 20 S20 := contract_flat rfl fun w ⟨x0, x1, _⟩ vs bss hg hp hw ha => by
  obtain ⟨v0, s0, _, _, rfl, _, ⟨_, rfl, _⟩, v1, s1, _, _, rfl, _, ⟨_, rfl, _⟩, rfl, _⟩ := ha
  have hi : x0.size ≤ maxLen := hw.1
  refine ⟨fun d hd => ?_, ?_⟩
  · rw [List.mem_singleton.1 hd]
    refine ⟨rfl, ?_⟩
    show (List.toArray _).size ≤ maxLen
    rw [List.size_toArray]
    have e : x0.data.toList.length = x0.size := rfl
    unfold Lib.trimPrefix
    split
    · rw [List.length_drop]; omega
    · omega
  · refine (Tryd.strings_TrimPrefix x0 x1 w).mono ?_
    rintro e w' ⟨rfl, rfl⟩
    exact ⟨rfl, Kept.refl _ _⟩

end Go.Proofs.YteaocgmbhkclcaaDoor

/- Function 10 (impl.ReadDecimal): its contract; by the kit's walk, the callees by their contracts. -/
set_option linter.unusedVariables false
set_option linter.unusedSimpArgs false
set_option maxRecDepth 100000
namespace Go.Proofs.YteaocgmbhkclcaaDoor
open Go Go.Am Go.Proofs Go.RowKit

theorem dec10 (W : World) (n : Int) (hi : InR .i64 n) (hgo : GOk W []) :
    Calls Tryd.prog 22 #[.int .i64 n] W fun e w' => e = .returned (.string (numB n)) ∧ Below W.heap.size W w' := by
  have h := con22 W (n, ()) [.int .i64 n] [[]] hgo ⟨rfl, trivial⟩ ⟨_, [], [], [], rfl, rfl, ⟨rfl, rfl, hi⟩, rfl, rfl⟩ (by simp)
  refine h.mono ?_
  rintro e w' ⟨rs, ubs, rbs, rfl, hk, ⟨u, s, b1, bs1, cs, rfl, rfl, ho, hv, rfl, rfl⟩, _⟩
  obtain ⟨ho, _⟩ := ho
  have hv : cs = [u] := hv
  rw [ho] at hv
  cases hv
  exact ⟨rfl, hk.below⟩

theorem trim10 (W : World) (s d : ByteArray) (h : g20_0 s ⟨#[45]⟩ = d) : Calls Tryd.prog 20 #[.string s, .string ⟨#[45]⟩] W fun e w' => e = .returned (.string d) ∧ w' = W := by
  rw [← h]
  exact Tryd.strings_TrimPrefix s ⟨#[45]⟩ W

theorem gok10 {w W : World} (h : GOk w []) (hb : Below w.heap.size w W) : GOk W [] where
  inv := h.inv.keep fun b _ hs => hb.5 b hs
  size := Nat.le_trans h.size hb.4
  out := h.out

theorem range10 {l : List UInt8} {v : Int} (h : Lib.parseIntB 64 l = .ok v) : InR .i64 v := by
  unfold Lib.parseIntB at h
  split at h
  · cases h
  · simp only at h
    split at h
    · cases h
    · cases h
    · split at h
      · cases h
      · split at h
        · cases h
        · rename_i u _ h1 h2
          have e1 : (2 : Nat) ^ (64 - 1) = 9223372036854775808 := by decide
          rw [e1] at h1 h2
          rw [i64_iff]
          split at h
          · cases h; rename_i hn; have : ¬ 9223372036854775808 < u := fun hh => h2 ⟨hn, hh⟩; omega
          · cases h; rename_i hn; have : ¬ 9223372036854775808 ≤ u := fun hh => h1 ⟨hn, hh⟩; omega

def long10 (s : ByteArray) : Bool := decide ((g20_0 s ⟨#[45]⟩).size < 1) || decide (18 < (g20_0 s ⟨#[45]⟩).size)
def rd10 (s : ByteArray) : Option Int := if long10 s = true then none else match Lib.parseIntB 64 s.data.toList with
  | .ok v => if numB v = s then some v else none
  | _ => none

set_option maxHeartbeats 4000000 in
theorem walkShort10 (w : World) (s d : ByteArray) (HD : Aside (g20_0 s ⟨#[45]⟩ = d)) (h1 : (d.size : Int) < 1) :
    Calls Tryd.prog 10 #[.string s] w fun e w' => e = .returned (.tuple #[.int .i64 0, .bool false]) ∧ Below w.heap.size w w' := by
  have mixed := mixed
  go_enter Tryd.func10, Tryd.ntmps10
  go_wp2_with (go_at_call 20; refine (trim10 _ s d HD.out).mono ?_; rintro e w1 ⟨rfl, rfl⟩)
  go_ret2
  exact ⟨rfl, Below.refl _ _⟩

set_option maxHeartbeats 4000000 in
theorem walkLong10 (w : World) (s d : ByteArray) (HD : Aside (g20_0 s ⟨#[45]⟩ = d)) (h1 : ¬ (d.size : Int) < 1) (h2 : (d.size : Int) > 18) :
    Calls Tryd.prog 10 #[.string s] w fun e w' => e = .returned (.tuple #[.int .i64 0, .bool false]) ∧ Below w.heap.size w w' := by
  have mixed := mixed
  go_enter Tryd.func10, Tryd.ntmps10
  go_wp2_with (go_at_call 20; refine (trim10 _ s d HD.out).mono ?_; rintro e w1 ⟨rfl, rfl⟩)
  go_ret2
  exact ⟨rfl, Below.refl _ _⟩

set_option maxHeartbeats 4000000 in
theorem walkEq10 (w : World) (s d : ByteArray) (hs : s.size ≤ 281474976710656) (hgo : GOk w []) (HD : Aside (g20_0 s ⟨#[45]⟩ = d)) (h1 : ¬ (d.size : Int) < 1) (h2 : ¬ (d.size : Int) > 18) (v : Int) (HP : Aside (Lib.parseIntB 64 s.data.toList = .ok v)) (HE : Aside (numB v = s)) :
    Calls Tryd.prog 10 #[.string s] w fun e w' => e = .returned (.tuple #[.int .i64 v, .bool true]) ∧ Below w.heap.size w w' := by
  have mixed := mixed
  go_enter Tryd.func10, Tryd.ntmps10
  go_wp2_with (go_at_call 20; refine (trim10 _ s d HD.out).mono ?_; rintro e w1 ⟨rfl, rfl⟩)
  have HR : Aside (InR .i64 v) := range10 HP.out
  go_wp2_with (go_at_call 21; refine (parseOk21 s hs v HP.out _).mono ?_)
  rintro e w2 ⟨rfl, b2⟩
  go_wp2_with (go_at_call 22; refine (dec10 _ v HR.out (gok10 hgo b2)).mono ?_)
  rintro e w3 ⟨rfl, b3⟩
  rw [HE.out]
  go_wp2
  go_ret2
  exact ⟨rfl, b2.trans (b3.mono b2.size)⟩

set_option maxHeartbeats 4000000 in
theorem walkNe10 (w : World) (s d : ByteArray) (hs : s.size ≤ 281474976710656) (hgo : GOk w []) (HD : Aside (g20_0 s ⟨#[45]⟩ = d)) (h1 : ¬ (d.size : Int) < 1) (h2 : ¬ (d.size : Int) > 18) (v : Int) (HP : Aside (Lib.parseIntB 64 s.data.toList = .ok v)) (HE : Aside (¬ numB v = s)) :
    Calls Tryd.prog 10 #[.string s] w fun e w' => e = .returned (.tuple #[.int .i64 0, .bool false]) ∧ Below w.heap.size w w' := by
  have mixed := mixed
  go_enter Tryd.func10, Tryd.ntmps10
  go_wp2_with (go_at_call 20; refine (trim10 _ s d HD.out).mono ?_; rintro e w1 ⟨rfl, rfl⟩)
  have HR : Aside (InR .i64 v) := range10 HP.out
  go_wp2_with (go_at_call 21; refine (parseOk21 s hs v HP.out _).mono ?_)
  rintro e w2 ⟨rfl, b2⟩
  go_wp2_with (go_at_call 22; refine (dec10 _ v HR.out (gok10 hgo b2)).mono ?_)
  rintro e w3 ⟨rfl, b3⟩
  have he' : ((numB v).toList == s.toList) = false := by
    rw [Bool.eq_false_iff]; exact fun hh => HE.out ((bytes_eq _ _).1 hh)
  go_wp2
  go_ret2
  exact ⟨rfl, b2.trans (b3.mono b2.size)⟩

set_option maxHeartbeats 4000000 in
theorem walkNo10 (w : World) (s d : ByteArray) (hs : s.size ≤ 281474976710656) (hgo : GOk w []) (HD : Aside (g20_0 s ⟨#[45]⟩ = d)) (h1 : ¬ (d.size : Int) < 1) (h2 : ¬ (d.size : Int) > 18) (HP : Aside (∀ v, Lib.parseIntB 64 s.data.toList ≠ .ok v)) :
    Calls Tryd.prog 10 #[.string s] w fun e w' => e = .returned (.tuple #[.int .i64 0, .bool false]) ∧ Below w.heap.size w w' := by
  have mixed := mixed
  go_enter Tryd.func10, Tryd.ntmps10
  go_wp2_with (go_at_call 20; refine (trim10 _ s d HD.out).mono ?_; rintro e w1 ⟨rfl, rfl⟩)
  go_wp2_with (go_at_call 21; refine (parseNo21 s hs HP.out _ hgo.inv).mono ?_)
  rintro e w2 ⟨n, t, N, rfl, b2⟩
  go_wp2
  go_ret2
  exact ⟨rfl, b2⟩

def sig10 : List AT := [AT.v .str]
def g10_0 (x0 : ByteArray) : Int := (rd10 x0).getD 0
def g10_1 (x0 : ByteArray) : Bool := (rd10 x0).isSome
def P10 (x0 : ByteArray) : Prop := x0.size ≤ 281474976710656
def S10 : Am.Spec := { sig := sig10, pre := fun ⟨x0, _⟩ => P10 x0, res := fun ⟨x0, _⟩ => [⟨.int .i64, g10_0 x0⟩, ⟨.bool, g10_1 x0⟩] }

theorem con10 : Contract Tryd.prog 10 S10 := contract_flat rfl fun w ⟨x0, _⟩ vs bss hg hp hw ha => by
  obtain ⟨v0, s0, _, _, rfl, _, ⟨_, rfl, _⟩, rfl, _⟩ := ha
  have hs : x0.size ≤ 281474976710656 := hp
  have hgo : GOk w [] := ⟨hg, hg.size, fun b hb => by cases hb⟩
  refine ⟨fun d hd => ?_, ?_⟩
  · simp only [List.mem_cons, List.mem_nil_iff, or_false] at hd
    rcases hd with rfl | rfl
    · refine ⟨rfl, ?_⟩
      show InR .i64 ((rd10 x0).getD 0)
      have z : InR .i64 0 := by rw [i64_iff]; omega
      unfold rd10
      split
      · exact z
      · split
        · rename_i v h
          split
          · exact range10 h
          · exact z
        · exact z
    · exact ⟨rfl, trivial⟩
  · show Calls Tryd.prog 10 #[.string x0] w fun e w' => e = .returned (.tuple #[.int .i64 ((rd10 x0).getD 0), .bool (rd10 x0).isSome]) ∧ Kept [] w w'
    have hd : Aside (g20_0 x0 ⟨#[45]⟩ = g20_0 x0 ⟨#[45]⟩) := rfl
    unfold rd10 long10
    by_cases h1 : (g20_0 x0 ⟨#[45]⟩).size < 1
    · rw [if_pos (by simp [h1])]
      refine (walkShort10 w x0 _ hd (by omega)).mono ?_
      rintro e w' ⟨rfl, hb⟩
      exact ⟨rfl, Kept.of_below hb⟩
    · by_cases h2 : 18 < (g20_0 x0 ⟨#[45]⟩).size
      · rw [if_pos (by simp [h2])]
        refine (walkLong10 w x0 _ hd (by omega) (by omega)).mono ?_
        rintro e w' ⟨rfl, hb⟩
        exact ⟨rfl, Kept.of_below hb⟩
      · rw [if_neg (by simp [h1, h2])]
        by_cases hok : ∃ v, Lib.parseIntB 64 x0.data.toList = .ok v
        · obtain ⟨v, hv⟩ := hok
          rw [hv]
          by_cases he : numB v = x0
          · simp only [if_pos he]
            refine (walkEq10 w x0 _ hs hgo hd (by omega) (by omega) v hv he).mono ?_
            rintro e w' ⟨rfl, hb⟩
            exact ⟨rfl, Kept.of_below hb⟩
          · simp only [if_neg he]
            refine (walkNe10 w x0 _ hs hgo hd (by omega) (by omega) v hv he).mono ?_
            rintro e w' ⟨rfl, hb⟩
            exact ⟨rfl, Kept.of_below hb⟩
        · have hno : ∀ v, Lib.parseIntB 64 x0.data.toList ≠ .ok v := fun v hv => hok ⟨v, hv⟩
          have e : (match Lib.parseIntB 64 x0.data.toList with
            | .ok v => if numB v = x0 then some v else none
            | _ => none : Option Int) = none := by
            split
            · rename_i v hv; exact absurd hv (hno v)
            · rfl
          rw [e]
          refine (walkNo10 w x0 _ hs hgo hd (by omega) (by omega) hno).mono ?_
          rintro e w' ⟨rfl, hb⟩
          exact ⟨rfl, Kept.of_below hb⟩
end Go.Proofs.YteaocgmbhkclcaaDoor

/- Function 5 (impl.ReadTicket): its runs between cut points. Written by a program of this repo (gen). -/
set_option linter.unusedVariables false
set_option linter.unusedSimpArgs false
set_option maxRecDepth 100000
namespace Go.Proofs.YteaocgmbhkclcaaDoor
open Go Go.Am Go.Proofs
def ext5 : Ext := [(8, S8), (9, S9), (10, S10), (11, S11)]
theorem call5_8 : Callable Tryd.prog 8 := ⟨Tryd.f8, Tryd.func8, by kernel_rfl, by kernel_rfl⟩
theorem call5_9 : Callable Tryd.prog 9 := ⟨Tryd.f9, Tryd.func9, by kernel_rfl, by kernel_rfl⟩
theorem call5_10 : Callable Tryd.prog 10 := ⟨Tryd.f10, Tryd.func10, by kernel_rfl, by kernel_rfl⟩
theorem call5_11 : Callable Tryd.prog 11 := ⟨Tryd.f11, Tryd.func11, by kernel_rfl, by kernel_rfl⟩
theorem ext5Ok : ExtOk Tryd.prog ext5 := ⟨⟨call5_8, con8⟩, ⟨call5_9, con9⟩, ⟨call5_10, con10⟩, ⟨call5_11, con11⟩, trivial⟩
/-! Function 5. -/
noncomputable def b5 : Code := bodyOf Tryd.f5
theorem hb5 : Tryd.f5.body = some b5 := by kernel_rfl
def sig5 : List AT := [AT.v (Ty.str)]
def tys5 : List Ty := [Ty.cons Ty.str (Ty.cons (Ty.int IntKind.i64) (Ty.cons (Ty.int IntKind.i64) Ty.unit)), Ty.bool]
def P5 (x0 : ByteArray) : Prop := ((P8 x0 (ByteArray.mk #[32])) ∧ (if ((↑(List.length (g8_0 x0 (ByteArray.mk #[32]))) : Int) != 3) = true then True else ((0 < (↑(List.length (g8_0 x0 (ByteArray.mk #[32]))) : Int)) ∧ ((1 < (↑(List.length (g8_0 x0 (ByteArray.mk #[32]))) : Int)) ∧ ((P9 (List.getD (g8_0 x0 (ByteArray.mk #[32])) 1 ByteArray.empty)) ∧ ((2 < (↑(List.length (g8_0 x0 (ByteArray.mk #[32]))) : Int)) ∧ ((P10 (List.getD (g8_0 x0 (ByteArray.mk #[32])) 2 ByteArray.empty)) ∧ ((P11 (List.getD (g8_0 x0 (ByteArray.mk #[32])) 0 ByteArray.empty, g9_0 (List.getD (g8_0 x0 (ByteArray.mk #[32])) 1 ByteArray.empty), g10_0 (List.getD (g8_0 x0 (ByteArray.mk #[32])) 2 ByteArray.empty), ())) ∧ True))))))))
def g5_0 (x0 : ByteArray) : ByteArray × Int × Int × Unit := (if ((↑(List.length (g8_0 x0 (ByteArray.mk #[32]))) : Int) != 3) = true then (ByteArray.empty, 0, 0, ()) else (if (!ByteArray.toList (g11_0 (List.getD (g8_0 x0 (ByteArray.mk #[32])) 0 ByteArray.empty, g9_0 (List.getD (g8_0 x0 (ByteArray.mk #[32])) 1 ByteArray.empty), g10_0 (List.getD (g8_0 x0 (ByteArray.mk #[32])) 2 ByteArray.empty), ())) == ByteArray.toList x0) = true then (ByteArray.empty, 0, 0, ()) else (List.getD (g8_0 x0 (ByteArray.mk #[32])) 0 ByteArray.empty, g9_0 (List.getD (g8_0 x0 (ByteArray.mk #[32])) 1 ByteArray.empty), g10_0 (List.getD (g8_0 x0 (ByteArray.mk #[32])) 2 ByteArray.empty), ())))
def g5_1 (x0 : ByteArray) : Bool := (if ((↑(List.length (g8_0 x0 (ByteArray.mk #[32]))) : Int) != 3) = true then Bool.false else (if (!ByteArray.toList (g11_0 (List.getD (g8_0 x0 (ByteArray.mk #[32])) 0 ByteArray.empty, g9_0 (List.getD (g8_0 x0 (ByteArray.mk #[32])) 1 ByteArray.empty), g10_0 (List.getD (g8_0 x0 (ByteArray.mk #[32])) 2 ByteArray.empty), ())) == ByteArray.toList x0) = true then Bool.false else Bool.true))
theorem p5_0 (x0 : ByteArray) : runF tab ext5 false 38 [] 2000 [] tys5 Tryd.f5.results [true] [.code b5] (entE 0 0 sig5 (x0, ())) (entL sig5 (x0, ())) = some ([Dyn.mk (Ty.cons Ty.str (Ty.cons (Ty.int IntKind.i64) (Ty.cons (Ty.int IntKind.i64) Ty.unit))) (ByteArray.empty, 0, 0, ()), Dyn.mk Ty.bool Bool.false], [], [P8 x0 (ByteArray.mk #[32]), ((↑(List.length (g8_0 x0 (ByteArray.mk #[32]))) : Int) != 3) = Bool.true]) := by kernel_rfl
theorem p5_1 (x0 : ByteArray) : runF tab ext5 false 38 [] 2000 [] tys5 Tryd.f5.results [false, true] [.code b5] (entE 0 0 sig5 (x0, ())) (entL sig5 (x0, ())) = some ([Dyn.mk (Ty.cons Ty.str (Ty.cons (Ty.int IntKind.i64) (Ty.cons (Ty.int IntKind.i64) Ty.unit))) (ByteArray.empty, 0, 0, ()), Dyn.mk Ty.bool Bool.false], [], [P8 x0 (ByteArray.mk #[32]), ((↑(List.length (g8_0 x0 (ByteArray.mk #[32]))) : Int) != 3) = Bool.false, (0 : Int) ≤ (0 : Int), 0 < (↑(List.length (g8_0 x0 (ByteArray.mk #[32]))) : Int), (0 : Int) ≤ (1 : Int), 1 < (↑(List.length (g8_0 x0 (ByteArray.mk #[32]))) : Int), P9 (List.getD (g8_0 x0 (ByteArray.mk #[32])) 1 ByteArray.empty), (0 : Int) ≤ (2 : Int), 2 < (↑(List.length (g8_0 x0 (ByteArray.mk #[32]))) : Int), P10 (List.getD (g8_0 x0 (ByteArray.mk #[32])) 2 ByteArray.empty), P11 (List.getD (g8_0 x0 (ByteArray.mk #[32])) 0 ByteArray.empty, g9_0 (List.getD (g8_0 x0 (ByteArray.mk #[32])) 1 ByteArray.empty), g10_0 (List.getD (g8_0 x0 (ByteArray.mk #[32])) 2 ByteArray.empty), ()), (!ByteArray.toList (g11_0 (List.getD (g8_0 x0 (ByteArray.mk #[32])) 0 ByteArray.empty, g9_0 (List.getD (g8_0 x0 (ByteArray.mk #[32])) 1 ByteArray.empty), g10_0 (List.getD (g8_0 x0 (ByteArray.mk #[32])) 2 ByteArray.empty), ())) == ByteArray.toList x0) = Bool.true]) := by kernel_rfl
theorem p5_2 (x0 : ByteArray) : runF tab ext5 false 38 [] 2000 [] tys5 Tryd.f5.results [false, false] [.code b5] (entE 0 0 sig5 (x0, ())) (entL sig5 (x0, ())) = some ([Dyn.mk (Ty.cons Ty.str (Ty.cons (Ty.int IntKind.i64) (Ty.cons (Ty.int IntKind.i64) Ty.unit))) (List.getD (g8_0 x0 (ByteArray.mk #[32])) 0 ByteArray.empty, g9_0 (List.getD (g8_0 x0 (ByteArray.mk #[32])) 1 ByteArray.empty), g10_0 (List.getD (g8_0 x0 (ByteArray.mk #[32])) 2 ByteArray.empty), ()), Dyn.mk Ty.bool Bool.true], [], [P8 x0 (ByteArray.mk #[32]), ((↑(List.length (g8_0 x0 (ByteArray.mk #[32]))) : Int) != 3) = Bool.false, (0 : Int) ≤ (0 : Int), 0 < (↑(List.length (g8_0 x0 (ByteArray.mk #[32]))) : Int), (0 : Int) ≤ (1 : Int), 1 < (↑(List.length (g8_0 x0 (ByteArray.mk #[32]))) : Int), P9 (List.getD (g8_0 x0 (ByteArray.mk #[32])) 1 ByteArray.empty), (0 : Int) ≤ (2 : Int), 2 < (↑(List.length (g8_0 x0 (ByteArray.mk #[32]))) : Int), P10 (List.getD (g8_0 x0 (ByteArray.mk #[32])) 2 ByteArray.empty), P11 (List.getD (g8_0 x0 (ByteArray.mk #[32])) 0 ByteArray.empty, g9_0 (List.getD (g8_0 x0 (ByteArray.mk #[32])) 1 ByteArray.empty), g10_0 (List.getD (g8_0 x0 (ByteArray.mk #[32])) 2 ByteArray.empty), ()), (!ByteArray.toList (g11_0 (List.getD (g8_0 x0 (ByteArray.mk #[32])) 0 ByteArray.empty, g9_0 (List.getD (g8_0 x0 (ByteArray.mk #[32])) 1 ByteArray.empty), g10_0 (List.getD (g8_0 x0 (ByteArray.mk #[32])) 2 ByteArray.empty), ())) == ByteArray.toList x0) = Bool.false]) := by kernel_rfl
theorem at5 (x0 : ByteArray) (h : P5 x0) (w0 : World) (O : List Nat) (q : Nat → Value) : AtV Tryd.prog 5 (PostR [⟨Ty.cons Ty.str (Ty.cons (Ty.int IntKind.i64) (Ty.cons (Ty.int IntKind.i64) Ty.unit)), g5_0 x0⟩, ⟨Ty.bool, g5_1 x0⟩] [] [] q w0 O) 38 w0 O q [] [.code b5] (entE 0 0 sig5 (x0, ())) (entL sig5 (x0, ())) := by
  unfold P5 at h
  unfold g5_0 g5_1
  obtain ⟨s0, h⟩ := h
  by_cases b0 : ((↑(List.length (g8_0 x0 (ByteArray.mk #[32]))) : Int) != 3) = true
  · try simp only [if_pos b0] at h ⊢
    exact AtV.fin Tryd.func5 tabOk ext5Ok mixed (p5_0 x0) ⟨s0, b0, trivial⟩
  · try simp only [if_neg b0] at h ⊢
    replace b0 := Bool.eq_false_iff.2 b0
    obtain ⟨s1, h⟩ := h
    obtain ⟨s2, h⟩ := h
    obtain ⟨s3, h⟩ := h
    obtain ⟨s4, h⟩ := h
    obtain ⟨s5, h⟩ := h
    obtain ⟨s6, h⟩ := h
    by_cases b1 : (!ByteArray.toList (g11_0 (List.getD (g8_0 x0 (ByteArray.mk #[32])) 0 ByteArray.empty, g9_0 (List.getD (g8_0 x0 (ByteArray.mk #[32])) 1 ByteArray.empty), g10_0 (List.getD (g8_0 x0 (ByteArray.mk #[32])) 2 ByteArray.empty), ())) == ByteArray.toList x0) = true
    · try simp only [if_pos b1] at h ⊢
      exact AtV.fin Tryd.func5 tabOk ext5Ok mixed (p5_1 x0) ⟨s0, b0, (by decide), s1, (by decide), s2, s3, (by decide), s4, s5, s6, b1, trivial⟩
    · try simp only [if_neg b1] at h ⊢
      replace b1 := Bool.eq_false_iff.2 b1
      exact AtV.fin Tryd.func5 tabOk ext5Ok mixed (p5_2 x0) ⟨s0, b0, (by decide), s1, (by decide), s2, s3, (by decide), s4, s5, s6, b1, trivial⟩

def S5 : Am.Spec := { sig := sig5, pre := fun ⟨x0, _⟩ => P5 x0, res := fun ⟨x0, _⟩ => [⟨Ty.cons Ty.str (Ty.cons (Ty.int IntKind.i64) (Ty.cons (Ty.int IntKind.i64) Ty.unit)), g5_0 x0⟩, ⟨Ty.bool, g5_1 x0⟩] }
theorem con5 : Contract Tryd.prog 5 S5 := contract_of Tryd.func5 hb5 (Nat.le_of_ble_eq_true (by kernel_rfl)) (fun ⟨x0, _⟩ h _ w0 O q => at5 x0 h w0 O q)


end Go.Proofs.YteaocgmbhkclcaaDoor

/- Function 6 (laws.eqTicket): its runs between cut points. Written by a program of this repo (gen). -/
set_option linter.unusedVariables false
set_option linter.unusedSimpArgs false
set_option maxRecDepth 100000
namespace Go.Proofs.YteaocgmbhkclcaaDoor
open Go Go.Am Go.Proofs
def ext6 : Ext := []
theorem ext6Ok : ExtOk Tryd.prog ext6 := trivial
/-! Function 6. -/
noncomputable def b6 : Code := bodyOf Tryd.f6
theorem hb6 : Tryd.f6.body = some b6 := by kernel_rfl
def sig6 : List AT := [AT.v (Ty.cons Ty.str (Ty.cons (Ty.int IntKind.i64) (Ty.cons (Ty.int IntKind.i64) Ty.unit))), AT.v (Ty.cons Ty.str (Ty.cons (Ty.int IntKind.i64) (Ty.cons (Ty.int IntKind.i64) Ty.unit)))]
def tys6 : List Ty := [Ty.bool]
def P6 (x0 : ByteArray × Int × Int × Unit) (x1 : ByteArray × Int × Int × Unit) : Prop := True
def g6_0 (x0 : ByteArray × Int × Int × Unit) (x1 : ByteArray × Int × Int × Unit) : Bool := (if (!ByteArray.toList (Prod.fst x0) == ByteArray.toList (Prod.fst x1)) = true then Bool.false else (if (Prod.fst (Prod.snd x0) != Prod.fst (Prod.snd x1)) = true then Bool.false else (if (Prod.fst (Prod.snd (Prod.snd x0)) != Prod.fst (Prod.snd (Prod.snd x1))) = true then Bool.false else Bool.true)))
theorem p6_0 (x0 : ByteArray × Int × Int × Unit) (x1 : ByteArray × Int × Int × Unit) : runF tab ext6 false 20 [] 2000 [] tys6 Tryd.f6.results [true] [.code b6] (entE 0 0 sig6 (x0, x1, ())) (entL sig6 (x0, x1, ())) = some ([Dyn.mk Ty.bool Bool.false], [], [(!ByteArray.toList (Prod.fst x0) == ByteArray.toList (Prod.fst x1)) = Bool.true]) := by kernel_rfl
theorem p6_1 (x0 : ByteArray × Int × Int × Unit) (x1 : ByteArray × Int × Int × Unit) : runF tab ext6 false 20 [] 2000 [] tys6 Tryd.f6.results [false, true] [.code b6] (entE 0 0 sig6 (x0, x1, ())) (entL sig6 (x0, x1, ())) = some ([Dyn.mk Ty.bool Bool.false], [], [(!ByteArray.toList (Prod.fst x0) == ByteArray.toList (Prod.fst x1)) = Bool.false, (Prod.fst (Prod.snd x0) != Prod.fst (Prod.snd x1)) = Bool.true]) := by kernel_rfl
theorem p6_2 (x0 : ByteArray × Int × Int × Unit) (x1 : ByteArray × Int × Int × Unit) : runF tab ext6 false 20 [] 2000 [] tys6 Tryd.f6.results [false, false, true] [.code b6] (entE 0 0 sig6 (x0, x1, ())) (entL sig6 (x0, x1, ())) = some ([Dyn.mk Ty.bool Bool.false], [], [(!ByteArray.toList (Prod.fst x0) == ByteArray.toList (Prod.fst x1)) = Bool.false, (Prod.fst (Prod.snd x0) != Prod.fst (Prod.snd x1)) = Bool.false, (Prod.fst (Prod.snd (Prod.snd x0)) != Prod.fst (Prod.snd (Prod.snd x1))) = Bool.true]) := by kernel_rfl
theorem p6_3 (x0 : ByteArray × Int × Int × Unit) (x1 : ByteArray × Int × Int × Unit) : runF tab ext6 false 20 [] 2000 [] tys6 Tryd.f6.results [false, false, false] [.code b6] (entE 0 0 sig6 (x0, x1, ())) (entL sig6 (x0, x1, ())) = some ([Dyn.mk Ty.bool Bool.true], [], [(!ByteArray.toList (Prod.fst x0) == ByteArray.toList (Prod.fst x1)) = Bool.false, (Prod.fst (Prod.snd x0) != Prod.fst (Prod.snd x1)) = Bool.false, (Prod.fst (Prod.snd (Prod.snd x0)) != Prod.fst (Prod.snd (Prod.snd x1))) = Bool.false]) := by kernel_rfl
theorem at6 (x0 : ByteArray × Int × Int × Unit) (x1 : ByteArray × Int × Int × Unit) (h : P6 x0 x1) (w0 : World) (O : List Nat) (q : Nat → Value) : AtV Tryd.prog 6 (PostR [⟨Ty.bool, g6_0 x0 x1⟩] [] [] q w0 O) 20 w0 O q [] [.code b6] (entE 0 0 sig6 (x0, x1, ())) (entL sig6 (x0, x1, ())) := by
  unfold P6 at h
  unfold g6_0
  by_cases b0 : (!ByteArray.toList (Prod.fst x0) == ByteArray.toList (Prod.fst x1)) = true
  · try simp only [if_pos b0] at h ⊢
    exact AtV.fin Tryd.func6 tabOk ext6Ok mixed (p6_0 x0 x1) ⟨b0, trivial⟩
  · try simp only [if_neg b0] at h ⊢
    replace b0 := Bool.eq_false_iff.2 b0
    by_cases b1 : (Prod.fst (Prod.snd x0) != Prod.fst (Prod.snd x1)) = true
    · try simp only [if_pos b1] at h ⊢
      exact AtV.fin Tryd.func6 tabOk ext6Ok mixed (p6_1 x0 x1) ⟨b0, b1, trivial⟩
    · try simp only [if_neg b1] at h ⊢
      replace b1 := Bool.eq_false_iff.2 b1
      by_cases b2 : (Prod.fst (Prod.snd (Prod.snd x0)) != Prod.fst (Prod.snd (Prod.snd x1))) = true
      · try simp only [if_pos b2] at h ⊢
        exact AtV.fin Tryd.func6 tabOk ext6Ok mixed (p6_2 x0 x1) ⟨b0, b1, b2, trivial⟩
      · try simp only [if_neg b2] at h ⊢
        replace b2 := Bool.eq_false_iff.2 b2
        exact AtV.fin Tryd.func6 tabOk ext6Ok mixed (p6_3 x0 x1) ⟨b0, b1, b2, trivial⟩

def S6 : Am.Spec := { sig := sig6, pre := fun ⟨x0, x1, _⟩ => P6 x0 x1, res := fun ⟨x0, x1, _⟩ => [⟨Ty.bool, g6_0 x0 x1⟩] }
theorem con6 : Contract Tryd.prog 6 S6 := contract_of Tryd.func6 hb6 (Nat.le_of_ble_eq_true (by kernel_rfl)) (fun ⟨x0, x1, _⟩ h _ w0 O q => at6 x0 x1 h w0 O q)


theorem eqd6 (x y : (ByteArray × Int × Int × Unit)) : g6_0 x y = true ↔ x = y := by
  obtain ⟨a, b, c, u⟩ := x
  obtain ⟨a', b', c', u'⟩ := y
  unfold g6_0
  simp only [Bool.not_eq_true', bytes_ne, bne_iff_ne, ne_eq, ite_not]
  by_cases h0 : a = a'
  · by_cases h1 : b = b'
    · by_cases h2 : c = c'
      · simp [h0, h1, h2]
      · simp [h0, h1, h2]
    · simp [h0, h1]
  · simp [h0]

end Go.Proofs.YteaocgmbhkclcaaDoor

/- Function 3 (laws.FnExactReadTicket): its runs between cut points. Written by a program of this repo (gen). -/
set_option linter.unusedVariables false
set_option linter.unusedSimpArgs false
set_option maxRecDepth 100000
namespace Go.Proofs.YteaocgmbhkclcaaDoor
open Go Go.Am Go.Proofs
def ext3 : Ext := [(4, S4), (5, S5), (6, S6)]
theorem call3_4 : Callable Tryd.prog 4 := ⟨Tryd.f4, Tryd.func4, by kernel_rfl, by kernel_rfl⟩
theorem call3_5 : Callable Tryd.prog 5 := ⟨Tryd.f5, Tryd.func5, by kernel_rfl, by kernel_rfl⟩
theorem call3_6 : Callable Tryd.prog 6 := ⟨Tryd.f6, Tryd.func6, by kernel_rfl, by kernel_rfl⟩
theorem ext3Ok : ExtOk Tryd.prog ext3 := ⟨⟨call3_4, con4⟩, ⟨call3_5, con5⟩, ⟨call3_6, con6⟩, trivial⟩
/-! Function 3. -/
noncomputable def b3 : Code := bodyOf Tryd.f3
theorem hb3 : Tryd.f3.body = some b3 := by kernel_rfl
def sig3 : List AT := [AT.v (Ty.str)]
def tys3 : List Ty := [Ty.bool]
def P3 (x0 : ByteArray) : Prop := (if (Decidable.decide ((↑(ByteArray.size x0) : Int) > 1048576)) = true then True else ((P4 x0) ∧ ((P5 x0) ∧ True)))
def g3_0 (x0 : ByteArray) : Bool := (if (Decidable.decide ((↑(ByteArray.size x0) : Int) > 1048576)) = true then Bool.true else (if (!g6_0 (g5_0 x0) (g4_0 x0)) = true then Bool.false else (if (!g5_1 x0 == g4_1 x0) = true then Bool.false else Bool.true)))
theorem p3_0 (x0 : ByteArray) : runF tab ext3 false 29 [] 2000 [] tys3 Tryd.f3.results [true] [.code b3] (entE 0 0 sig3 (x0, ())) (entL sig3 (x0, ())) = some ([Dyn.mk Ty.bool Bool.true], [], [Decidable.decide ((↑(ByteArray.size x0) : Int) > 1048576) = Bool.true]) := by kernel_rfl
theorem p3_1 (x0 : ByteArray) : runF tab ext3 false 29 [] 2000 [] tys3 Tryd.f3.results [false, true, true] [.code b3] (entE 0 0 sig3 (x0, ())) (entL sig3 (x0, ())) = some ([Dyn.mk Ty.bool Bool.false], [], [Decidable.decide ((↑(ByteArray.size x0) : Int) > 1048576) = Bool.false, P4 x0, P5 x0, True, (!g6_0 (g5_0 x0) (g4_0 x0)) = Bool.true, Bool.true = Bool.true]) := by kernel_rfl
theorem p3_2 (x0 : ByteArray) : runF tab ext3 false 29 [] 2000 [] tys3 Tryd.f3.results [false, false, true] [.code b3] (entE 0 0 sig3 (x0, ())) (entL sig3 (x0, ())) = some ([Dyn.mk Ty.bool Bool.false], [], [Decidable.decide ((↑(ByteArray.size x0) : Int) > 1048576) = Bool.false, P4 x0, P5 x0, True, (!g6_0 (g5_0 x0) (g4_0 x0)) = Bool.false, (!g5_1 x0 == g4_1 x0) = Bool.true]) := by kernel_rfl
theorem p3_3 (x0 : ByteArray) : runF tab ext3 false 29 [] 2000 [] tys3 Tryd.f3.results [false, false, false] [.code b3] (entE 0 0 sig3 (x0, ())) (entL sig3 (x0, ())) = some ([Dyn.mk Ty.bool Bool.true], [], [Decidable.decide ((↑(ByteArray.size x0) : Int) > 1048576) = Bool.false, P4 x0, P5 x0, True, (!g6_0 (g5_0 x0) (g4_0 x0)) = Bool.false, (!g5_1 x0 == g4_1 x0) = Bool.false]) := by kernel_rfl
theorem at3 (x0 : ByteArray) (h : P3 x0) (w0 : World) (O : List Nat) (q : Nat → Value) : AtV Tryd.prog 3 (PostR [⟨Ty.bool, g3_0 x0⟩] [] [] q w0 O) 29 w0 O q [] [.code b3] (entE 0 0 sig3 (x0, ())) (entL sig3 (x0, ())) := by
  unfold P3 at h
  unfold g3_0
  by_cases b0 : (Decidable.decide ((↑(ByteArray.size x0) : Int) > 1048576)) = true
  · try simp only [if_pos b0] at h ⊢
    exact AtV.fin Tryd.func3 tabOk ext3Ok mixed (p3_0 x0) ⟨b0, trivial⟩
  · try simp only [if_neg b0] at h ⊢
    replace b0 := Bool.eq_false_iff.2 b0
    obtain ⟨s0, h⟩ := h
    obtain ⟨s1, h⟩ := h
    by_cases b1 : (!g6_0 (g5_0 x0) (g4_0 x0)) = true
    · try simp only [if_pos b1] at h ⊢
      exact AtV.fin Tryd.func3 tabOk ext3Ok mixed (p3_1 x0) ⟨b0, s0, s1, trivial, b1, rfl, trivial⟩
    · try simp only [if_neg b1] at h ⊢
      replace b1 := Bool.eq_false_iff.2 b1
      by_cases b2 : (!g5_1 x0 == g4_1 x0) = true
      · try simp only [if_pos b2] at h ⊢
        exact AtV.fin Tryd.func3 tabOk ext3Ok mixed (p3_2 x0) ⟨b0, s0, s1, trivial, b1, b2, trivial⟩
      · try simp only [if_neg b2] at h ⊢
        replace b2 := Bool.eq_false_iff.2 b2
        exact AtV.fin Tryd.func3 tabOk ext3Ok mixed (p3_3 x0) ⟨b0, s0, s1, trivial, b1, b2, trivial⟩

def S3 : Am.Spec := { sig := sig3, pre := fun ⟨x0, _⟩ => P3 x0, res := fun ⟨x0, _⟩ => [⟨Ty.bool, g3_0 x0⟩] }
theorem con3 : Contract Tryd.prog 3 S3 := contract_of Tryd.func3 hb3 (Nat.le_of_ble_eq_true (by kernel_rfl)) (fun ⟨x0, _⟩ h _ w0 O q => at3 x0 h w0 O q)


end Go.Proofs.YteaocgmbhkclcaaDoor

/- A law that says how functions of the program and of the specification hang together. -/
set_option linter.unusedVariables false
set_option linter.unusedSimpArgs false
set_option maxRecDepth 100000
namespace Go.Proofs.YteaocgmbhkclcaaDoor
open Go Go.Am Go.Proofs

theorem len_eq {y m : Int} (hm : 1 ≤ m ∧ m ≤ 12) : g44_0 y m = g34_0 y m := by
  have hm : m = 1 ∨ m = 2 ∨ m = 3 ∨ m = 4 ∨ m = 5 ∨ m = 6 ∨ m = 7 ∨ m = 8 ∨ m = 9 ∨ m = 10 ∨ m = 11 ∨ m = 12 := by omega
  unfold g44_0 g34_0
  rcases hm with rfl | rfl | rfl | rfl | rfl | rfl | rfl | rfl | rfl | rfl | rfl | rfl <;> rfl

theorem ms_eq (y : Int) : ∀ k, k ≤ 12 → ms25 y k = ms35 y k
  | 0, _ => rfl
  | k + 1, h => by
    simp only [ms25, ms35]
    rw [ms_eq y k (by omega), len_eq (m := (k : Int) + 1) (by omega)]

theorem yd_eq : ∀ k : Nat, yd25 k = 365 * (k : Int) + ((k : Int) + 3) / 4
  | 0 => rfl
  | k + 1 => by
    have et : Int.tmod (2000 + (k : Int)) 4 = (2000 + (k : Int)) % 4 := Int.tmod_eq_emod_of_nonneg (by omega)
    simp only [yd25]
    rw [yd_eq k, et]
    by_cases hz : (2000 + (k : Int)) % 4 = 0
    · rw [if_pos (by simpa using hz)]; omega
    · rw [if_neg (by simpa using hz)]; omega

/-- A date that there is. -/
def Dat (y m d : Int) : Prop := (2000 ≤ y ∧ y ≤ 2099) ∧ (1 ≤ m ∧ m ≤ 12) ∧ (1 ≤ d ∧ d ≤ g34_0 y m)

def bas (y : Int) : Int := (y - 2000) * 365 + (y - 1997) / 4

theorem day_at {y m d : Int} (hy : 2000 ≤ y) : g35_0 y m d = bas y + ms35 y (m - 1).toNat + d - 1 := by
  have e : Int.tdiv (y - 1997) 4 = (y - 1997) / 4 := Int.tdiv_eq_ediv_of_nonneg (by omega)
  unfold g35_0 bs35 bas
  rw [e]; omega

theorem num_eq {y m d : Int} (h : Dat y m d) : g25_0 y m d = g35_0 y m d ∧ g25_1 y m d = true := by
  obtain ⟨h0, h1, h2⟩ := h
  have ok : ok25 y m d = true := by
    unfold ok25
    rw [in25.2 h0, in25.2 h1, len_eq h1, in25.2 h2]
    rfl
  refine ⟨?_, ok⟩
  unfold g25_0
  rw [if_pos ok, day_at h0.1, yd_eq, ms_eq y _ (by omega)]
  unfold bas
  omega

theorem dat_of {y m d : Int} (h : g25_1 y m d = true) : Dat y m d := by
  unfold g25_1 ok25 at h
  simp only [Bool.and_eq_true] at h
  have h1 := in25.1 h.2.1
  refine ⟨in25.1 h.1, h1, ?_⟩
  have := in25.1 h.2.2
  rwa [len_eq h1] at this

theorem win {x a b : Int} : g33_0 x a b = true ↔ a ≤ x ∧ x ≤ b := by
  unfold g33_0
  by_cases c1 : x ≥ a
  · by_cases c2 : x ≤ b
    · simp [c1, c2]
    · simp [c1, c2]
  · have : ¬ a ≤ x := c1
    simp [c1, this]

theorem inum {y m d : Int} (h : Dat y m d) : g17_0 y m d = g35_0 y m d ∧ g17_1 y m d = 0 := by
  obtain ⟨h0, h1, h2⟩ := h
  unfold g17_0 g17_1
  rw [win.2 h0, win.2 h1, win.2 h2]
  exact ⟨rfl, rfl⟩

theorem idat {y m d : Int} (h : g17_1 y m d = 0) : Dat y m d := by
  unfold g17_1 at h
  cases h0 : g33_0 y 2000 2099 with
  | false => rw [h0] at h; simp at h
  | true =>
    cases h1 : g33_0 m 1 12 with
    | false => rw [h0, h1] at h; simp at h
    | true =>
      cases h2 : g33_0 d 1 (g34_0 y m) with
      | false => rw [h0, h1, h2] at h; simp at h
      | true => exact ⟨win.1 h0, win.1 h1, win.1 h2⟩

theorem ms_mono {y : Int} (hy : 2000 ≤ y ∧ y ≤ 2099) (i : Nat) : ∀ j, ms35 y i ≤ ms35 y (i + j)
  | 0 => Int.le_refl _
  | j + 1 => by
    have := ms_mono hy i j
    have := (len35 hy (m := ((i + j : Nat) : Int) + 1)).2.1
    rw [← Nat.add_assoc]
    simp only [ms35]
    omega

theorem ms_year {y : Int} (hy : 2000 ≤ y ∧ y ≤ 2099) : bas y + ms35 y 12 = bas (y + 1) := by
  have et : Int.tmod y 4 = y % 4 := Int.tmod_eq_emod_of_nonneg (by omega)
  have e : ms35 y 12 = if y % 4 = 0 then 366 else 365 := by
    by_cases hz : y % 4 = 0 <;> simp [ms35, g34_0, et, hz]
  rw [e]
  unfold bas
  split <;> omega

theorem year_back {y day : Int} (hy : 2000 ≤ y ∧ y ≤ 2099) (h1 : bas y ≤ day) (h2 : day < bas (y + 1)) : ∀ (k : Nat) (z : Int), z + k = 2099 → 2000 ≤ z → z ≤ y → yr37 day k z = y := by
  have e1 : ∀ z : Int, 2000 ≤ z → g35_0 z 1 1 = bas z := fun z hz => by
    rw [day_at hz]
    show bas z + 0 + 1 - 1 = bas z
    omega
  intro k
  induction k with
  | zero => intro z hz _ hle; show z = y; omega
  | succ k ih =>
    intro z hz h0 hle
    unfold yr37
    rw [e1 (z + 1) (by omega)]
    by_cases hlt : z < y
    · rw [if_pos (by have : bas (z + 1) ≤ bas y := by unfold bas; omega
                     omega)]
      exact ih (z + 1) (by omega) (by omega) (by omega)
    · have : z = y := by omega
      subst this
      rw [if_neg (by omega)]

theorem month_back {y m day : Int} (hy : 2000 ≤ y ∧ y ≤ 2099) (hm : 1 ≤ m ∧ m ≤ 12) (h1 : bas y + ms35 y (m - 1).toNat ≤ day) (h2 : day < bas y + ms35 y m.toNat) : ∀ (k : Nat) (z : Int), z + k = 12 → 1 ≤ z → z ≤ m → mo37 day y k z = m := by
  intro k
  induction k with
  | zero => intro z hz _ hle; show z = m; omega
  | succ k ih =>
    intro z hz h0 hle
    unfold mo37
    rw [day_at hy.1, show z + 1 - 1 = z by omega]
    by_cases hlt : z < m
    · rw [if_pos (by
        have := ms_mono hy z.toNat ((m - 1).toNat - z.toNat)
        rw [show z.toNat + ((m - 1).toNat - z.toNat) = (m - 1).toNat by omega] at this
        omega)]
      exact ih (z + 1) (by omega) (by omega) (by omega)
    · have : z = m := by omega
      subst this
      rw [if_neg (by omega)]

theorem date_back {y m d : Int} (h : Dat y m d) : (0 ≤ g35_0 y m d ∧ g35_0 y m d ≤ 36524) ∧ g37_0 (g35_0 y m d) = y ∧ g37_1 (g35_0 y m d) = m ∧ g37_2 (g35_0 y m d) = d := by
  obtain ⟨h0, h1, h2⟩ := h
  have ed := day_at (m := m) (d := d) h0.1
  have hb := msb35 h0 (m - 1).toNat
  have hms : ms35 y m.toNat = ms35 y (m - 1).toNat + g34_0 y m := by
    obtain ⟨k, hk⟩ : ∃ k : Nat, m = (k : Int) + 1 := ⟨(m - 1).toNat, by omega⟩
    subst hk
    rw [show ((k : Int) + 1).toNat = k + 1 by omega, show ((k : Int) + 1 - 1).toNat = k by omega]
    rfl
  have hy12 := ms_year h0
  have hmono := ms_mono h0 m.toNat (12 - m.toNat)
  rw [show m.toNat + (12 - m.toNat) = 12 by omega] at hmono
  have hbas : 0 ≤ bas y ∧ bas (y + 1) ≤ 36525 := by unfold bas; omega
  have a0 : g37_0 (g35_0 y m d) = y := year_back h0 (by omega) (by omega) 99 2000 (by omega) (by omega) (by omega)
  have a1 : g37_1 (g35_0 y m d) = m := by
    unfold g37_1
    rw [a0]
    exact month_back h0 h1 (by omega) (by omega) 11 1 (by omega) (by omega) (by omega)
  refine ⟨by omega, a0, a1, ?_⟩
  unfold g37_2
  rw [a0, a1, day_at (m := m) (d := 1) h0.1]
  omega

end Go.Proofs.YteaocgmbhkclcaaDoor

/- A law that says how functions of the program and of the specification hang together. -/
set_option linter.unusedVariables false
set_option linter.unusedSimpArgs false
set_option maxRecDepth 100000
namespace Go.Proofs.YteaocgmbhkclcaaDoor
open Go Go.Am Go.Proofs

/-- The sign of a digit. -/
def D10 (a : Nat) : UInt8 := UInt8.ofNat (48 + a)
theorem D10_nat {a : Nat} (h : a < 10) : (D10 a).toNat = 48 + a := by unfold D10; rw [UInt8.toNat_ofNat']; omega
theorem D10_of {b : UInt8} (h : 48 ≤ b.toNat ∧ b.toNat ≤ 57) : b = D10 (b.toNat - 48) := by
  rw [← UInt8.toNat_inj, D10_nat (by omega)]; omega
theorem D10_inj {a b : Nat} (ha : a < 10) (hb : b < 10) (h : D10 a = D10 b) : a = b := by
  have := congrArg UInt8.toNat h
  rw [D10_nat ha, D10_nat hb] at this
  omega

theorem num_one {n : Nat} (h : n < 10) : numB (n : Int) = ⟨⟨[D10 n]⟩⟩ := by
  unfold numB Lib.itoa
  rw [if_neg (by omega), Int.toNat_natCast, Lib.decDigits_one h]
  rfl
theorem num_two {n : Nat} (h1 : 10 ≤ n) (h : n < 100) : numB (n : Int) = ⟨⟨[D10 (n / 10), D10 (n % 10)]⟩⟩ := by
  unfold numB Lib.itoa
  rw [if_neg (by omega), Int.toNat_natCast, Lib.decDigits_two (by omega) h]
  rfl

theorem pad_two {n : Nat} (h : n < 100) : P38 (n : Int) 2 ∧ g38_0 (n : Int) 2 = ⟨⟨[D10 (n / 10), D10 (n % 10)]⟩⟩ := by
  unfold P38 g38_0
  have e : g22_0 (n : Int) = numB (n : Int) := rfl
  rw [e]
  by_cases h1 : n < 10
  · rw [num_one h1]
    have e0 : n / 10 = 0 := by omega
    have e1 : n % 10 = n := by omega
    rw [e0, e1]
    have e2 : (ByteArray.mk (Array.mk [D10 n])).size = 1 := rfl
    rw [e2]
    exact ⟨⟨⟨rfl, trivial⟩, by rw [i64_iff]; decide, ⟨by decide, by decide⟩, by show 1 + 1 ≤ _; decide, trivial⟩, rfl⟩
  · rw [num_two (by omega) h]
    have e2 : (ByteArray.mk (Array.mk [D10 (n / 10), D10 (n % 10)])).size = 2 := rfl
    rw [e2]
    exact ⟨⟨⟨rfl, trivial⟩, by rw [i64_iff]; decide, ⟨by decide, by decide⟩, by show 0 + 2 ≤ _; decide, trivial⟩, rfl⟩

theorem num_bound : ∀ (l : List UInt8) (m i : Nat), m < 10 ^ i → i + l.length ≤ 12 → -1 ≤ num18 l (m : Int) ∧ num18 l (m : Int) < 1000000000000
  | [], m, i, h, hi => by
    have hp : 10 ^ i ≤ 10 ^ 12 := Nat.pow_le_pow_right (by decide) (by simp at hi; omega)
    have : m < 1000000000000 := Nat.lt_of_lt_of_le h hp
    show -1 ≤ (m : Int) ∧ (m : Int) < 1000000000000
    omega
  | b :: r, m, i, h, hi => by
    unfold num18
    split
    · rename_i hd
      have hd' : 48 ≤ b.toNat ∧ b.toNat ≤ 57 := by simpa using hd
      have e1 : 10 * (m : Int) + ((b.toNat : Int) - 48) = ((10 * m + (b.toNat - 48) : Nat) : Int) := by omega
      rw [e1]
      exact num_bound r _ (i + 1) (by rw [Nat.pow_succ]; omega) (by simp at hi; omega)
    · omega

theorem number_bound (x : ByteArray) : -1 ≤ g18_0 x ∧ g18_0 x < 1000000000000 := by
  unfold g18_0
  split
  · omega
  · rename_i h
    have : x.data.toList.length = x.size := rfl
    exact num_bound x.data.toList 0 0 (by decide) (by omega)

theorem number_two {a b : Nat} (ha : a < 10) (hb : b < 10) : g18_0 ⟨⟨[D10 a, D10 b]⟩⟩ = ((10 * a + b : Nat) : Int) := by
  unfold g18_0
  rw [if_neg (by show ¬ (2 < 1 ∨ 12 < 2); omega)]
  show num18 [D10 a, D10 b] 0 = _
  simp only [num18, D10_nat ha, D10_nat hb, decide_eq_true_eq, Bool.and_eq_true]
  rw [if_pos (by omega), if_pos (by omega)]
  omega


end Go.Proofs.YteaocgmbhkclcaaDoor

/- A law that says how functions of the program and of the specification hang together. -/
set_option linter.unusedVariables false
set_option linter.unusedSimpArgs false
set_option maxRecDepth 100000
namespace Go.Proofs.YteaocgmbhkclcaaDoor
open Go Go.Am Go.Proofs

/-- A digit. -/
def isD (b : UInt8) : Prop := 48 ≤ b.toNat ∧ b.toNat ≤ 57
/-- The value of digits. -/
def dval : List UInt8 → Nat → Nat
  | [], n => n
  | b :: r, n => dval r (10 * n + (b.toNat - 48))
theorem dval_append : ∀ (l : List UInt8) (b : UInt8) (n : Nat), dval (l ++ [b]) n = 10 * dval l n + (b.toNat - 48)
  | [], _, _ => rfl
  | c :: r, b, n => dval_append r b _
theorem dval_pos : ∀ (l : List UInt8) (n : Nat), 1 ≤ n → 1 ≤ dval l n
  | [], _, h => h
  | b :: r, n, h => dval_pos r _ (by omega)

theorem dsign_nat {a : Nat} (h : a < 10) : (UInt8.ofNat (48 + a)).toNat = 48 + a := by rw [UInt8.toNat_ofNat']; omega

theorem dec_facts (n : Nat) : (∀ b ∈ Lib.decDigits n, isD b) ∧ dval (Lib.decDigits n) 0 = n ∧ 0 < (Lib.decDigits n).length ∧ (1 ≤ n → ((Lib.decDigits n).getD 0 0).toNat ≠ 48) := by
  induction n using Nat.strongRecOn with
  | _ n ih =>
    by_cases h : n < 10
    · rw [Lib.decDigits, dif_pos h]
      have e := dsign_nat h
      refine ⟨fun b hb => ?_, ?_, by simp, fun h1 => ?_⟩
      · rw [List.mem_singleton.1 hb]; unfold isD; omega
      · show 10 * 0 + ((UInt8.ofNat (48 + n)).toNat - 48) = n; omega
      · show (UInt8.ofNat (48 + n)).toNat ≠ 48; omega
    · rw [Lib.decDigits, dif_neg h]
      obtain ⟨i1, i2, i3, i4⟩ := ih (n / 10) (by omega)
      have e := dsign_nat (a := n % 10) (by omega)
      refine ⟨fun b hb => ?_, ?_, by simp, fun h1 => ?_⟩
      · rcases List.mem_append.1 hb with hb | hb
        · exact i1 b hb
        · rw [List.mem_singleton.1 hb]; unfold isD; omega
      · rw [dval_append, i2, e]; omega
      · have i4 := i4 (by omega)
        cases hd : Lib.decDigits (n / 10) with
        | nil => rw [hd] at i3; simp at i3
        | cons c r => rw [hd] at i4; exact i4

theorem dec_canon (n : Nat) : ∀ l : List UInt8, l.length = n → (∀ b ∈ l, isD b) → 0 < l.length → ((l.getD 0 0).toNat ≠ 48 ∨ l.length = 1) → Lib.decDigits (dval l 0) = l := by
  induction n with
  | zero => intro l hl _ h0 _; omega
  | succ n ih =>
    intro l hl hd h0 hc
    rcases List.eq_nil_or_concat l with rfl | ⟨l', b, rfl⟩
    · simp at h0
    · rw [List.concat_eq_append] at *
      have hb : isD b := hd b (by simp)
      unfold isD at hb
      rw [dval_append]
      cases l' with
      | nil =>
        rw [Lib.decDigits, dif_pos (by show 10 * 0 + (b.toNat - 48) < 10; omega)]
        show [UInt8.ofNat (48 + (10 * 0 + (b.toNat - 48)))] = [b]
        congr 1
        rw [← UInt8.toNat_inj, UInt8.toNat_ofNat']; omega
      | cons c r =>
        have hc' : c.toNat ≠ 48 := by
          rcases hc with hc | hc
          · exact hc
          · simp at hc
        have hcd : isD c := hd c (by simp)
        unfold isD at hcd
        have hp : 1 ≤ dval (c :: r) 0 := dval_pos r _ (by omega)
        have hi := ih (c :: r) (by simp at hl ⊢; omega) (fun x hx => hd x (List.mem_append_left _ hx)) (by simp) (.inl hc')
        rw [Lib.decDigits, dif_neg (by omega), show (10 * dval (c :: r) 0 + (b.toNat - 48)) / 10 = dval (c :: r) 0 by omega, hi, show (10 * dval (c :: r) 0 + (b.toNat - 48)) % 10 = b.toNat - 48 by omega]
        congr 2
        rw [← UInt8.toNat_inj, UInt8.toNat_ofNat']; omega

theorem dec_len : ∀ (k n : Nat), n < 10 ^ (k + 1) → (Lib.decDigits n).length ≤ k + 1
  | 0, n, h => by rw [Lib.decDigits, dif_pos (by simpa using h)]; simp
  | k + 1, n, h => by
    rw [Lib.decDigits]
    split
    · simp
    · have := dec_len k (n / 10) (by rw [Nat.pow_succ] at h; omega)
      simp; omega


end Go.Proofs.YteaocgmbhkclcaaDoor

/- A law that says how functions of the program and of the specification hang together. -/
set_option linter.unusedVariables false
set_option linter.unusedSimpArgs false
set_option maxRecDepth 100000
namespace Go.Proofs.YteaocgmbhkclcaaDoor
open Go Go.Am Go.Proofs

theorem number_dec {n : Nat} (h : n < 1000000000000) : g18_0 ⟨⟨Lib.decDigits n⟩⟩ = (n : Int) := by
  have key : ∀ (l : List UInt8) (m : Nat), (∀ b ∈ l, isD b) → num18 l (m : Int) = (dval l m : Nat) := by
    intro l
    induction l with
    | nil => intro m _; rfl
    | cons b r ih =>
      intro m hd
      have hb : isD b := hd b (List.mem_cons_self ..)
      unfold isD at hb
      unfold num18
      rw [if_pos (by simpa using hb)]
      have e1 : 10 * (m : Int) + ((b.toNat : Int) - 48) = ((10 * m + (b.toNat - 48) : Nat) : Int) := by omega
      rw [e1]
      exact ih _ (fun c hc => hd c (List.mem_cons_of_mem _ hc))
  obtain ⟨d1, d2, d3, _⟩ := dec_facts n
  have hl := dec_len 11 n (by omega)
  have hs : (ByteArray.mk ⟨Lib.decDigits n⟩).size = (Lib.decDigits n).length := rfl
  unfold g18_0
  rw [if_neg (by omega)]
  have := key (Lib.decDigits n) 0 d1
  rw [d2] at this
  exact this

end Go.Proofs.YteaocgmbhkclcaaDoor

/- A law that says how functions of the program and of the specification hang together. -/
set_option linter.unusedVariables false
set_option linter.unusedSimpArgs false
set_option maxRecDepth 100000
namespace Go.Proofs.YteaocgmbhkclcaaDoor
open Go Go.Am Go.Proofs

/-- The text of a date. -/
def y4 (y : Nat) : List UInt8 := [50, 48, D10 (y % 100 / 10), D10 (y % 10)]
def dT (y m d : Nat) : ByteArray := ⟨⟨y4 y ++ 45 :: ([D10 (m / 10), D10 (m % 10)] ++ 45 :: [D10 (d / 10), D10 (d % 10)])⟩⟩

theorem dec_y4 {y : Nat} (h : 2000 ≤ y ∧ y ≤ 2099) : Lib.decDigits y = y4 y := by
  have e1 : y / 10 / 10 = 20 := by omega
  have e2 : y / 10 % 10 = y % 100 / 10 := by omega
  rw [Lib.decDigits, dif_neg (by omega), Lib.decDigits, dif_neg (by omega), e1, e2, Lib.decDigits, dif_neg (by decide), Lib.decDigits, dif_pos (by decide)]
  rfl

theorem dec_big {y : Nat} (h : 2000 ≤ y ∧ y ≤ 2099) : g22_0 (y : Int) = ⟨⟨y4 y⟩⟩ := by
  rw [← dec_y4 h]
  show numB _ = _
  unfold numB Lib.itoa
  rw [if_neg (by omega), Int.toNat_natCast]

theorem D10_ne {a : Nat} (h : a < 10) : D10 a ≠ 45 := fun e => by
  have := congrArg UInt8.toNat e
  have e45 : (45 : UInt8).toNat = 45 := rfl
  rw [D10_nat h] at this
  omega

theorem two_free {a b : Nat} (ha : a < 10) (hb : b < 10) : (45 : UInt8) ∉ [D10 a, D10 b] := fun hm => by
  simp only [List.mem_cons, List.mem_nil_iff, or_false] at hm
  rcases hm with e | e
  · exact D10_ne ha e.symm
  · exact D10_ne hb e.symm

theorem y4_free (y : Nat) : (45 : UInt8) ∉ y4 y := fun hm => by
  unfold y4 at hm
  simp only [List.mem_cons, List.mem_nil_iff, or_false] at hm
  rcases hm with e | e | e | e
  · cases e
  · cases e
  · exact D10_ne (by omega) e.symm
  · exact D10_ne (by omega) e.symm

theorem dt_split {y m d : Nat} (hm : m < 100) (hd : d < 100) : g8_0 (dT y m d) (ByteArray.mk #[45]) = [⟨⟨y4 y⟩⟩, ⟨⟨[D10 (m / 10), D10 (m % 10)]⟩⟩, ⟨⟨[D10 (d / 10), D10 (d % 10)]⟩⟩] := by
  have e : g8_0 (dT y m d) (ByteArray.mk #[45]) = bss (splitC 45 (dT y m d).data.toList) := splitB_one 45 (dT y m d)
  rw [e]
  show bss (splitC 45 (y4 y ++ 45 :: ([D10 (m / 10), D10 (m % 10)] ++ 45 :: [D10 (d / 10), D10 (d % 10)]))) = _
  rw [splitC_hit 45 _ (y4_free y), splitC_hit 45 _ (two_free (by omega) (by omega)), splitC_free 45 (two_free (by omega) (by omega))]
  rfl

theorem date_nat {y m d : Int} (h : Dat y m d) : ∃ a b c : Nat, y = (a : Int) ∧ m = (b : Int) ∧ d = (c : Int) ∧ (2000 ≤ a ∧ a ≤ 2099) ∧ (1 ≤ b ∧ b ≤ 12) ∧ (1 ≤ c ∧ c ≤ 31) := by
  obtain ⟨h0, h1, h2⟩ := h
  have := (len35 h0 (m := m)).2.2
  exact ⟨y.toNat, m.toNat, d.toNat, by omega, by omega, by omega, by omega, by omega, by omega⟩

theorem date_text {a b c : Nat} (h : Dat (a : Int) (b : Int) (c : Int)) (ha : 2000 ≤ a ∧ a ≤ 2099) (hb : b ≤ 12) (hc : c ≤ 31) : g19_0 (g35_0 (a : Int) (b : Int) (c : Int)) = dT a b c := by
  obtain ⟨hd, e0, e1, e2⟩ := date_back h
  have hi : g36_0 (g35_0 (a : Int) (b : Int) (c : Int)) = true := win.2 hd
  unfold g19_0
  rw [hi, e0, e1, e2, dec_big ha, (pad_two (n := b) (by omega)).2, (pad_two (n := c) (by omega)).2]
  apply ByteArray.ext
  apply Array.ext'
  simp [ByteArray.data_append, dT]

theorem date_pre (n : Int) : P19 n → True := fun _ => trivial

theorem text_pre {y m d : Int} (h : Dat y m d) : P19 (g35_0 y m d) := by
  obtain ⟨a, b, c, rfl, rfl, rfl, ha, hb, hc⟩ := date_nat h
  obtain ⟨hd, e0, e1, e2⟩ := date_back h
  unfold P19
  rw [e0, e1, e2, dec_big ha]
  obtain ⟨p1, q1⟩ := pad_two (n := b) (by omega)
  obtain ⟨p2, q2⟩ := pad_two (n := c) (by omega)
  rw [q1, q2]
  have s4 : (ByteArray.mk ⟨y4 a⟩).size = 4 := rfl
  have s1 : (ByteArray.mk #[45]).size = 1 := rfl
  have s2 : ∀ u v : UInt8, (ByteArray.mk ⟨[u, v]⟩).size = 2 := fun _ _ => rfl
  by_cases hc : (!g36_0 (g35_0 (a : Int) (b : Int) (c : Int))) = true
  · rw [if_pos hc]; trivial
  · rw [if_neg hc]
    simp only [ByteArray.size_append, s4, s1, s2]
    exact ⟨⟨by omega, by omega⟩, ⟨rfl, trivial⟩, by omega, p1, by omega, by omega, p2, by omega, trivial⟩

theorem number_y4 {y : Nat} (h : 2000 ≤ y ∧ y ≤ 2099) : g18_0 ⟨⟨y4 y⟩⟩ = (y : Int) := by
  rw [← dec_y4 h]
  exact number_dec (by omega)

theorem date_i1 {a b c : Nat} (h : Dat (a : Int) (b : Int) (c : Int)) (ha : 2000 ≤ a ∧ a ≤ 2099) (hb : b ≤ 12) (hc : c ≤ 31) : g9_0 (dT a b c) = g35_0 (a : Int) (b : Int) (c : Int) ∧ g9_1 (dT a b c) = true := by
  have n1 := number_y4 ha
  have n2 : g18_0 ⟨⟨[D10 (b / 10), D10 (b % 10)]⟩⟩ = (b : Int) := by rw [number_two (by omega) (by omega)]; omega
  have n3 : g18_0 ⟨⟨[D10 (c / 10), D10 (c % 10)]⟩⟩ = (c : Int) := by rw [number_two (by omega) (by omega)]; omega
  obtain ⟨i0, i1⟩ := inum h
  unfold g9_0 g9_1
  rw [dt_split (by omega) (by omega)]
  have g0 : List.getD [(⟨⟨y4 a⟩⟩ : ByteArray), ⟨⟨[D10 (b / 10), D10 (b % 10)]⟩⟩, ⟨⟨[D10 (c / 10), D10 (c % 10)]⟩⟩] 0 ByteArray.empty = ⟨⟨y4 a⟩⟩ := rfl
  have g1 : List.getD [(⟨⟨y4 a⟩⟩ : ByteArray), ⟨⟨[D10 (b / 10), D10 (b % 10)]⟩⟩, ⟨⟨[D10 (c / 10), D10 (c % 10)]⟩⟩] 1 ByteArray.empty = ⟨⟨[D10 (b / 10), D10 (b % 10)]⟩⟩ := rfl
  have g2 : List.getD [(⟨⟨y4 a⟩⟩ : ByteArray), ⟨⟨[D10 (b / 10), D10 (b % 10)]⟩⟩, ⟨⟨[D10 (c / 10), D10 (c % 10)]⟩⟩] 2 ByteArray.empty = ⟨⟨[D10 (c / 10), D10 (c % 10)]⟩⟩ := rfl
  have gl : (([(⟨⟨y4 a⟩⟩ : ByteArray), ⟨⟨[D10 (b / 10), D10 (b % 10)]⟩⟩, ⟨⟨[D10 (c / 10), D10 (c % 10)]⟩⟩].length : Nat) : Int) = 3 := rfl
  simp only [g0, g1, g2, gl, n1, n2, n3, i0, i1, date_text h ha hb hc, bne_self_eq_false, beq_self_eq_true, Bool.not_true, Bool.false_eq_true, if_false, and_self]

theorem date_i2 {x : ByteArray} (hx : g9_1 x = true) : ∃ a b c : Nat, Dat (a : Int) (b : Int) (c : Int) ∧ (2000 ≤ a ∧ a ≤ 2099) ∧ (1 ≤ b ∧ b ≤ 12) ∧ (1 ≤ c ∧ c ≤ 31) ∧ x = dT a b c := by
  unfold g9_1 at hx
  generalize g18_0 (List.getD (g8_0 x (ByteArray.mk #[45])) 0 ByteArray.empty) = y at hx
  generalize g18_0 (List.getD (g8_0 x (ByteArray.mk #[45])) 1 ByteArray.empty) = m at hx
  generalize g18_0 (List.getD (g8_0 x (ByteArray.mk #[45])) 2 ByteArray.empty) = d at hx
  split at hx
  · cases hx
  · split at hx
    · cases hx
    · rename_i h1
      split at hx
      · cases hx
      · rename_i h2
        have h : Dat y m d := idat (by simpa using h1)
        obtain ⟨a, b, c, rfl, rfl, rfl, ha, hb, hc⟩ := date_nat h
        have h2' : g19_0 (g17_0 (a : Int) (b : Int) (c : Int)) = x := (bytes_eq _ _).1 (by simpa using h2)
        rw [(inum h).1, date_text h ha (by omega) (by omega)] at h2'
        exact ⟨a, b, c, h, ha, hb, hc, h2'.symm⟩

theorem chI {c : Prop} [Decidable c] {B : Bool} {A : Int} (h : B = false → A = 0) (hx : (if c then false else B) = false) : (if c then 0 else A) = 0 := by
  split at hx
  · rename_i hc; rw [if_pos hc]
  · rename_i hc; rw [if_neg hc]; exact h hx

theorem date_i3 {x : ByteArray} (hx : g9_1 x = false) : g9_0 x = 0 :=
  (chI (chI (chI (fun h => by cases h)))) hx

theorem date_s3 {x : ByteArray} (hx : g13_1 x = false) : g13_0 x = 0 :=
  (chI (chI (chI (chI (chI (chI (fun h => by
    unfold g25_0
    unfold g25_1 at h
    rw [h]; rfl))))))) hx

theorem digs_v : ∀ (l : List UInt8) (m : Nat), (∀ b ∈ l, isD b) → dig24 l (m : Int) = (((dval l m : Nat) : Int), true)
  | [], _, _ => rfl
  | b :: r, m, hd => by
    have hb : isD b := hd b (List.mem_cons_self ..)
    unfold isD at hb
    unfold dig24 d24
    rw [if_pos (by simpa using hb)]
    have e1 : 10 * (m : Int) + ((b.toNat : Int) - 48) = ((10 * m + (b.toNat - 48) : Nat) : Int) := by omega
    rw [e1]
    exact digs_v r _ (fun c hc => hd c (List.mem_cons_of_mem _ hc))

theorem digs_all : ∀ (l : List UInt8) (n : Int), (dig24 l n).2 = true → ∀ b ∈ l, isD b
  | [], n, h, b, hb => by cases hb
  | c :: r, n, h, b, hb => by
    unfold dig24 at h
    split at h
    · rename_i hd
      rcases List.mem_cons.1 hb with rfl | hb
      · unfold d24 at hd; unfold isD; simpa using hd
      · exact digs_all r _ h b hb
    · cases h

theorem dig_two {a b : UInt8} (h : g24_1 ⟨⟨[a, b]⟩⟩ = true) : ∃ n : Nat, n < 100 ∧ g24_0 ⟨⟨[a, b]⟩⟩ = (n : Int) ∧ [a, b] = [D10 (n / 10), D10 (n % 10)] := by
  have hall := digs_all [a, b] 0 h
  have ha : isD a := hall a (by simp)
  have hb : isD b := hall b (by simp)
  have hv := digs_v [a, b] 0 hall
  unfold isD at ha hb
  refine ⟨10 * (a.toNat - 48) + (b.toNat - 48), by omega, ?_, ?_⟩
  · have := congrArg Prod.fst hv
    show (dig24 [a, b] 0).1 = _
    refine Eq.trans this ?_
    show ((dval [a, b] 0 : Nat) : Int) = _
    simp [dval]
  · rw [show (10 * (a.toNat - 48) + (b.toNat - 48)) / 10 = a.toNat - 48 by omega, show (10 * (a.toNat - 48) + (b.toNat - 48)) % 10 = b.toNat - 48 by omega, ← D10_of ha, ← D10_of hb]

theorem two_dig {n : Nat} (h : n < 100) : g24_0 ⟨⟨[D10 (n / 10), D10 (n % 10)]⟩⟩ = (n : Int) ∧ g24_1 ⟨⟨[D10 (n / 10), D10 (n % 10)]⟩⟩ = true := by
  have x1 := D10_nat (a := n / 10) (by omega)
  have x2 := D10_nat (a := n % 10) (by omega)
  have hall : ∀ b ∈ [D10 (n / 10), D10 (n % 10)], isD b := fun b hb => by
    simp only [List.mem_cons, List.mem_nil_iff, or_false] at hb
    unfold isD
    rcases hb with rfl | rfl <;> omega
  have hv := digs_v _ 0 hall
  refine ⟨?_, congrArg Prod.snd hv⟩
  have := congrArg Prod.fst hv
  refine Eq.trans this ?_
  simp only [dval, x1, x2]
  omega

theorem y4_dig {y : Nat} (h : 2000 ≤ y ∧ y ≤ 2099) : g24_0 ⟨⟨y4 y⟩⟩ = (y : Int) ∧ g24_1 ⟨⟨y4 y⟩⟩ = true := by
  obtain ⟨d1, d2, _, _⟩ := dec_facts y
  rw [dec_y4 h] at d1 d2
  have hv := digs_v (y4 y) 0 d1
  rw [d2] at hv
  exact ⟨congrArg Prod.fst hv, congrArg Prod.snd hv⟩

theorem dig_four {l : List UInt8} (hl : l.length = 4) (h : g24_1 ⟨⟨l⟩⟩ = true) (hy : 2000 ≤ g24_0 ⟨⟨l⟩⟩ ∧ g24_0 ⟨⟨l⟩⟩ ≤ 2099) : ∃ n : Nat, (2000 ≤ n ∧ n ≤ 2099) ∧ g24_0 ⟨⟨l⟩⟩ = (n : Int) ∧ l = y4 n := by
  have hall := digs_all l 0 h
  have hv := digs_v l 0 hall
  have e : g24_0 ⟨⟨l⟩⟩ = ((dval l 0 : Nat) : Int) := congrArg Prod.fst hv
  rw [e] at hy
  refine ⟨dval l 0, by omega, e, ?_⟩
  rw [← dec_y4 (by omega)]
  refine (dec_canon l.length l rfl hall (by omega) (.inl ?_)).symm
  match l, hl with
  | [a, b, c, f], _ =>
    intro h0
    have ha := hall a (by simp)
    have hb := hall b (by simp)
    have hc := hall c (by simp)
    have hf := hall f (by simp)
    unfold isD at ha hb hc hf
    have h0' : a.toNat = 48 := h0
    simp only [dval] at hy
    omega

theorem ext_of2 (l : List UInt8) (a b : Nat) : ByteArray.extract ⟨⟨l⟩⟩ a b = ⟨⟨(l.drop a).take (b - a)⟩⟩ := Lib.extract_mk l a b

theorem by45 {b : UInt8} : (((b.toNat : Nat) : Int) != 45) = true ↔ b ≠ 45 := by
  rw [bne_iff_ne]
  constructor
  · intro h e; apply h; rw [e]; rfl
  · intro h e; apply h
    apply UInt8.toNat_inj.1
    show b.toNat = 45
    omega

theorem date_s1 {a b c : Nat} (h : Dat (a : Int) (b : Int) (c : Int)) (ha : 2000 ≤ a ∧ a ≤ 2099) (hb : b ≤ 12) (hc : c ≤ 31) : g13_0 (dT a b c) = g35_0 (a : Int) (b : Int) (c : Int) ∧ g13_1 (dT a b c) = true := by
  obtain ⟨y1, y2⟩ := y4_dig ha
  obtain ⟨m1, m2⟩ := two_dig (n := b) (by omega)
  obtain ⟨d1, d2⟩ := two_dig (n := c) (by omega)
  obtain ⟨n1, n2⟩ := num_eq h
  have es : (((dT a b c).size : Nat) : Int) = 10 := rfl
  have g4 : (((((dT a b c).data.toList).getD 4 0).toNat : Nat) : Int) = 45 := rfl
  have g7 : (((((dT a b c).data.toList).getD 7 0).toNat : Nat) : Int) = 45 := rfl
  have x1 : ByteArray.extract (dT a b c) 0 4 = ⟨⟨y4 a⟩⟩ := ext_of2 _ 0 4
  have x2 : ByteArray.extract (dT a b c) 5 7 = ⟨⟨[D10 (b / 10), D10 (b % 10)]⟩⟩ := ext_of2 _ 5 7
  have x3 : ByteArray.extract (dT a b c) 8 (Int.toNat 10) = ⟨⟨[D10 (c / 10), D10 (c % 10)]⟩⟩ := ext_of2 _ 8 10
  unfold g13_0 g13_1
  simp only [es, g4, g7, x1, x2, x3, y1, y2, m1, m2, d1, d2, n1, n2, bne_self_eq_false, Bool.not_true, Bool.false_eq_true, if_false, and_self]

theorem date_s2 {x : ByteArray} (hx : g13_1 x = true) : ∃ a b c : Nat, Dat (a : Int) (b : Int) (c : Int) ∧ (2000 ≤ a ∧ a ≤ 2099) ∧ (1 ≤ b ∧ b ≤ 12) ∧ (1 ≤ c ∧ c ≤ 31) ∧ x = dT a b c := by
  unfold g13_1 at hx
  split at hx
  · cases hx
  rename_i h0
  have hs : x.size = 10 := by
    have : ((x.size : Nat) : Int) = 10 := by simpa using h0
    omega
  obtain ⟨⟨l⟩⟩ := x
  have hl : l.length = 10 := hs
  match l, hl with
  | [p, q, r, s, t, u, v, w, z, o], _ =>
    have es : (((ByteArray.mk ⟨[p, q, r, s, t, u, v, w, z, o]⟩).size : Nat) : Int) = 10 := rfl
    have x1 : ByteArray.extract ⟨⟨[p, q, r, s, t, u, v, w, z, o]⟩⟩ 0 4 = ⟨⟨[p, q, r, s]⟩⟩ := ext_of2 _ 0 4
    have x2 : ByteArray.extract ⟨⟨[p, q, r, s, t, u, v, w, z, o]⟩⟩ 5 7 = ⟨⟨[u, v]⟩⟩ := ext_of2 _ 5 7
    have x3 : ByteArray.extract ⟨⟨[p, q, r, s, t, u, v, w, z, o]⟩⟩ 8 (Int.toNat 10) = ⟨⟨[z, o]⟩⟩ := ext_of2 _ 8 10
    have g4 : List.getD (Array.toList (ByteArray.data ⟨⟨[p, q, r, s, t, u, v, w, z, o]⟩⟩)) 4 0 = t := rfl
    have g7 : List.getD (Array.toList (ByteArray.data ⟨⟨[p, q, r, s, t, u, v, w, z, o]⟩⟩)) 7 0 = w := rfl
    rw [es, x1, x2, x3, g4, g7] at hx
    split at hx
    · cases hx
    rename_i h1
    split at hx
    · cases hx
    rename_i h2
    split at hx
    · cases hx
    rename_i h3
    split at hx
    · cases hx
    rename_i h4
    split at hx
    · cases hx
    rename_i h5
    have h1' : t = 45 := Classical.byContradiction fun e => h1 (by45.2 e)
    have h2' : w = 45 := Classical.byContradiction fun e => h2 (by45.2 e)
    have hD := dat_of hx
    obtain ⟨a, ha, ea, la⟩ := dig_four (l := [p, q, r, s]) rfl (by simpa using h3) hD.1
    obtain ⟨b, hb, eb, lb⟩ := dig_two (a := u) (b := v) (by simpa using h4)
    obtain ⟨c, hc, ec, lc⟩ := dig_two (a := z) (b := o) (by simpa using h5)
    rw [ea, eb, ec] at hD
    obtain ⟨a', b', c', e1, e2, e3, r1, r2, r3⟩ := date_nat hD
    refine ⟨a, b, c, hD, by omega, by omega, by omega, ?_⟩
    unfold dT
    rw [← la, ← lb, ← lc, h1', h2']
    rfl

theorem read_date (x : ByteArray) (h : x.size ≤ 1048576) : P13 x ∧ P9 x ∧ g9_0 x = g13_0 x ∧ g9_1 x = g13_1 x := by
  have ifT3 : ∀ {c : Prop} [Decidable c] {Q : Prop}, (¬ c → Q) → if c then True else Q := by
    intro c _ Q h
    by_cases hc : c
    · rw [if_pos hc]; trivial
    · rw [if_neg hc]; exact h hc
  refine ⟨?_, ?_, ?_⟩
  · unfold P13
    refine ifT3 fun h0 => ?_
    have hs : ((x.size : Nat) : Int) = 10 := by simpa using h0
    have k : ∀ a b : Nat, a ≤ b → b ≤ 10 → P24 (ByteArray.extract x a b) := fun a b _ hb => by
      show (ByteArray.extract x a b).size ≤ 18
      rw [ByteArray.size_extract]; omega
    refine ⟨by omega, ifT3 fun _ => ⟨by omega, ifT3 fun _ => ⟨by omega, k 0 4 (by omega) (by omega), by omega, k 5 7 (by omega) (by omega), by omega, k 8 _ (by omega) (by omega), trivial⟩⟩⟩
  · unfold P9
    refine ⟨⟨by omega, Nat.le_refl 1⟩, ifT3 fun h0 => ?_⟩
    have hl : (((g8_0 x (ByteArray.mk #[45])).length : Nat) : Int) = 3 := by simpa using h0
    generalize g18_0 (List.getD (g8_0 x (ByteArray.mk #[45])) 0 ByteArray.empty) = y
    generalize g18_0 (List.getD (g8_0 x (ByteArray.mk #[45])) 1 ByteArray.empty) = m
    generalize g18_0 (List.getD (g8_0 x (ByteArray.mk #[45])) 2 ByteArray.empty) = d
    refine ⟨by omega, by omega, by omega, ?_, ifT3 fun h1 => ?_⟩
    · unfold P17
      refine ifT3 fun a1 => ifT3 fun a2 => ?_
      have a1' := win.1 (show g33_0 y 2000 2099 = true by simpa using a1)
      have a2' := win.1 (show g33_0 m 1 12 = true by simpa using a2)
      obtain ⟨l0, l1, l2⟩ := len35 a1' (m := m)
      refine ⟨l0, ifT3 fun a3 => ?_⟩
      have a3' := win.1 (show g33_0 d 1 (g34_0 y m) = true by simpa using a3)
      exact ⟨⟨a1', a2', by omega⟩, trivial⟩
    · have hD : Dat y m d := idat (by simpa using h1)
      rw [(inum hD).1]
      exact ⟨text_pre hD, trivial⟩
  · cases hs : g13_1 x with
    | true =>
      obtain ⟨a, b, c, hD, ha, hb, hc, rfl⟩ := date_s2 hs
      obtain ⟨i0, i1⟩ := date_i1 hD ha (by omega) (by omega)
      obtain ⟨s0, s1⟩ := date_s1 hD ha (by omega) (by omega)
      rw [i0, s0]
      exact ⟨rfl, i1⟩
    | false =>
      cases hi : g9_1 x with
      | true =>
        obtain ⟨a, b, c, hD, ha, hb, hc, rfl⟩ := date_i2 hi
        rw [(date_s1 hD ha (by omega) (by omega)).2] at hs
        cases hs
      | false => exact ⟨(date_i3 hi).trans (date_s3 hs).symm, rfl⟩

/-- What is read of any text is the day of a date; its text is that text just if it is taken. -/
theorem dat0 : Dat ((2000 : Nat) : Int) ((1 : Nat) : Int) ((1 : Nat) : Int) := by
  refine ⟨⟨by omega, by omega⟩, ⟨by omega, by omega⟩, by omega, ?_⟩
  have := (len35 (y := ((2000 : Nat) : Int)) ⟨by omega, by omega⟩ (m := ((1 : Nat) : Int))).2.1
  omega

theorem day0 : g35_0 ((2000 : Nat) : Int) ((1 : Nat) : Int) ((1 : Nat) : Int) = 0 := by
  rw [day_at (by omega)]
  rfl

theorem date_any (x : ByteArray) : ∃ a b c : Nat, Dat (a : Int) (b : Int) (c : Int) ∧ (2000 ≤ a ∧ a ≤ 2099) ∧ b ≤ 12 ∧ c ≤ 31 ∧ g9_0 x = g35_0 (a : Int) (b : Int) (c : Int) ∧ (g9_1 x = true ↔ x = dT a b c) := by
  cases hi : g9_1 x with
  | true =>
    obtain ⟨a, b, c, hd, ha, hb, hc, rfl⟩ := date_i2 hi
    exact ⟨a, b, c, hd, ha, by omega, by omega, (date_i1 hd ha (by omega) (by omega)).1, ⟨fun _ => rfl, fun _ => rfl⟩⟩
  | false =>
    refine ⟨2000, 1, 1, dat0, by omega, by omega, by omega, ?_, ⟨(fun h => by cases h), fun h => ?_⟩⟩
    · rw [date_i3 hi, day0]
    · rw [h, (date_i1 dat0 (by omega) (by omega) (by omega)).2] at hi
      cases hi

theorem dT_size (a b c : Nat) : (dT a b c).size = 10 := rfl
theorem dT_free {a b c : Nat} {k : UInt8} (h1 : ¬ (48 ≤ k.toNat ∧ k.toNat ≤ 57)) (h2 : k ≠ 45) (hb : b < 100) (hc : c < 100) : k ∉ (dT a b c).data.toList := by
  have hD : ∀ n, n < 10 → k ≠ D10 n := fun n hn e => by
    have := congrArg UInt8.toNat e
    rw [D10_nat hn] at this
    omega
  have h50 : k ≠ 50 := fun e => by rw [e] at h1; exact h1 (by decide)
  have h48 : k ≠ 48 := fun e => by rw [e] at h1; exact h1 (by decide)
  show k ∉ [50, 48, D10 (a % 100 / 10), D10 (a % 10)] ++ 45 :: ([D10 (b / 10), D10 (b % 10)] ++ 45 :: [D10 (c / 10), D10 (c % 10)])
  simp only [List.mem_cons, List.mem_append, List.mem_nil_iff, or_false, not_or]
  exact ⟨⟨h50, h48, hD _ (by omega), hD _ (by omega)⟩, h2, ⟨hD _ (by omega), hD _ (by omega)⟩, h2, hD _ (by omega), hD _ (by omega)⟩

end Go.Proofs.YteaocgmbhkclcaaDoor

/- A law that says how functions of the program and of the specification hang together. -/
set_option linter.unusedVariables false
set_option linter.unusedSimpArgs false
set_option maxRecDepth 100000
namespace Go.Proofs.YteaocgmbhkclcaaDoor
open Go Go.Am Go.Proofs

theorem n18_dig : ∀ (l : List UInt8) (m : Nat), (∀ b ∈ l, isD b) → dig14 l (m : Int) = (((dval l m : Nat) : Int), true)
  | [], _, _ => rfl
  | b :: r, m, hd => by
    have hb : isD b := hd b (List.mem_cons_self ..)
    unfold isD at hb
    unfold dig14 d14
    rw [if_pos (by simpa using hb)]
    have e1 : 10 * (m : Int) + ((b.toNat : Int) - 48) = ((10 * m + (b.toNat - 48) : Nat) : Int) := by omega
    rw [e1]
    exact n18_dig r _ (fun c hc => hd c (List.mem_cons_of_mem _ hc))

theorem n18_all : ∀ (l : List UInt8) (n : Int), (dig14 l n).2 = true → ∀ b ∈ l, isD b
  | [], n, h, b, hb => by cases hb
  | c :: r, n, h, b, hb => by
    unfold dig14 at h
    split at h
    · rename_i hd
      rcases List.mem_cons.1 hb with rfl | hb
      · unfold d14 at hd; unfold isD; simpa using hd
      · exact n18_all r _ h b hb
    · cases h

theorem n18_zero : ∀ (l : List UInt8) (n : Int), (dig14 l n).2 = false → (dig14 l n).1 = 0
  | [], n, h => by cases h
  | c :: r, n, h => by
    unfold dig14 at h ⊢
    split at h
    · rename_i hd
      rw [if_pos hd]
      exact n18_zero r _ h
    · rename_i hd
      rw [if_neg hd]

theorem n18_cons (b : UInt8) (r : List UInt8) : num14 (b :: r) = if b.toNat = 45 then (if r.length = 0 ∨ 18 < r.length ∨ (r.getD 0 0).toNat = 48 then (0, false) else fin14 1 (dig14 r 0))
    else if 18 < r.length + 1 ∨ (b.toNat = 48 ∧ 0 < r.length) then (0, false) else fin14 0 (dig14 (b :: r) 0) := rfl

theorem dval_lt : ∀ (l : List UInt8) (m : Nat), (∀ b ∈ l, isD b) → dval l m < (m + 1) * 10 ^ l.length
  | [], m, _ => by simp [dval]
  | b :: r, m, hd => by
    have hb : isD b := hd b (List.mem_cons_self ..)
    unfold isD at hb
    have ih := dval_lt r (10 * m + (b.toNat - 48)) (fun c hc => hd c (List.mem_cons_of_mem _ hc))
    show dval r (10 * m + (b.toNat - 48)) < _
    rw [List.length_cons, Nat.pow_succ]
    have h1 : (10 * m + (b.toNat - 48) + 1) * 10 ^ r.length ≤ (10 * (m + 1)) * 10 ^ r.length := Nat.mul_le_mul_right _ (by omega)
    have h2 : (10 * (m + 1)) * 10 ^ r.length = (m + 1) * (10 ^ r.length * 10) := by
      rw [Nat.mul_comm 10 (m + 1), Nat.mul_assoc, Nat.mul_comm 10]
    omega

theorem dval_le : ∀ (l : List UInt8) (m : Nat), m ≤ dval l m
  | [], m => Nat.le_refl _
  | b :: r, m => by
    have := dval_le r (10 * m + (b.toNat - 48))
    show m ≤ dval r (10 * m + (b.toNat - 48))
    omega

/-- Numbers of at most eighteen digits. -/
def N18 (n : Int) : Prop := -1000000000000000000 < n ∧ n < 1000000000000000000

theorem n18_len {n : Nat} : (Lib.decDigits n).length ≤ 18 ↔ n < 1000000000000000000 := by
  constructor
  · intro h
    obtain ⟨d1, d2, _⟩ := dec_facts n
    have := dval_lt (Lib.decDigits n) 0 d1
    rw [d2] at this
    have hp : 10 ^ (Lib.decDigits n).length ≤ 10 ^ 18 := Nat.pow_le_pow_right (by decide) h
    have e : (10 : Nat) ^ 18 = 1000000000000000000 := by decide
    rw [e] at hp
    omega
  · intro h
    exact dec_len 17 n (by omega)

theorem numB_neg {n : Int} (h : n < 0) : numB n = ⟨⟨45 :: Lib.decDigits n.natAbs⟩⟩ := by unfold numB Lib.itoa; rw [if_pos h]
theorem numB_pos {n : Int} (h : ¬ n < 0) : numB n = ⟨⟨Lib.decDigits n.toNat⟩⟩ := by unfold numB Lib.itoa; rw [if_neg h]

theorem dec_head {n : Nat} : ∃ b r, Lib.decDigits n = b :: r ∧ isD b ∧ (b.toNat = 48 → r = []) := by
  obtain ⟨d1, d2, d3, d4⟩ := dec_facts n
  have hz : Lib.decDigits 0 = [48] := by rw [Lib.decDigits, dif_pos (by decide)]; rfl
  cases hd : Lib.decDigits n with
  | nil => rw [hd] at d3; simp at d3
  | cons b r =>
    refine ⟨b, r, rfl, ?_, fun h48 => ?_⟩
    · rw [hd] at d1; exact d1 b (List.mem_cons_self ..)
    · rcases Nat.eq_zero_or_pos n with rfl | hn
      · rw [hz] at hd; cases hd; rfl
      · have := d4 hn
        rw [hd] at this
        exact absurd h48 this

theorem num_s1 {n : Int} (h : N18 n) : g14_0 (numB n) = n ∧ g14_1 (numB n) = true := by
  obtain ⟨h1, h2⟩ := h
  have e : num14 (numB n).data.toList = (n, true) := by
    by_cases hn : n < 0
    · rw [numB_neg hn]
      show num14 (45 :: Lib.decDigits n.natAbs) = _
      obtain ⟨d1, d2, d3, d4⟩ := dec_facts n.natAbs
      have hl := (n18_len (n := n.natAbs)).2 (by omega)
      rw [n18_cons, if_pos (by rfl), if_neg (fun hh => by
        rcases hh with hh | hh | hh
        · omega
        · omega
        · exact d4 (by omega) hh)]
      unfold fin14
      rw [if_pos rfl]
      have := n18_dig (Lib.decDigits n.natAbs) 0 d1
      rw [d2] at this
      change dig14 _ 0 = _ at this
      rw [this]
      simp only [Prod.mk.injEq, and_true]
      omega
    · rw [numB_pos hn]
      show num14 (Lib.decDigits n.toNat) = _
      obtain ⟨d1, d2, d3, d4⟩ := dec_facts n.toNat
      have hl := (n18_len (n := n.toNat)).2 (by omega)
      obtain ⟨b, r, hd, hb, h48⟩ := dec_head (n := n.toNat)
      rw [hd] at d1 d2 d3 d4 hl ⊢
      unfold isD at hb
      rw [n18_cons, if_neg (by omega), if_neg (fun hh => by
        rcases hh with hh | ⟨hh, hr⟩
        · simp at hl; omega
        · rw [h48 hh] at hr; simp at hr)]
      unfold fin14
      rw [if_neg (by decide)]
      have := n18_dig (b :: r) 0 d1
      rw [d2] at this
      change dig14 _ 0 = _ at this
      rw [this]
      simp only [Prod.mk.injEq, and_true]
      omega
  unfold g14_0 g14_1
  rw [e]
  exact ⟨rfl, rfl⟩

theorem num_s2 {x : ByteArray} (h : g14_1 x = true) : ∃ n : Int, N18 n ∧ x = numB n := by
  obtain ⟨⟨p⟩⟩ := x
  unfold g14_1 at h
  change (num14 p).2 = true at h
  cases p with
  | nil => cases h
  | cons b r =>
    rw [n18_cons] at h
    split at h
    · rename_i hb
      have hb' : b = 45 := by rw [← UInt8.toNat_inj]; exact hb
      split at h
      · cases h
      · rename_i hc
        unfold fin14 at h
        rw [if_pos rfl] at h
        have hall := n18_all r 0 h
        cases r with
        | nil => simp at hc
        | cons c q =>
          have hcd : isD c := hall c (List.mem_cons_self ..)
          unfold isD at hcd
          have hc2 : c.toNat ≠ 48 := fun e => hc (.inr (.inr e))
          have hp : 1 ≤ dval (c :: q) 0 := dval_pos q _ (by omega)
          have hcan := dec_canon (c :: q).length (c :: q) rfl hall (by simp) (.inl hc2)
          have hlen : (c :: q).length ≤ 18 := by
            rcases Nat.lt_or_ge 18 (c :: q).length with hh | hh
            · exact absurd (.inr (.inl hh)) hc
            · exact hh
          have hlt := n18_len.1 (by rw [hcan]; exact hlen)
          refine ⟨-(dval (c :: q) 0 : Int), ⟨by omega, by omega⟩, ?_⟩
          rw [numB_neg (by omega), hb', Int.natAbs_neg, Int.natAbs_natCast, hcan]
    · rename_i hb
      split at h
      · cases h
      · rename_i hc
        unfold fin14 at h
        rw [if_neg (by decide)] at h
        have hall := n18_all (b :: r) 0 h
        have hcan := dec_canon (b :: r).length (b :: r) rfl hall (by simp) (by
          by_cases hr : 0 < r.length
          · exact .inl (fun e => hc (.inr ⟨e, hr⟩))
          · exact .inr (by rw [List.length_cons]; omega))
        have hlen : (b :: r).length ≤ 18 := by
          rw [List.length_cons]
          rcases Nat.lt_or_ge 18 (r.length + 1) with hh | hh
          · exact absurd (.inl hh) hc
          · exact hh
        have hlt := n18_len.1 (by rw [hcan]; exact hlen)
        refine ⟨(dval (b :: r) 0 : Int), ⟨by omega, by omega⟩, ?_⟩
        rw [numB_pos (by omega), Int.toNat_natCast, hcan]

theorem num_s3 {x : ByteArray} (h : g14_1 x = false) : g14_0 x = 0 := by
  obtain ⟨⟨p⟩⟩ := x
  unfold g14_1 at h
  unfold g14_0
  change (num14 p).2 = false at h
  show (num14 p).1 = 0
  cases p with
  | nil => rfl
  | cons b r =>
    rw [n18_cons] at h ⊢
    split at h
    · rename_i hb
      rw [if_pos hb]
      split at h
      · rename_i hc; rw [if_pos hc]
      · rename_i hc
        rw [if_neg hc]
        unfold fin14 at h ⊢
        rw [if_pos rfl] at h ⊢
        have := n18_zero r 0 h
        simp only [this]; rfl
    · rename_i hb
      rw [if_neg hb]
      split at h
      · rename_i hc; rw [if_pos hc]
      · rename_i hc
        rw [if_neg hc]
        unfold fin14 at h ⊢
        rw [if_neg (by decide)] at h ⊢
        exact n18_zero (b :: r) 0 h

theorem uint_dval : ∀ (l : List UInt8) (m : Nat), (∀ b ∈ l, isD b) → dval l m < 1000000000000000000 → Lib.parseUintM 18446744073709551615 m l = .ok (dval l m)
  | [], _, _, _ => rfl
  | b :: r, m, hd, h => by
    have hb : isD b := hd b (List.mem_cons_self ..)
    unfold isD at hb
    have hle := dval_le r (10 * m + (b.toNat - 48))
    have h' : dval r (10 * m + (b.toNat - 48)) < 1000000000000000000 := h
    unfold Lib.parseUintM
    rw [if_pos hb, if_neg (by omega), if_neg (by omega), Nat.mul_comm m 10]
    exact uint_dval r _ (fun c hc => hd c (List.mem_cons_of_mem _ hc)) h'

theorem uint_dec {n : Nat} (h : n < 1000000000000000000) : Lib.parseUintB 64 (Lib.decDigits n) = .ok n := by
  obtain ⟨d1, d2, d3, _⟩ := dec_facts n
  unfold Lib.parseUintB
  rw [if_neg (fun e => by rw [e] at d3; simp at d3)]
  have e : (2 : Nat) ^ 64 - 1 = 18446744073709551615 := by decide
  have := uint_dval (Lib.decDigits n) 0 d1 (by rw [d2]; exact h)
  rw [d2] at this
  rw [e]; exact this

theorem parse_dec {n : Int} (h : N18 n) : Lib.parseIntB 64 (numB n).data.toList = .ok n := by
  obtain ⟨h1, h2⟩ := h
  have e63 : (2 : Nat) ^ (64 - 1) = 9223372036854775808 := by decide
  by_cases hn : n < 0
  · rw [numB_neg hn]
    show Lib.parseIntB 64 (45 :: Lib.decDigits n.natAbs) = _
    rw [Lib.parseIntB_minus, uint_dec (by omega), e63]
    unfold Lib.signedC
    simp only
    rw [if_neg (by omega)]
    congr 1
    omega
  · rw [numB_pos hn]
    show Lib.parseIntB 64 (Lib.decDigits n.toNat) = _
    have hu := uint_dec (n := n.toNat) (by omega)
    obtain ⟨b, r, hd, hb, _⟩ := dec_head (n := n.toNat)
    unfold isD at hb
    rw [hd] at hu ⊢
    rw [Lib.parseIntB_plain _ _ _ (by omega) (by omega), hu, e63]
    unfold Lib.signlessC
    simp only
    rw [if_neg (by omega)]
    congr 1
    omega

theorem trim_dec {n : Int} : (g20_0 (numB n) ⟨#[45]⟩).size = (Lib.decDigits n.natAbs).length := by
  unfold g20_0
  show (Lib.trimPrefix (numB n).data.toList [45]).length = _
  unfold Lib.trimPrefix Lib.hasPrefix
  by_cases hn : n < 0
  · rw [numB_neg hn]
    rfl
  · rw [numB_pos hn]
    obtain ⟨b, r, hd, hb, _⟩ := dec_head (n := n.toNat)
    unfold isD at hb
    have hne : (45 : UInt8) ≠ b := fun e => by rw [← e] at hb; exact absurd hb (by decide)
    have e : n.natAbs = n.toNat := by omega
    rw [e, hd]
    have : ([45] : List UInt8).isPrefixOf (b :: r) = false := by simp [List.isPrefixOf, hne]
    show (if ([45] : List UInt8).isPrefixOf (b :: r) = true then _ else (b :: r)).length = _
    rw [this]
    rfl

theorem rd_i1 {n : Int} (h : N18 n) : g10_0 (numB n) = n ∧ g10_1 (numB n) = true := by
  have hl := (n18_len (n := n.natAbs)).2 (by unfold N18 at h; omega)
  have h0 := (dec_facts n.natAbs).2.2.1
  have e : rd10 (numB n) = some n := by
    unfold rd10 long10
    rw [trim_dec, if_neg (by rw [Bool.or_eq_true, decide_eq_true_eq, decide_eq_true_eq]; omega), parse_dec h]
    simp
  unfold g10_0 g10_1
  rw [e]
  exact ⟨rfl, rfl⟩

theorem rd_i2 {x : ByteArray} (h : g10_1 x = true) : ∃ n : Int, N18 n ∧ x = numB n := by
  unfold g10_1 rd10 at h
  split at h
  · cases h
  · rename_i hl
    split at h
    · rename_i v hv
      split at h
      · rename_i he
        unfold long10 at hl
        rw [← he, trim_dec] at hl
        have : (Lib.decDigits v.natAbs).length ≤ 18 := by
          simp at hl; omega
        have := n18_len.1 this
        exact ⟨v, ⟨by omega, by omega⟩, he.symm⟩
      · cases h
    · cases h

theorem rd_i3 {x : ByteArray} (h : g10_1 x = false) : g10_0 x = 0 := by
  unfold g10_1 at h
  unfold g10_0
  cases hr : rd10 x with
  | none => rfl
  | some v => rw [hr] at h; cases h

theorem read_dec (x : ByteArray) : g14_0 x = g10_0 x ∧ g14_1 x = g10_1 x := by
  cases hs : g14_1 x with
  | true =>
    obtain ⟨n, hn, rfl⟩ := num_s2 hs
    obtain ⟨i0, i1⟩ := rd_i1 hn
    rw [i0, i1, (num_s1 hn).1]
    exact ⟨rfl, rfl⟩
  | false =>
    cases hi : g10_1 x with
    | true =>
      obtain ⟨n, hn, rfl⟩ := rd_i2 hi
      rw [(num_s1 hn).2] at hs
      cases hs
    | false => exact ⟨(num_s3 hs).trans (rd_i3 hi).symm, rfl⟩

/-- What is read of any text is the number of a numeral; it is that text just if it is taken. -/
theorem rd_any (x : ByteArray) : ∃ n : Int, N18 n ∧ g10_0 x = n ∧ (g10_1 x = true ↔ x = numB n) := by
  cases hi : g10_1 x with
  | true =>
    obtain ⟨n, hn, rfl⟩ := rd_i2 hi
    exact ⟨n, hn, (rd_i1 hn).1, ⟨fun _ => rfl, fun _ => rfl⟩⟩
  | false =>
    have h0 : N18 0 := ⟨by omega, by omega⟩
    refine ⟨0, h0, rd_i3 hi, ⟨(fun h => by cases h), fun h => ?_⟩⟩
    rw [h, (rd_i1 h0).2] at hi
    cases hi

theorem num_free {n : Int} {k : UInt8} (h1 : ¬ isD k) (h2 : k ≠ 45) : k ∉ (numB n).data.toList := by
  intro hm
  by_cases hn : n < 0
  · rw [numB_neg hn] at hm
    rcases List.mem_cons.1 hm with h | h
    · exact h2 h
    · exact h1 ((dec_facts _).1 _ h)
  · rw [numB_pos hn] at hm
    exact h1 ((dec_facts _).1 _ hm)

end Go.Proofs.YteaocgmbhkclcaaDoor

/- A law that says how functions of the program and of the specification hang together. -/
set_option linter.unusedVariables false
set_option linter.unusedSimpArgs false
set_option maxRecDepth 100000
namespace Go.Proofs.YteaocgmbhkclcaaDoor
open Go Go.Am Go.Proofs

/-- Texts that are split at a blank. -/
theorem app_list (a b : ByteArray) : (a ++ b).data.toList = a.data.toList ++ b.data.toList := by
  rw [ByteArray.data_append, Array.toList_append]

theorem bytes_ext {a b : ByteArray} (h : a.data.toList = b.data.toList) : a = b := by
  obtain ⟨⟨l⟩⟩ := a
  obtain ⟨⟨m⟩⟩ := b
  simp at h
  rw [h]

theorem split_two {x : List UInt8} {k : UInt8} {a b : List UInt8} (h : splitC k x = [a, b]) : x = a ++ k :: b := by
  have := splitC_join k x
  rw [h] at this
  rw [← this]
  simp [List.intercalate]

theorem split_three {x : List UInt8} {k : UInt8} {a b c : List UInt8} (h : splitC k x = [a, b, c]) : x = a ++ k :: (b ++ k :: c) := by
  have := splitC_join k x
  rw [h] at this
  rw [← this]
  simp [List.intercalate]

theorem split_of_two {k : UInt8} {a b : List UInt8} (ha : k ∉ a) (hb : k ∉ b) : splitC k (a ++ k :: b) = [a, b] := by
  rw [splitC_hit k _ ha, splitC_free k hb]

theorem split_of_three {k : UInt8} {a b c : List UInt8} (ha : k ∉ a) (hb : k ∉ b) (hc : k ∉ c) : splitC k (a ++ k :: (b ++ k :: c)) = [a, b, c] := by
  rw [splitC_hit k _ ha, splitC_hit k _ hb, splitC_free k hc]

theorem list_three {α : Type} : ∀ {l : List α}, l.length = 3 → ∃ a b c, l = [a, b, c]
  | [a, b, c], _ => ⟨a, b, c, rfl⟩
theorem list_two {α : Type} : ∀ {l : List α}, l.length = 2 → ∃ a b, l = [a, b]
  | [a, b], _ => ⟨a, b, rfl⟩

/-- Two heads free of k. -/
theorem cut_eq {k : UInt8} : ∀ {p q b c : List UInt8}, k ∉ p → k ∉ b → p ++ k :: q = b ++ k :: c → p = b ∧ q = c
  | [], q, [], c, _, _, h => by simpa using h
  | [], q, y :: b, c, _, hb, h => by
    simp only [List.nil_append, List.cons_append, List.cons.injEq] at h
    exact absurd (by rw [h.1]; exact List.mem_cons_self ..) hb
  | x :: p, q, [], c, hp, _, h => by
    simp only [List.nil_append, List.cons_append, List.cons.injEq] at h
    exact absurd (by rw [h.1]; exact List.mem_cons_self ..) hp
  | x :: p, q, y :: b, c, hp, hb, h => by
    simp only [List.cons_append, List.cons.injEq] at h
    obtain ⟨e1, e2⟩ := cut_eq (fun hm => hp (List.mem_cons_of_mem _ hm)) (fun hm => hb (List.mem_cons_of_mem _ hm)) h.2
    exact ⟨by rw [h.1, e1], e2⟩

end Go.Proofs.YteaocgmbhkclcaaDoor

/- A law that says how functions of the program and of the specification hang together. -/
set_option linter.unusedVariables false
set_option linter.unusedSimpArgs false
set_option maxRecDepth 100000
namespace Go.Proofs.YteaocgmbhkclcaaDoor
open Go Go.Am Go.Proofs
theorem name_eq (s : ByteArray) : g43_0 s = g27_0 s := by
  have hs : ∀ c, g45_0 c = (decide (97 ≤ c) && decide (c ≤ 122)) := fun c => by
    unfold g45_0
    by_cases h1 : (97 : Int) ≤ c <;> simp [h1]
  have hd : ∀ c, g26_0 c = (decide (48 ≤ c) && decide (c ≤ 57)) := fun c => by
    unfold g26_0
    by_cases h1 : (48 : Int) ≤ c <;> simp [h1]
  unfold g43_0 g27_0
  have hl := bytesOf_length s
  by_cases h1 : 1 ≤ s.size
  · cases hb : bytesOf s with
    | nil => rw [hb] at hl; simp at hl; omega
    | cons c r =>
      have hr : allI ok43 1 r = r.all fun b => g45_0 b || g26_0 b := by
        rw [← allI_plain (fun b => g45_0 b || g26_0 b) r 1]
        refine allI_congr r 1 fun j x hj => ?_
        have : (j == 0) = false := by simp; omega
        simp only [ok43, this, hs, hd, Bool.not_false, Bool.true_and]
      have h0 : ok43 0 c = g45_0 c := by simp [ok43, hs]
      simp only [allI, hr, h0, List.all_cons, List.getD_cons_zero]
      cases g45_0 c <;> simp
  · simp [h1]


end Go.Proofs.YteaocgmbhkclcaaDoor

/- The plain law of FnExactReadTicket. -/
set_option linter.unusedVariables false
set_option linter.unusedSimpArgs false
set_option maxRecDepth 100000
namespace Go.Proofs.YteaocgmbhkclcaaDoor
open Go Go.Am Go.Proofs

theorem in_eqT (x a b : Int) : g29_0 x a b = g33_0 x a b := rfl
theorem ticket_eq (x : ByteArray × Int × Int × Unit) : g15_0 x = g23_0 x := by
  unfold g15_0 g23_0 g28_0 g36_0
  rw [name_eq]
  rfl

theorem ttT {a : ByteArray} {n m : Int} {y p q : Nat} (h : g23_0 (a, n, m, ()) = true) (hn : g19_0 n = dT y p q) :
    (g11_0 (a, n, m, ())).data.toList = a.data.toList ++ 32 :: ((dT y p q).data.toList ++ 32 :: (numB m).data.toList) := by
  unfold g11_0
  rw [if_neg (by rw [h]; simp)]
  have e : g22_0 m = numB m := rfl
  simp only [hn, e, app_list, List.append_assoc]
  rfl

theorem ptT (a : ByteArray) {n m : Int} {y p q : Nat} (hs : a.size ≤ 1048576) (hp : P19 n) (hn : g19_0 n = dT y p q) (hm : N18 m) : P11 (a, n, m, ()) := by
  unfold P11
  split
  · trivial
  · have e : g22_0 m = numB m := rfl
    have e1 : (ByteArray.mk #[32]).size = 1 := rfl
    have hz := numB_size m (by unfold N18 at hm; omega) (by unfold N18 at hm; omega)
    simp only [hn, e, ByteArray.size_append, dT_size, e1]
    exact ⟨by omega, hp, by omega, by omega, ⟨rfl, trivial⟩, by omega, trivial⟩

theorem law3 (x : ByteArray) (hw : Wf .str x) : P3 x ∧ g3_0 x = true := by
  unfold P3 g3_0
  by_cases h : (x.size : Int) > 1048576
  · simp only [h, decide_true, if_true, and_self]
  · have hx : x.size ≤ 1048576 := by omega
    have hsp : g8_0 x (ByteArray.mk #[32]) = bss (splitC 32 x.data.toList) := splitB_one 32 x
    have hss : g12_0 x 32 = bss (splitC 32 x.data.toList) := rfl
    have hps : P8 x (ByteArray.mk #[32]) := ⟨by omega, Nat.le_refl 1⟩
    have hpp : P12 x 32 := ⟨by omega, by omega, by omega⟩
    have key : P4 x ∧ P5 x ∧ g5_0 x = g4_0 x ∧ g5_1 x = g4_1 x := by
      unfold P4 P5 g5_0 g5_1 g4_0 g4_1 P7 g7_0 g7_1
      rw [hsp, hss]
      by_cases h3 : (splitC 32 x.data.toList).length = 3
      · obtain ⟨a, b, c, e⟩ := list_three h3
        have hj := split_three e
        have hsz : x.data.toList.length = x.size := rfl
        rw [hj] at hsz
        simp only [List.length_append, List.length_cons] at hsz
        have free := splitC_free_mem 32 x.data.toList
        rw [e] at free
        have fa := free a (by simp)
        have fb := free b (by simp)
        rw [e]
        have e0 : bss [a, b, c] = [⟨⟨a⟩⟩, ⟨⟨b⟩⟩, ⟨⟨c⟩⟩] := rfl
        rw [e0]
        have n0 : ((([(⟨⟨a⟩⟩ : ByteArray), ⟨⟨b⟩⟩, ⟨⟨c⟩⟩].length : Nat) : Int) != 3) = false := rfl
        have d0 : List.getD [(⟨⟨a⟩⟩ : ByteArray), ⟨⟨b⟩⟩, ⟨⟨c⟩⟩] 0 ByteArray.empty = ⟨⟨a⟩⟩ := rfl
        have d1 : List.getD [(⟨⟨a⟩⟩ : ByteArray), ⟨⟨b⟩⟩, ⟨⟨c⟩⟩] 1 ByteArray.empty = ⟨⟨b⟩⟩ := rfl
        have d2 : List.getD [(⟨⟨a⟩⟩ : ByteArray), ⟨⟨b⟩⟩, ⟨⟨c⟩⟩] 2 ByteArray.empty = ⟨⟨c⟩⟩ := rfl
        have l0 : (0 : Int) < (([(⟨⟨a⟩⟩ : ByteArray), ⟨⟨b⟩⟩, ⟨⟨c⟩⟩].length : Nat) : Int) := by show (0 : Int) < 3; decide
        have l1 : (1 : Int) < (([(⟨⟨a⟩⟩ : ByteArray), ⟨⟨b⟩⟩, ⟨⟨c⟩⟩].length : Nat) : Int) := by show (1 : Int) < 3; decide
        have l2 : (2 : Int) < (([(⟨⟨a⟩⟩ : ByteArray), ⟨⟨b⟩⟩, ⟨⟨c⟩⟩].length : Nat) : Int) := by show (2 : Int) < 3; decide
        have za : (⟨⟨a⟩⟩ : ByteArray).size = a.length := rfl
        have zb : (⟨⟨b⟩⟩ : ByteArray).size = b.length := rfl
        have zc : (⟨⟨c⟩⟩ : ByteArray).size = c.length := rfl
        obtain ⟨p1, p2, r0, r1⟩ := read_date ⟨⟨b⟩⟩ (by omega)
        obtain ⟨q0, q1⟩ := read_dec ⟨⟨c⟩⟩
        have pc : P10 ⟨⟨c⟩⟩ := (show c.length ≤ 281474976710656 from by omega)
        obtain ⟨y, m, d, hd, hy, hm, hdd, v0, v1⟩ := date_any ⟨⟨b⟩⟩
        obtain ⟨n, hn, w0, w1⟩ := rd_any ⟨⟨c⟩⟩
        have hdt : g19_0 (g9_0 ⟨⟨b⟩⟩) = dT y m d := by rw [v0]; exact date_text hd hy hm hdd
        have hdp : P19 (g9_0 ⟨⟨b⟩⟩) := by rw [v0]; exact text_pre hd
        have hN : N18 (g10_0 ⟨⟨c⟩⟩) := by rw [w0]; exact hn
        have hTT := ptT ⟨⟨a⟩⟩ (m := g10_0 ⟨⟨c⟩⟩) (by omega) hdp hdt hN
        simp only [n0, d0, d1, d2, l0, l1, l2, ← r0, ← r1, q0, q1, ticket_eq, Bool.false_eq_true, if_false, true_and, and_true]
        refine ⟨⟨hpp, p1⟩, ⟨hps, p2, pc, hTT⟩, ?_⟩
        generalize hT : g11_0 (⟨⟨a⟩⟩, g9_0 ⟨⟨b⟩⟩, g10_0 ⟨⟨c⟩⟩, ()) = T
        have hiff : T = x ↔ (g9_1 ⟨⟨b⟩⟩ = true ∧ g10_1 ⟨⟨c⟩⟩ = true ∧ g23_0 (⟨⟨a⟩⟩, g9_0 ⟨⟨b⟩⟩, g10_0 ⟨⟨c⟩⟩, ()) = true) := by
          constructor
          · intro ht
            by_cases hv : g23_0 (⟨⟨a⟩⟩, g9_0 ⟨⟨b⟩⟩, g10_0 ⟨⟨c⟩⟩, ()) = true
            · have hl := ttT hv hdt
              rw [hT, ht, hj] at hl
              have c1 := List.append_cancel_left hl
              simp only [List.cons.injEq, true_and] at c1
              obtain ⟨e1, e2⟩ := cut_eq fb (dT_free (by decide) (by decide) (by omega) (by omega)) c1
              refine ⟨v1.2 (bytes_ext e1), w1.2 ?_, hv⟩
              rw [← w0]
              exact bytes_ext e2
            · exfalso
              unfold g11_0 at hT
              rw [if_pos (by simpa using hv)] at hT
              rw [← ht, ← hT] at hj
              have := congrArg List.length hj
              simp at this
          · rintro ⟨h1, h2, hv⟩
            have hl := ttT hv hdt
            rw [hT, ← v1.1 h1, w0, ← w1.1 h2] at hl
            refine bytes_ext ?_
            rw [hl, hj]
        by_cases hA : T = x
        · obtain ⟨h1, h2, hv⟩ := hiff.1 hA
          have hb : (ByteArray.toList T == ByteArray.toList x) = true := (bytes_eq _ _).2 hA
          simp only [hb, h1, h2, hv, Bool.not_true, Bool.false_eq_true, if_false, and_self]
        · have hb : (ByteArray.toList T == ByteArray.toList x) = false := by
            rw [Bool.eq_false_iff]; exact fun hh => hA ((bytes_eq _ _).1 hh)
          cases s1 : g9_1 ⟨⟨b⟩⟩ with
          | false => simp only [hb, Bool.not_false, if_true, and_self]
          | true =>
            cases s2 : g10_1 ⟨⟨c⟩⟩ with
            | false => simp only [hb, Bool.not_true, Bool.not_false, Bool.false_eq_true, if_false, if_true, and_self]
            | true =>
              cases s3 : g23_0 (⟨⟨a⟩⟩, g9_0 ⟨⟨b⟩⟩, g10_0 ⟨⟨c⟩⟩, ()) with
              | false => simp only [hb, Bool.not_true, Bool.not_false, Bool.false_eq_true, if_false, if_true, and_self]
              | true => exact absurd (hiff.2 ⟨s1, s2, s3⟩) hA
      · have hl : ((bss (splitC 32 x.data.toList)).length : Int) ≠ 3 := by
          unfold bss; rw [List.length_map]; omega
        have hl' : (((bss (splitC 32 x.data.toList)).length : Int) != 3) = true := by simpa using hl
        simp only [hl', if_true, and_true]
        exact ⟨hpp, hps⟩
    obtain ⟨p1, p2, e0, e1⟩ := key
    have heq : ∀ y : ByteArray × Int × Int × Unit, g6_0 y y = true := fun y => by
      unfold g6_0; simp
    simp only [h, decide_false, Bool.false_eq_true, if_false, e0, e1, p1, p2, heq, beq_self_eq_true, Bool.not_true, true_and, and_self]

end Go.Proofs.YteaocgmbhkclcaaDoor
