/- Several texts in one: the functions that this law reaches, and their laws. -/
import Derived.Test.YtbkkdnkbgnhodaaGreatDoorZ3A
import Derived.Test.YtbkkdnkbgnhodaaGreatDoorZ3B
import Derived.Test.YtbkkdnkbgnhodaaGreatDoorZ3C
import Derived.Test.YtbkkdnkbgnhodaaGreatDoorZ3D
import Derived.WalkKit
import Derived.Lib.Walk
import Derived.Lib.SliceRun
import Derived.Deep.LoopGhost
import Derived.Shelf.RegionOpenPlain
import Derived.Lib.ItoaNum
import Derived.Lib.TrimByte
import Derived.Lib.ParseIntBCases

/- Function 13 (impl.GrowthOf): its contract; by the kit's walk, the callees by their contracts. -/
set_option linter.unusedVariables false
set_option linter.unusedSimpArgs false
set_option maxRecDepth 100000
namespace Go.Proofs.YtbkkdnkbgnhodaaGreatDoor
open Go Go.Am Go.Proofs Go.RowKit

abbrev TY13 : Ty := .cons (.int .i64) (.cons (.int .i64) (.cons (.int .i64) .unit))
abbrev TD13 : Int × Int × Int × Unit := ((0 : Int), (0 : Int), (0 : Int), ())
theorem val13 (W : World) (x0 : List (Int × Int × Int × Unit)) (v : Value) (hgo : GOk W []) (ha : RepB W (Am.Good W []) (toAtom (.sl TY13) x0) v) :
    Calls Tryz.prog 20 #[v] W fun e w' => e = .returned (.bool (g20_0 x0)) ∧ Below W.heap.size W w' := by
  have h := con20.down rfl W (x0, ()) [v] [[]] hgo trivial ⟨v, [], [], [], rfl, rfl, ⟨rfl, ha⟩, rfl, rfl⟩ (by simp)
  refine h.mono ?_
  rintro e w' ⟨rs, ubs, rbs, rfl, hk, ⟨u, s, b1, bs1, cs, rfl, rfl, ho, hv, rfl, rfl⟩, _⟩
  obtain ⟨ho, _⟩ := ho
  have hv : cs = [u] := hv
  rw [ho] at hv
  cases hv
  exact ⟨rfl, hk.below⟩

theorem near13 (W : World) (a b : Int) (hgo : GOk W []) (hp : P32 a b) (ha : InR .i64 a) (hb : InR .i64 b) :
    Calls Tryz.prog 32 #[.int .i64 a, .int .i64 b] W fun e w' => e = .returned (.int .i64 (g32_0 a b)) ∧ Below W.heap.size W w' := by
  have h := con32.down rfl W (a, b, ()) [.int .i64 a, .int .i64 b] [[], []] hgo hp ⟨_, _, _, _, rfl, rfl, ⟨rfl, rfl, ha⟩, _, _, _, _, rfl, rfl, ⟨rfl, rfl, hb⟩, rfl, rfl⟩ (by simp)
  refine h.mono ?_
  rintro e w' ⟨rs, ubs, rbs, rfl, hk, ⟨u, s, b1, bs1, cs, rfl, rfl, ho, hv, rfl, rfl⟩, _⟩
  obtain ⟨ho, _⟩ := ho
  have hv : cs = [u] := hv
  rw [ho] at hv
  cases hv
  exact ⟨rfl, hk.below⟩

theorem gok13 {w W : World} (h : GOk w []) (hb : Below w.heap.size w W) : GOk W [] where
  inv := h.inv.keep fun b _ hs => hb.5 b hs
  size := Nat.le_trans h.size hb.4
  out := h.out

theorem cell13 {w : World} {x0 : List (Int × Int × Int × Unit)} {b off : Nat} (hc : ∀ j u, (fcs TY13 x0)[j]? = some u → w.cell? ⟨b, off + j, none⟩ = some u) (k : Nat) (hk : k < x0.length) :
    w.cell? ⟨b, off + (3 * k + 0), none⟩ = some (.int .i64 (x0.getD k TD13).1) ∧ w.cell? ⟨b, off + (3 * k + 1), none⟩ = some (.int .i64 (x0.getD k TD13).2.1) ∧ w.cell? ⟨b, off + (3 * k + 2), none⟩ = some (.int .i64 (x0.getD k TD13).2.2.1) := by
  have key : ∀ (xs : List (Int × Int × Int × Unit)) (k : Nat), k < xs.length → (fcs TY13 xs)[3 * k + 0]? = some (.int .i64 (xs.getD k TD13).1) ∧ (fcs TY13 xs)[3 * k + 1]? = some (.int .i64 (xs.getD k TD13).2.1) ∧ (fcs TY13 xs)[3 * k + 2]? = some (.int .i64 (xs.getD k TD13).2.2.1) := by
    intro xs
    induction xs with
    | nil => intro k hk; simp at hk
    | cons x r ih =>
      intro k hk
      have e : fcs TY13 (x :: r) = .int .i64 x.1 :: .int .i64 x.2.1 :: .int .i64 x.2.2.1 :: fcs TY13 r := rfl
      rw [e]
      cases k with
      | zero => exact ⟨rfl, rfl, rfl⟩
      | succ k =>
        have := ih k (by simpa using hk)
        rw [show 3 * (k + 1) + 0 = 3 * k + 0 + 1 + 1 + 1 by omega, show 3 * (k + 1) + 1 = 3 * k + 1 + 1 + 1 + 1 by omega, show 3 * (k + 1) + 2 = 3 * k + 2 + 1 + 1 + 1 by omega]
        simp only [List.getElem?_cons_succ, List.getD_cons_succ]
        exact this
  obtain ⟨a1, a2, a3⟩ := key x0 k hk
  exact ⟨hc _ _ a1, hc _ _ a2, hc _ _ a3⟩

set_option maxHeartbeats 4000000 in
theorem walkBad13 (w : World) (x0 : List (Int × Int × Int × Unit)) (v : Value) (hgo : GOk w []) (hok : g20_0 x0 = false) (ha : RepB w (Am.Good w []) (toAtom (.sl TY13) x0) v) :
    Calls Tryz.prog 13 #[v] w fun e w' => e = .returned (.tuple #[.int .i64 0, .int .i64 1]) ∧ Below w.heap.size w w' := by
  have HA : Aside (RepB w (Am.Good w []) (toAtom (.sl TY13) x0) v) := ha
  clear ha
  have mixed := mixed
  go_enter Tryz.func13, Tryz.ntmps13
  go_wp2_with (go_at_call 20; refine (val13 _ x0 _ hgo HA.out).mono ?_)
  rintro e w1 ⟨rfl, b1⟩
  rw [hok]
  go_wp2
  go_ret2
  exact ⟨rfl, b1⟩

set_option maxHeartbeats 4000000 in
theorem walkFew13 (w : World) (x0 : List (Int × Int × Int × Unit)) (ad : Option Addr) (cap : Nat) (hgo : GOk w []) (hl : x0.length < 2) (hok : g20_0 x0 = true) (ha : RepB w (Am.Good w []) (toAtom (.sl TY13) x0) (.slice ad x0.length cap)) :
    Calls Tryz.prog 13 #[.slice ad x0.length cap] w fun e w' => e = .returned (.tuple #[.int .i64 0, .int .i64 3]) ∧ Below w.heap.size w w' := by
  have HA : Aside (RepB w (Am.Good w []) (toAtom (.sl TY13) x0) (.slice ad x0.length cap)) := ha
  clear ha
  have mixed := mixed
  have h2 : ((x0.length : Nat) : Int) < 2 := by omega
  go_enter Tryz.func13, Tryz.ntmps13
  go_wp2_with (go_at_call 20; refine (val13 _ x0 _ hgo HA.out).mono ?_)
  rintro e w1 ⟨rfl, b1⟩
  rw [hok]
  go_wp2
  go_ret2
  exact ⟨rfl, b1⟩

set_option maxHeartbeats 4000000 in
theorem walk13 (w : World) (x0 : List (Int × Int × Int × Unit)) (b off cap : Nat) (hgo : GOk w []) (hl : 2 ≤ x0.length) (hm : x0.length ≤ 24) (hcl : x0.length ≤ cap) (hcap : cap ≤ maxLen) (hb : b < w.heap.size) (hok : g20_0 x0 = true) (ha : RepB w (Am.Good w []) (toAtom (.sl TY13) x0) (.slice (some ⟨b, off, none⟩) x0.length cap))
    (hc : ∀ j u, (fcs TY13 x0)[j]? = some u → w.cell? ⟨b, off + j, none⟩ = some u) (hP : P32 (1000 * ((x0.getD (x0.length - 1) TD13).2.1 - (x0.getD 0 TD13).2.1)) ((x0.getD (x0.length - 1) TD13).1 - (x0.getD 0 TD13).1))
    (hr : 0 ≤ (x0.getD (x0.length - 1) TD13).1 ∧ (x0.getD (x0.length - 1) TD13).1 ≤ 100000 ∧ 0 ≤ (x0.getD 0 TD13).1 ∧ (x0.getD 0 TD13).1 ≤ 100000 ∧ 0 ≤ (x0.getD (x0.length - 1) TD13).2.1 ∧ (x0.getD (x0.length - 1) TD13).2.1 ≤ 100000 ∧ 0 ≤ (x0.getD 0 TD13).2.1 ∧ (x0.getD 0 TD13).2.1 ≤ 100000) :
    Calls Tryz.prog 13 #[.slice (some ⟨b, off, none⟩) x0.length cap] w fun e w' => e = .returned (.tuple #[.int .i64 (g32_0 (1000 * ((x0.getD (x0.length - 1) TD13).2.1 - (x0.getD 0 TD13).2.1)) ((x0.getD (x0.length - 1) TD13).1 - (x0.getD 0 TD13).1)), .int .i64 0]) ∧ Below w.heap.size w w' := by
  have HA : Aside (RepB w (Am.Good w []) (toAtom (.sl TY13) x0) (.slice (some ⟨b, off, none⟩) x0.length cap)) := ha
  obtain ⟨c1, c2, c3⟩ := cell13 hc 0 (by omega)
  obtain ⟨d1, d2, d3⟩ := cell13 hc (x0.length - 1) (by omega)
  have HP : Aside (P32 (1000 * ((x0.getD (x0.length - 1) TD13).2.1 - (x0.getD 0 TD13).2.1)) ((x0.getD (x0.length - 1) TD13).1 - (x0.getD 0 TD13).1)) := hP
  clear ha hc hP
  generalize x0.getD (x0.length - 1) TD13 = y at *
  generalize x0.getD 0 TD13 = z at *
  obtain ⟨y1, y2, y3, _⟩ := y
  obtain ⟨z1, z2, z3, _⟩ := z
  simp only at c1 c2 c3 d1 d2 d3 hr HP ⊢
  obtain ⟨r1, r2, r3, r4, r5, r6, r7, r8⟩ := hr
  have mixed := mixed
  have h2 : ¬ ((x0.length : Nat) : Int) < 2 := by omega
  go_enter Tryz.func13, Tryz.ntmps13
  go_wp2_with (go_at_call 20; refine (val13 _ x0 _ hgo HA.out).mono ?_; rintro e w1 ⟨rfl, b1⟩; rw [hok])
  have eb : w1.heap[b]? = w.heap[b]? := b1.block b hb
  replace c1 := (World.cell?_of_block eb).trans c1
  replace c2 := (World.cell?_of_block eb).trans c2
  replace c3 := (World.cell?_of_block eb).trans c3
  replace d1 := (World.cell?_of_block eb).trans d1
  replace d2 := (World.cell?_of_block eb).trans d2
  replace d3 := (World.cell?_of_block eb).trans d3
  clear eb
  have hb1 : b < w1.heap.size := Nat.lt_of_lt_of_le hb b1.size
  rw [show off + (3 * 0 + 0) = off by omega] at c1
  rw [show off + (3 * 0 + 1) = off + 1 by omega] at c2
  rw [show off + (3 * 0 + 2) = off + 2 by omega] at c3
  rw [show off + (3 * (x0.length - 1) + 0) = off + (x0.length - 1) * 3 by omega] at d1
  rw [show off + (3 * (x0.length - 1) + 1) = off + (x0.length - 1) * 3 + 1 by omega] at d2
  rw [show off + (3 * (x0.length - 1) + 2) = off + (x0.length - 1) * 3 + 2 by omega] at d3
  go_wp2
  go_region
  all_goals go_wp2_with (go_at_call 32; refine (near13 _ (1000 * (y2 - z2)) (y1 - z1) (gok13 hgo (((b1.alloc b1.size _).alloc (by have := b1.size; show w.heap.size ≤ (w1.heap.push _).size; rw [Array.size_push]; omega) _).drew)) HP.out (by rw [i64_iff]; omega) (by rw [i64_iff]; omega)).mono ?_; rintro e w2 ⟨rfl, b2⟩)
  all_goals go_wp2
  all_goals go_ret2
  all_goals exact ⟨rfl, (((b1.alloc b1.size _).alloc (by have := b1.size; show w.heap.size ≤ (w1.heap.push _).size; rw [Array.size_push]; omega) _).drew).trans (b2.mono (by have := b1.size; show w.heap.size ≤ ((w1.heap.push _).push _).size; rw [Array.size_push, Array.size_push]; omega))⟩

def sig13 : List AT := [AT.v (.sl TY13)]
def up13 (x0 : List (Int × Int × Int × Unit)) : Int := 1000 * ((x0.getD (x0.length - 1) TD13).2.1 - (x0.getD 0 TD13).2.1)
def lo13 (x0 : List (Int × Int × Int × Unit)) : Int := (x0.getD (x0.length - 1) TD13).1 - (x0.getD 0 TD13).1
def g13_0 (x0 : List (Int × Int × Int × Unit)) : Int := if g20_0 x0 = true then (if x0.length < 2 then 0 else g32_0 (up13 x0) (lo13 x0)) else 0
def g13_1 (x0 : List (Int × Int × Int × Unit)) : Int := if g20_0 x0 = true then (if x0.length < 2 then 3 else 0) else 1
def P13 (x0 : List (Int × Int × Int × Unit)) : Prop := g20_0 x0 = true → 2 ≤ x0.length → x0.length ≤ 24 ∧ P32 (up13 x0) (lo13 x0) ∧ InR .i64 (g32_0 (up13 x0) (lo13 x0)) ∧
  (0 ≤ (x0.getD (x0.length - 1) TD13).1 ∧ (x0.getD (x0.length - 1) TD13).1 ≤ 100000 ∧ 0 ≤ (x0.getD 0 TD13).1 ∧ (x0.getD 0 TD13).1 ≤ 100000 ∧ 0 ≤ (x0.getD (x0.length - 1) TD13).2.1 ∧ (x0.getD (x0.length - 1) TD13).2.1 ≤ 100000 ∧ 0 ≤ (x0.getD 0 TD13).2.1 ∧ (x0.getD 0 TD13).2.1 ≤ 100000)
def S13 : Am.Spec := { sig := sig13, pre := fun ⟨x0, _⟩ => P13 x0, res := fun ⟨x0, _⟩ => [⟨.int .i64, g13_0 x0⟩, ⟨.int .i64, g13_1 x0⟩] }

theorem con13 : Contract Tryz.prog 13 S13 := contract_flat rfl fun w ⟨x0, _⟩ vs bss hg hp hw ha => by
  obtain ⟨v0, s0, _, _, rfl, _, ⟨_, ha⟩, rfl, _⟩ := ha
  have hgo : GOk w [] := ⟨hg, hg.size, fun b hb => by cases hb⟩
  obtain ⟨hwf, hml, hcase⟩ := slAt_flat (t := TY13) rfl ha
  have hp : P13 x0 := hp
  have z : InR .i64 0 := by rw [i64_iff]; omega
  refine ⟨fun d hd => ?_, ?_⟩
  · simp only [List.mem_cons, List.mem_nil_iff, or_false] at hd
    rcases hd with rfl | rfl
    · refine ⟨rfl, ?_⟩
      show InR .i64 (g13_0 x0)
      unfold g13_0
      split
      · rename_i hv
        split
        · exact z
        · exact (hp hv (by omega)).2.2.1
      · exact z
    · refine ⟨rfl, ?_⟩
      show InR .i64 (g13_1 x0)
      unfold g13_1
      split
      · split
        · rw [i64_iff]; omega
        · exact z
      · rw [i64_iff]; omega
  · show Calls Tryz.prog 13 #[v0] w fun e w' => e = .returned (.tuple #[.int .i64 (g13_0 x0), .int .i64 (g13_1 x0)]) ∧ Kept [] w w'
    unfold g13_0 g13_1
    by_cases hv : g20_0 x0 = true
    · rw [if_pos hv, if_pos hv]
      by_cases h2 : x0.length < 2
      · rw [if_pos h2, if_pos h2]
        rcases hcase with ⟨ad, rfl, rfl⟩ | ⟨b', off, cap, rfl, h3, h4, hG, hcells⟩
        · refine (walkFew13 w [] ad 0 hgo h2 hv ha).mono ?_
          rintro e w' ⟨rfl, hb⟩
          exact ⟨rfl, Kept.of_below hb⟩
        · refine (walkFew13 w x0 _ cap hgo h2 hv ha).mono ?_
          rintro e w' ⟨rfl, hb⟩
          exact ⟨rfl, Kept.of_below hb⟩
      · rw [if_neg h2, if_neg h2]
        obtain ⟨p1, p2, p3, p4⟩ := hp hv (by omega)
        rcases hcase with ⟨ad, rfl, rfl⟩ | ⟨b', off, cap, rfl, h3, h4, hG, hcells⟩
        · exact absurd (by decide : ([] : List (Int × Int × Int × Unit)).length < 2) h2
        · refine (walk13 w x0 b' off cap hgo (by omega) p1 h3 h4 hG.1 hv ha hcells p2 p4).mono ?_
          rintro e w' ⟨rfl, hb⟩
          exact ⟨rfl, Kept.of_below hb⟩
    · rw [if_neg hv, if_neg hv]
      refine (walkBad13 w x0 v0 hgo (Bool.eq_false_iff.2 hv) ha).mono ?_
      rintro e w' ⟨rfl, hb⟩
      exact ⟨rfl, Kept.of_below hb⟩
end Go.Proofs.YtbkkdnkbgnhodaaGreatDoor

/- Function 12 (impl.DayOfLimit): its runs between cut points. Written by a program of this repo (gen). -/
set_option linter.unusedVariables false
set_option linter.unusedSimpArgs false
set_option maxRecDepth 100000
namespace Go.Proofs.YtbkkdnkbgnhodaaGreatDoor
open Go Go.Am Go.Proofs
noncomputable section
def ext12 : Ext := [(20, S20), (30, S30), (13, S13), (31, S31)]
theorem call12_20 : Callable Tryz.prog 20 := ⟨Tryz.f20, Tryz.func20, by kernel_rfl, by kernel_rfl⟩
theorem call12_30 : Callable Tryz.prog 30 := ⟨Tryz.f30, Tryz.func30, by kernel_rfl, by kernel_rfl⟩
theorem call12_13 : Callable Tryz.prog 13 := ⟨Tryz.f13, Tryz.func13, by kernel_rfl, by kernel_rfl⟩
theorem call12_31 : Callable Tryz.prog 31 := ⟨Tryz.f31, Tryz.func31, by kernel_rfl, by kernel_rfl⟩
theorem ext12Ok : ExtOk Tryz.prog ext12 := ⟨⟨call12_20, con20⟩, ⟨call12_30, con30⟩, ⟨call12_13, con13⟩, ⟨call12_31, con31⟩, trivial⟩

noncomputable def b12 : Code := bodyOf Tryz.f12
theorem hb12 : Tryz.f12.body = some b12 := by kernel_rfl
def sig12 : List AT := [AT.v (Ty.sl (Ty.cons (Ty.int IntKind.i64) (Ty.cons (Ty.int IntKind.i64) (Ty.cons (Ty.int IntKind.i64) Ty.unit)))), AT.v (Ty.int IntKind.i64)]
def tys12 : List Ty := [Ty.int IntKind.i64, Ty.int IntKind.i64]
def kds12 : List RK := []
def oks12 : List AT := owns sig12
def E12_10 (v9 : Int) (x1 : Int) (x0 : List (Int × Int × Int × Unit)) : Env := [(1, PV.a (Atom.val (Value.int IntKind.i64 x1))), (6, PV.a (Atom.val (Value.int IntKind.i64 (g13_0 x0)))), (8, PV.a (Atom.optr 0 0 [])), (9, PV.a (Atom.val (Value.int IntKind.i64 v9)))]
def L12_10 (v9 : Int) (x1 : Int) (x0 : List (Int × Int × Int × Unit)) : Heap := [Option.some (Arr.mk (Ty.cons (Ty.int IntKind.i64) (Ty.cons (Ty.int IntKind.i64) (Ty.cons (Ty.int IntKind.i64) Ty.unit))) [List.getD x0 (Int.toNat ((↑(List.length x0) : Int) - 1)) (0, 0, 0, ())] Bool.true Option.none (Option.some Bool.false))]
mutual
def R12 : Nat → List (Int × Int × Int × Unit) → Int → List Dyn → Prop
  | 0, _, _, _ => False
  | n + 1, x0, x1, ds => (if (!g20_0 x0) = true then (ds = [Dyn.mk (Ty.int IntKind.i64) 0, Dyn.mk (Ty.int IntKind.i64) 1]) else (if (!g30_0 x1 0 24000) = true then (ds = [Dyn.mk (Ty.int IntKind.i64) 0, Dyn.mk (Ty.int IntKind.i64) 2]) else ((P13 x0) ∧ (if (g13_1 x0 != 0) = true then (ds = [Dyn.mk (Ty.int IntKind.i64) 0, Dyn.mk (Ty.int IntKind.i64) (g13_1 x0)]) else ((InR IntKind.i64 ((↑(List.length x0) : Int) - 1)) ∧ ((0 ≤ (↑(List.length x0) : Int) - 1) ∧ ((↑(List.length x0) : Int) - 1 < (↑(List.length x0) : Int)) ∧ (R12_10 n (Prod.fst (List.getD x0 (Int.toNat ((↑(List.length x0) : Int) - 1)) (0, 0, 0, ()))) (x1) (x0) ds)))))))
def R12_10 : Nat → Int → Int → List (Int × Int × Int × Unit) → List Dyn → Prop
  | 0, _, _, _, _ => False
  | n + 1, v9, x1, x0, ds => (if (g31_0 v9) = true then ((InR IntKind.i64 (v9 - Prod.fst (List.getD x0 (Int.toNat ((↑(List.length x0) : Int) - 1)) (0, 0, 0, ())))) ∧ ((InR IntKind.i64 (g13_0 x0 * (v9 - Prod.fst (List.getD x0 (Int.toNat ((↑(List.length x0) : Int) - 1)) (0, 0, 0, ()))))) ∧ ((InR IntKind.i64 (Int.tdiv (g13_0 x0 * (v9 - Prod.fst (List.getD x0 (Int.toNat ((↑(List.length x0) : Int) - 1)) (0, 0, 0, ())))) 1000)) ∧ ((InR IntKind.i64 (Prod.fst (Prod.snd (List.getD x0 (Int.toNat ((↑(List.length x0) : Int) - 1)) (0, 0, 0, ()))) + Int.tdiv (g13_0 x0 * (v9 - Prod.fst (List.getD x0 (Int.toNat ((↑(List.length x0) : Int) - 1)) (0, 0, 0, ())))) 1000)) ∧ (if (Decidable.decide (Prod.fst (Prod.snd (List.getD x0 (Int.toNat ((↑(List.length x0) : Int) - 1)) (0, 0, 0, ()))) + Int.tdiv (g13_0 x0 * (v9 - Prod.fst (List.getD x0 (Int.toNat ((↑(List.length x0) : Int) - 1)) (0, 0, 0, ())))) 1000 ≥ x1)) = true then (ds = [Dyn.mk (Ty.int IntKind.i64) v9, Dyn.mk (Ty.int IntKind.i64) 0]) else ((InR IntKind.i64 (v9 + 1)) ∧ (R12_10 n (v9 + 1) (x1) (x0) ds))))))) else (ds = [Dyn.mk (Ty.int IntKind.i64) 0, Dyn.mk (Ty.int IntKind.i64) 3]))
end
theorem snd12 : ∀ n, (∀ (x0 : List (Int × Int × Int × Unit)) (x1 : Int) ds, R12 n x0 x1 ds → ∀ K q, AtV Tryz.prog 12 (PostR kds12 oks12 ds [] [] q K) 49 K q [] [.code b12] (entE 0 0 sig12 (x0, x1, ())) (entL sig12 (x0, x1, ()))) ∧ (∀ (v9 : Int) (x1 : Int) (x0 : List (Int × Int × Int × Unit)) ds, R12_10 n v9 x1 x0 ds → ∀ K q, AtV Tryz.prog 12 (PostR kds12 oks12 ds [] [] q K) 49 K q [] (cutAt b12 10) (E12_10 v9 x1 x0) (L12_10 v9 x1 x0)) := by
  intro n
  induction n with
  | zero => exact ⟨fun _ _ _ h => by simp only [R12] at h, fun _ _ _ _ h => by simp only [R12_10] at h⟩
  | succ n ih =>
  obtain ⟨ih, ih10⟩ := ih
  refine ⟨?_, ?_⟩
  · intro x0 x1 ds h K q
    rw [R12] at h
    by_cases b0 : (!g20_0 x0) = true
    · rw [if_pos b0] at h
      subst h
      exact AtV.ret Tryz.func12 tabOk ext12Ok mixed false [] tys12 [true] (a1 trivial (a1 b0 trivial)) (by kernel_rfl)
    · rw [if_neg b0] at h
      replace b0 := Bool.eq_false_iff.2 b0
      by_cases b1 : (!g30_0 x1 0 24000) = true
      · rw [if_pos b1] at h
        subst h
        exact AtV.ret Tryz.func12 tabOk ext12Ok mixed false [] tys12 [false, true] (a1 trivial (a1 b0 (a1 trivial (a1 b1 trivial)))) (by kernel_rfl)
      · rw [if_neg b1] at h
        replace b1 := Bool.eq_false_iff.2 b1
        obtain ⟨s0, h⟩ := h
        by_cases b2 : (g13_1 x0 != 0) = true
        · rw [if_pos b2] at h
          subst h
          exact AtV.ret Tryz.func12 tabOk ext12Ok mixed false [] tys12 [false, false, true] (a1 trivial (a1 b0 (a1 trivial (a1 b1 (a1 s0 (a1 b2 trivial)))))) (by kernel_rfl)
        · rw [if_neg b2] at h
          replace b2 := Bool.eq_false_iff.2 b2
          obtain ⟨s1, h⟩ := h
          obtain ⟨s2, s3, h⟩ := h
          exact AtV.go tabOk ext12Ok mixed false [] [] [1, 6, 8, 9] [0] [false, false, false] (a1 trivial (a1 b0 (a1 trivial (a1 b1 (a1 s0 (a1 b2 (a1 s1 (a1 s2 (a1 s3 trivial))))))))) (ih10 _ _ _ _ h K q) (by kernel_rfl)

  · intro v9 x1 x0 ds h K q
    rw [R12_10] at h
    by_cases b0 : (g31_0 v9) = true
    · rw [if_pos b0] at h
      obtain ⟨s0, h⟩ := h
      obtain ⟨s1, h⟩ := h
      obtain ⟨s2, h⟩ := h
      obtain ⟨s3, h⟩ := h
      by_cases b1 : (Decidable.decide (Prod.fst (Prod.snd (List.getD x0 (Int.toNat ((↑(List.length x0) : Int) - 1)) (0, 0, 0, ()))) + Int.tdiv (g13_0 x0 * (v9 - Prod.fst (List.getD x0 (Int.toNat ((↑(List.length x0) : Int) - 1)) (0, 0, 0, ())))) 1000 ≥ x1)) = true
      · rw [if_pos b1] at h
        subst h
        exact AtV.ret Tryz.func12 tabOk ext12Ok mixed false [] tys12 [true, true] (a1 trivial (a1 b0 (a1 s0 (a1 s1 (a1 ((by decide) : (1000 : Int) ≠ (0 : Int)) (a1 s2 (a1 s3 (a1 b1 trivial)))))))) (by kernel_rfl)
      · rw [if_neg b1] at h
        replace b1 := Bool.eq_false_iff.2 b1
        obtain ⟨s4, h⟩ := h
        exact AtV.go tabOk ext12Ok mixed false [] [] [1, 6, 8, 9] [0] [true, false] (a1 trivial (a1 b0 (a1 s0 (a1 s1 (a1 ((by decide) : (1000 : Int) ≠ (0 : Int)) (a1 s2 (a1 s3 (a1 b1 (a1 s4 trivial))))))))) (ih10 _ _ _ _ h K q) (by kernel_rfl)
    · rw [if_neg b0] at h
      replace b0 := Bool.eq_false_iff.2 b0
      subst h
      exact AtV.ret Tryz.func12 tabOk ext12Ok mixed false [] tys12 [false] (a1 trivial (a1 b0 trivial)) (by kernel_rfl)



abbrev TD12 : Int × Int × Int × Unit := ((0 : Int), (0 : Int), (0 : Int), ())
def lt12 (x0 : List (Int × Int × Int × Unit)) : Int × Int × Int × Unit := x0.getD (Int.toNat ((x0.length : Int) - 1)) TD12
def wires12 (x0 : List (Int × Int × Int × Unit)) (d : Int) : Int := (lt12 x0).2.1 + Int.tdiv (g13_0 x0 * (d - (lt12 x0).1)) 1000
def fnd12 (x0 : List (Int × Int × Int × Unit)) (x1 : Int) : Nat → Int → Int
  | 0, _ => -1
  | k + 1, d => if wires12 x0 d ≥ x1 then d else fnd12 x0 x1 k (d + 1)
def day12 (x0 : List (Int × Int × Int × Unit)) (x1 : Int) : Int := fnd12 x0 x1 (36525 - (lt12 x0).1).toNat (lt12 x0).1
def g12_0 (x0 : List (Int × Int × Int × Unit)) (x1 : Int) : Int := if g20_0 x0 = true then (if g30_0 x1 0 24000 = true then (if g13_1 x0 = 0 then (if day12 x0 x1 < 0 then 0 else day12 x0 x1) else 0) else 0) else 0
def g12_1 (x0 : List (Int × Int × Int × Unit)) (x1 : Int) : Int := if g20_0 x0 = true then (if g30_0 x1 0 24000 = true then (if g13_1 x0 = 0 then (if day12 x0 x1 < 0 then 3 else 0) else g13_1 x0) else 2) else 1
def Bd12 (x0 : List (Int × Int × Int × Unit)) : Prop := 1 ≤ x0.length ∧ x0.length ≤ 24 ∧ (0 ≤ (lt12 x0).1 ∧ (lt12 x0).1 ≤ 36524) ∧ (0 ≤ (lt12 x0).2.1 ∧ (lt12 x0).2.1 ≤ 24000) ∧ (0 ≤ g13_0 x0 ∧ g13_0 x0 ≤ 30000000)
def P12 (x0 : List (Int × Int × Int × Unit)) (x1 : Int) : Prop := P13 x0 ∧ (g20_0 x0 = true → g13_1 x0 = 0 → Bd12 x0)

theorem mul12 {a b : Int} (ha : 0 ≤ a ∧ a ≤ 30000000) (hb : 0 ≤ b ∧ b ≤ 36524) : 0 ≤ a * b ∧ a * b ≤ 1095720000000 ∧ 0 ≤ Int.tdiv (a * b) 1000 ∧ Int.tdiv (a * b) 1000 ≤ 1095720000 := by
  have h1 : 0 ≤ a * b := Int.mul_nonneg ha.1 hb.1
  have h2 : a * b ≤ 30000000 * 36524 := Int.mul_le_mul ha.2 hb.2 hb.1 (by decide)
  rw [Int.tdiv_eq_ediv_of_nonneg h1]
  generalize a * b = z at *
  omega

theorem run12 {x0 : List (Int × Int × Int × Unit)} {x1 : Int} (hb : Bd12 x0) : ∀ (k : Nat) (d : Int), (lt12 x0).1 ≤ d → d + k = 36525 →
    R12_10 (k + 1) d x1 x0 [⟨.int .i64, if fnd12 x0 x1 k d < 0 then 0 else fnd12 x0 x1 k d⟩, ⟨.int .i64, if fnd12 x0 x1 k d < 0 then 3 else 0⟩] := by
  obtain ⟨hl, hm, ⟨a1, a2⟩, ⟨b1, b2⟩, hg⟩ := hb
  intro k
  induction k with
  | zero =>
    intro d hd hk
    have e : ¬ g31_0 d = true := by
      unfold g31_0 g30_0
      rw [if_pos (by simp only [decide_eq_true_eq]; omega)]
      simp only [decide_eq_true_eq]; omega
    rw [R12_10, if_neg e]
    rfl
  | succ k ih =>
    intro d hd hk
    have e : g31_0 d = true := by
      unfold g31_0 g30_0
      rw [if_pos (by simp only [decide_eq_true_eq]; omega)]
      simp only [decide_eq_true_eq]; omega
    obtain ⟨m1, m2, m3, m4⟩ := mul12 hg (b := d - (lt12 x0).1) (by omega)
    have hr : R12_10 (k + 1 + 1) d x1 x0 [⟨.int .i64, if fnd12 x0 x1 (k + 1) d < 0 then 0 else fnd12 x0 x1 (k + 1) d⟩, ⟨.int .i64, if fnd12 x0 x1 (k + 1) d < 0 then 3 else 0⟩] = ((InR .i64 (d - (lt12 x0).1)) ∧ ((InR .i64 (g13_0 x0 * (d - (lt12 x0).1))) ∧ ((InR .i64 (Int.tdiv (g13_0 x0 * (d - (lt12 x0).1)) 1000)) ∧ ((InR .i64 (wires12 x0 d)) ∧ (if decide (wires12 x0 d ≥ x1) = true then ([⟨.int .i64, if fnd12 x0 x1 (k + 1) d < 0 then 0 else fnd12 x0 x1 (k + 1) d⟩, ⟨.int .i64, if fnd12 x0 x1 (k + 1) d < 0 then 3 else 0⟩] = ([⟨.int .i64, d⟩, ⟨.int .i64, 0⟩] : List Dyn)) else ((InR .i64 (d + 1)) ∧ (R12_10 (k + 1) (d + 1) x1 x0 [⟨.int .i64, if fnd12 x0 x1 (k + 1) d < 0 then 0 else fnd12 x0 x1 (k + 1) d⟩, ⟨.int .i64, if fnd12 x0 x1 (k + 1) d < 0 then 3 else 0⟩]))))))) := by
      rw [R12_10, if_pos e]
      rfl
    rw [hr]
    have hv : InR .i64 (wires12 x0 d) := by
      unfold wires12
      rw [i64_iff]
      generalize Int.tdiv (g13_0 x0 * (d - (lt12 x0).1)) 1000 = z at *
      omega
    refine ⟨by rw [i64_iff]; omega, by rw [i64_iff]; omega, by rw [i64_iff]; omega, hv, ?_⟩
    have ef : fnd12 x0 x1 (k + 1) d = if wires12 x0 d ≥ x1 then d else fnd12 x0 x1 k (d + 1) := rfl
    by_cases h : wires12 x0 d ≥ x1
    · rw [if_pos h] at ef
      rw [if_pos (decide_eq_true h), ef, if_neg (by omega), if_neg (by omega)]
    · rw [if_neg h] at ef
      rw [if_neg (by simpa using h), ef]
      exact ⟨by rw [i64_iff]; omega, ih (d + 1) (by omega) (by omega)⟩

theorem top12 (x0 : List (Int × Int × Int × Unit)) (x1 : Int) (hp : P12 x0 x1) : ∃ n, R12 n x0 x1 [⟨.int .i64, g12_0 x0 x1⟩, ⟨.int .i64, g12_1 x0 x1⟩] := by
  obtain ⟨p13, hB⟩ := hp
  unfold g12_0 g12_1
  cases hv : g20_0 x0 with
  | false =>
    refine ⟨0 + 1, ?_⟩
    rw [R12, hv, if_pos (by rfl), if_neg (by decide), if_neg (by decide)]
  | true =>
    have hB := hB hv
    cases hw : g30_0 x1 0 24000 with
    | false =>
      refine ⟨0 + 1, ?_⟩
      rw [R12, hv, if_neg (by decide), hw, if_pos (by rfl)]
      rfl
    | true =>
      by_cases h4 : g13_1 x0 = 0
      · obtain ⟨hl, hm, ⟨a1, a2⟩, hrest⟩ := hB h4
        have hk := run12 (x1 := x1) (hB h4) (36525 - (lt12 x0).1).toNat (lt12 x0).1 (Int.le_refl _) (by omega)
        refine ⟨(36525 - (lt12 x0).1).toNat + 1 + 1, ?_⟩
        rw [R12, hv, if_neg (by decide), hw, if_neg (by decide), if_neg (by rw [h4]; decide), if_pos rfl, if_pos rfl, if_pos h4, if_pos rfl, if_pos rfl, if_pos h4]
        exact ⟨p13, by rw [i64_iff]; omega, by omega, by omega, hk⟩
      · refine ⟨0 + 1, ?_⟩
        rw [R12, hv, if_neg (by decide), hw, if_neg (by decide), if_pos (by simpa using h4), if_pos rfl, if_pos rfl, if_neg h4, if_pos rfl, if_pos rfl, if_neg h4]
        exact ⟨p13, rfl⟩

def S12 : Am.Spec := { sig := sig12, pre := fun ⟨x0, x1, _⟩ => P12 x0 x1, res := fun ⟨x0, x1, _⟩ => [⟨.int .i64, g12_0 x0 x1⟩, ⟨.int .i64, g12_1 x0 x1⟩] }
theorem con12 : Contract Tryz.prog 12 S12 := contract_of Tryz.func12 hb12 (Nat.le_of_ble_eq_true (by kernel_rfl)) (fun ⟨x0, x1, _⟩ h hwf K q =>
  let ⟨n, hn⟩ := top12 x0 x1 h
  (snd12 n).1 x0 x1 _ hn K q)

end
end Go.Proofs.YtbkkdnkbgnhodaaGreatDoor

/- Function 11 (impl.NextTest): its runs between cut points. Written by a program of this repo (gen). -/
set_option linter.unusedVariables false
set_option linter.unusedSimpArgs false
set_option maxRecDepth 100000
namespace Go.Proofs.YtbkkdnkbgnhodaaGreatDoor
open Go Go.Am Go.Proofs
noncomputable section
def ext11 : Ext := [(20, S20), (30, S30), (12, S12)]
theorem call11_20 : Callable Tryz.prog 20 := ⟨Tryz.f20, Tryz.func20, by kernel_rfl, by kernel_rfl⟩
theorem call11_30 : Callable Tryz.prog 30 := ⟨Tryz.f30, Tryz.func30, by kernel_rfl, by kernel_rfl⟩
theorem call11_12 : Callable Tryz.prog 12 := ⟨Tryz.f12, Tryz.func12, by kernel_rfl, by kernel_rfl⟩
theorem ext11Ok : ExtOk Tryz.prog ext11 := ⟨⟨call11_20, con20⟩, ⟨call11_30, con30⟩, ⟨call11_12, con12⟩, trivial⟩

noncomputable def b11 : Code := bodyOf Tryz.f11
theorem hb11 : Tryz.f11.body = some b11 := by kernel_rfl
def sig11 : List AT := [AT.v (Ty.sl (Ty.cons (Ty.int IntKind.i64) (Ty.cons (Ty.int IntKind.i64) (Ty.cons (Ty.int IntKind.i64) Ty.unit)))), AT.v (Ty.int IntKind.i64), AT.v (Ty.int IntKind.i64)]
def tys11 : List Ty := [Ty.int IntKind.i64, Ty.int IntKind.i64]
def kds11 : List RK := []
def oks11 : List AT := owns sig11
def P11 (x0 : List (Int × Int × Int × Unit)) (x1 : Int) (x2 : Int) : Prop := (if (!g20_0 x0) = true then True else (if (!g30_0 x1 0 24000) = true then True else (if (!g30_0 x2 1 1000) = true then True else (if ((↑(List.length x0) : Int) == 0) = true then True else ((InR IntKind.i64 ((↑(List.length x0) : Int) - 1)) ∧ ((0 ≤ (↑(List.length x0) : Int) - 1) ∧ ((↑(List.length x0) : Int) - 1 < (↑(List.length x0) : Int)) ∧ ((InR IntKind.i64 (Prod.fst (List.getD x0 (Int.toNat ((↑(List.length x0) : Int) - 1)) (0, 0, 0, ())) + x2)) ∧ ((P12 x0 x1) ∧ True))))))))
def g11_0 (x0 : List (Int × Int × Int × Unit)) (x1 : Int) (x2 : Int) : Int := (if (!g20_0 x0) = true then 0 else (if (!g30_0 x1 0 24000) = true then 0 else (if (!g30_0 x2 1 1000) = true then 0 else (if ((↑(List.length x0) : Int) == 0) = true then 0 else (if (g12_1 x0 x1 == 0) = true then if g12_0 x0 x1 < if Prod.fst (List.getD x0 (Int.toNat ((↑(List.length x0) : Int) - 1)) (0, 0, 0, ())) + x2 < 36524 then Prod.fst (List.getD x0 (Int.toNat ((↑(List.length x0) : Int) - 1)) (0, 0, 0, ())) + x2 else 36524 then g12_0 x0 x1 else if Prod.fst (List.getD x0 (Int.toNat ((↑(List.length x0) : Int) - 1)) (0, 0, 0, ())) + x2 < 36524 then Prod.fst (List.getD x0 (Int.toNat ((↑(List.length x0) : Int) - 1)) (0, 0, 0, ())) + x2 else 36524 else if Prod.fst (List.getD x0 (Int.toNat ((↑(List.length x0) : Int) - 1)) (0, 0, 0, ())) + x2 < 36524 then Prod.fst (List.getD x0 (Int.toNat ((↑(List.length x0) : Int) - 1)) (0, 0, 0, ())) + x2 else 36524)))))
def g11_1 (x0 : List (Int × Int × Int × Unit)) (x1 : Int) (x2 : Int) : Int := (if (!g20_0 x0) = true then 1 else (if (!g30_0 x1 0 24000) = true then 2 else (if (!g30_0 x2 1 1000) = true then 2 else (if ((↑(List.length x0) : Int) == 0) = true then 3 else (if (g12_1 x0 x1 == 0) = true then 0 else 0)))))
theorem at11 (x0 : List (Int × Int × Int × Unit)) (x1 : Int) (x2 : Int) (h : P11 x0 x1 x2) (K : Ctx) (q : Nat → Value) : AtV Tryz.prog 11 (PostR kds11 oks11 [⟨Ty.int IntKind.i64, g11_0 x0 x1 x2⟩, ⟨Ty.int IntKind.i64, g11_1 x0 x1 x2⟩] [] [] q K) 50 K q [] [.code b11] (entE 0 0 sig11 (x0, x1, x2, ())) (entL sig11 (x0, x1, x2, ())) := by
  unfold P11 at h
  unfold g11_0 g11_1
  by_cases b0 : (!g20_0 x0) = true
  · try simp only [if_pos b0] at h ⊢
    exact AtV.ret Tryz.func11 tabOk ext11Ok mixed false [] tys11 [true] (a1 trivial (a1 b0 trivial)) (by kernel_rfl)
  · try simp only [if_neg b0] at h ⊢
    replace b0 := Bool.eq_false_iff.2 b0
    by_cases b1 : (!g30_0 x1 0 24000) = true
    · try simp only [if_pos b1] at h ⊢
      exact AtV.ret Tryz.func11 tabOk ext11Ok mixed false [] tys11 [false, true, true] (a1 trivial (a1 b0 (a1 trivial (a1 b1 (a1 (rfl : Bool.true = Bool.true) trivial))))) (by kernel_rfl)
    · try simp only [if_neg b1] at h ⊢
      replace b1 := Bool.eq_false_iff.2 b1
      by_cases b2 : (!g30_0 x2 1 1000) = true
      · try simp only [if_pos b2] at h ⊢
        exact AtV.ret Tryz.func11 tabOk ext11Ok mixed false [] tys11 [false, false, true] (a1 trivial (a1 b0 (a1 trivial (a1 b1 (a1 trivial (a1 b2 trivial)))))) (by kernel_rfl)
      · try simp only [if_neg b2] at h ⊢
        replace b2 := Bool.eq_false_iff.2 b2
        by_cases b3 : ((↑(List.length x0) : Int) == 0) = true
        · try simp only [if_pos b3] at h ⊢
          exact AtV.ret Tryz.func11 tabOk ext11Ok mixed false [] tys11 [false, false, false, true] (a1 trivial (a1 b0 (a1 trivial (a1 b1 (a1 trivial (a1 b2 (a1 b3 trivial))))))) (by kernel_rfl)
        · try simp only [if_neg b3] at h ⊢
          replace b3 := Bool.eq_false_iff.2 b3
          obtain ⟨s0, h⟩ := h
          obtain ⟨s1, s2, h⟩ := h
          obtain ⟨s3, h⟩ := h
          obtain ⟨s4, h⟩ := h
          by_cases b4 : (g12_1 x0 x1 == 0) = true
          · try simp only [if_pos b4] at h ⊢
            exact AtV.ret Tryz.func11 tabOk ext11Ok mixed false [] tys11 [false, false, false, false, true] (a1 trivial (a1 b0 (a1 trivial (a1 b1 (a1 trivial (a1 b2 (a1 b3 (a1 s0 (a1 s1 (a1 s2 (a1 s3 (a1 s4 (a1 b4 trivial))))))))))))) (by kernel_rfl)
          · try simp only [if_neg b4] at h ⊢
            replace b4 := Bool.eq_false_iff.2 b4
            exact AtV.ret Tryz.func11 tabOk ext11Ok mixed false [] tys11 [false, false, false, false, false] (a1 trivial (a1 b0 (a1 trivial (a1 b1 (a1 trivial (a1 b2 (a1 b3 (a1 s0 (a1 s1 (a1 s2 (a1 s3 (a1 s4 (a1 b4 trivial))))))))))))) (by kernel_rfl)

def S11 : Am.Spec := { sig := sig11, pre := fun ⟨x0, x1, x2, _⟩ => P11 x0 x1 x2, res := fun ⟨x0, x1, x2, _⟩ => [⟨Ty.int IntKind.i64, g11_0 x0 x1 x2⟩, ⟨Ty.int IntKind.i64, g11_1 x0 x1 x2⟩], kds := kds11 }
theorem con11 : Contract Tryz.prog 11 S11 := contract_of Tryz.func11 hb11 (Nat.le_of_ble_eq_true (by kernel_rfl)) (fun ⟨x0, x1, x2, _⟩ h _ K q => at11 x0 x1 x2 h K q)


end
end Go.Proofs.YtbkkdnkbgnhodaaGreatDoor

/- A law that says how functions of the program and of the specification hang together. -/
set_option linter.unusedVariables false
set_option linter.unusedSimpArgs false
set_option maxRecDepth 100000
namespace Go.Proofs.YtbkkdnkbgnhodaaGreatDoor
open Go Go.Am Go.Proofs

def Dat (y m d : Int) : Prop := (2000 ≤ y ∧ y ≤ 2099) ∧ (1 ≤ m ∧ m ≤ 12) ∧ (1 ≤ d ∧ d ≤ g53_0 y m)

def bas (y : Int) : Int := (y - 2000) * 365 + (y - 1997) / 4

theorem day_at {y m d : Int} (hy : 2000 ≤ y) : g54_0 y m d = bas y + ms54 y (m - 1).toNat + d - 1 := by
  have e : Int.tdiv (y - 1997) 4 = (y - 1997) / 4 := Int.tdiv_eq_ediv_of_nonneg (by omega)
  unfold g54_0 bs54 bas
  rw [e]; omega

theorem win {x a b : Int} : g30_0 x a b = true ↔ a ≤ x ∧ x ≤ b := by
  unfold g30_0
  by_cases c1 : x ≥ a
  · by_cases c2 : x ≤ b
    · simp [c1, c2]
    · simp [c1, c2]
  · have : ¬ a ≤ x := c1
    simp [c1, this]

theorem inum {y m d : Int} (h : Dat y m d) : g38_0 y m d = g54_0 y m d ∧ g38_1 y m d = 0 := by
  obtain ⟨h0, h1, h2⟩ := h
  unfold g38_0 g38_1
  rw [win.2 h0, win.2 h1, win.2 h2]
  exact ⟨rfl, rfl⟩

theorem idat {y m d : Int} (h : g38_1 y m d = 0) : Dat y m d := by
  unfold g38_1 at h
  cases h0 : g30_0 y 2000 2099 with
  | false => rw [h0] at h; simp at h
  | true =>
    cases h1 : g30_0 m 1 12 with
    | false => rw [h0, h1] at h; simp at h
    | true =>
      cases h2 : g30_0 d 1 (g53_0 y m) with
      | false => rw [h0, h1, h2] at h; simp at h
      | true => exact ⟨win.1 h0, win.1 h1, win.1 h2⟩

theorem ms_mono {y : Int} (hy : 2000 ≤ y ∧ y ≤ 2099) (i : Nat) : ∀ j, ms54 y i ≤ ms54 y (i + j)
  | 0 => Int.le_refl _
  | j + 1 => by
    have := ms_mono hy i j
    have := (len54 hy (m := ((i + j : Nat) : Int) + 1)).2.1
    rw [← Nat.add_assoc]
    simp only [ms54]
    omega

theorem ms_year {y : Int} (hy : 2000 ≤ y ∧ y ≤ 2099) : bas y + ms54 y 12 = bas (y + 1) := by
  have et : Int.tmod y 4 = y % 4 := Int.tmod_eq_emod_of_nonneg (by omega)
  have e : ms54 y 12 = if y % 4 = 0 then 366 else 365 := by
    by_cases hz : y % 4 = 0 <;> simp [ms54, g53_0, et, hz]
  rw [e]
  unfold bas
  split <;> omega

theorem year_back {y day : Int} (hy : 2000 ≤ y ∧ y ≤ 2099) (h1 : bas y ≤ day) (h2 : day < bas (y + 1)) : ∀ (k : Nat) (z : Int), z + k = 2099 → 2000 ≤ z → z ≤ y → yr41 day k z = y := by
  have e1 : ∀ z : Int, 2000 ≤ z → g54_0 z 1 1 = bas z := fun z hz => by
    rw [day_at hz]
    show bas z + 0 + 1 - 1 = bas z
    omega
  intro k
  induction k with
  | zero => intro z hz _ hle; show z = y; omega
  | succ k ih =>
    intro z hz h0 hle
    unfold yr41
    rw [e1 (z + 1) (by omega)]
    by_cases hlt : z < y
    · rw [if_pos (by have : bas (z + 1) ≤ bas y := by unfold bas; omega
                     omega)]
      exact ih (z + 1) (by omega) (by omega) (by omega)
    · have : z = y := by omega
      subst this
      rw [if_neg (by omega)]

theorem month_back {y m day : Int} (hy : 2000 ≤ y ∧ y ≤ 2099) (hm : 1 ≤ m ∧ m ≤ 12) (h1 : bas y + ms54 y (m - 1).toNat ≤ day) (h2 : day < bas y + ms54 y m.toNat) : ∀ (k : Nat) (z : Int), z + k = 12 → 1 ≤ z → z ≤ m → mo41 day y k z = m := by
  intro k
  induction k with
  | zero => intro z hz _ hle; show z = m; omega
  | succ k ih =>
    intro z hz h0 hle
    unfold mo41
    rw [day_at hy.1, show z + 1 - 1 = z by omega]
    by_cases hlt : z < m
    · rw [if_pos (by
        have := ms_mono hy z.toNat ((m - 1).toNat - z.toNat)
        rw [show z.toNat + ((m - 1).toNat - z.toNat) = (m - 1).toNat by omega] at this
        omega)]
      exact ih (z + 1) (by omega) (by omega) (by omega)
    · have : z = m := by omega
      subst this
      rw [if_neg (by omega)]

theorem date_back {y m d : Int} (h : Dat y m d) : (0 ≤ g54_0 y m d ∧ g54_0 y m d ≤ 36524) ∧ g41_0 (g54_0 y m d) = y ∧ g41_1 (g54_0 y m d) = m ∧ g41_2 (g54_0 y m d) = d := by
  obtain ⟨h0, h1, h2⟩ := h
  have ed := day_at (m := m) (d := d) h0.1
  have hb := msb54 h0 (m - 1).toNat
  have hms : ms54 y m.toNat = ms54 y (m - 1).toNat + g53_0 y m := by
    obtain ⟨k, hk⟩ : ∃ k : Nat, m = (k : Int) + 1 := ⟨(m - 1).toNat, by omega⟩
    subst hk
    rw [show ((k : Int) + 1).toNat = k + 1 by omega, show ((k : Int) + 1 - 1).toNat = k by omega]
    rfl
  have hy12 := ms_year h0
  have hmono := ms_mono h0 m.toNat (12 - m.toNat)
  rw [show m.toNat + (12 - m.toNat) = 12 by omega] at hmono
  have hbas : 0 ≤ bas y ∧ bas (y + 1) ≤ 36525 := by unfold bas; omega
  have a0 : g41_0 (g54_0 y m d) = y := year_back h0 (by omega) (by omega) 99 2000 (by omega) (by omega) (by omega)
  have a1 : g41_1 (g54_0 y m d) = m := by
    unfold g41_1
    rw [a0]
    exact month_back h0 h1 (by omega) (by omega) 11 1 (by omega) (by omega) (by omega)
  refine ⟨by omega, a0, a1, ?_⟩
  unfold g41_2
  rw [a0, a1, day_at (m := m) (d := 1) h0.1]
  omega

end Go.Proofs.YtbkkdnkbgnhodaaGreatDoor

/- A law that says how functions of the program and of the specification hang together. -/
set_option linter.unusedVariables false
set_option linter.unusedSimpArgs false
set_option maxRecDepth 100000
namespace Go.Proofs.YtbkkdnkbgnhodaaGreatDoor
open Go Go.Am Go.Proofs

def D10 (a : Nat) : UInt8 := UInt8.ofNat (48 + a)
theorem D10_nat {a : Nat} (h : a < 10) : (D10 a).toNat = 48 + a := by unfold D10; rw [UInt8.toNat_ofNat']; omega
theorem num_one {n : Nat} (h : n < 10) : numB (n : Int) = ⟨⟨[D10 n]⟩⟩ := by
  unfold numB Lib.itoa
  rw [if_neg (by omega), Int.toNat_natCast, Lib.decDigits_one h]
  rfl
theorem num_two {n : Nat} (h1 : 10 ≤ n) (h : n < 100) : numB (n : Int) = ⟨⟨[D10 (n / 10), D10 (n % 10)]⟩⟩ := by
  unfold numB Lib.itoa
  rw [if_neg (by omega), Int.toNat_natCast, Lib.decDigits_two (by omega) h]
  rfl

theorem pad_two {n : Nat} (h : n < 100) : P43 (n : Int) 2 ∧ g43_0 (n : Int) 2 = ⟨⟨[D10 (n / 10), D10 (n % 10)]⟩⟩ := by
  unfold P43 g43_0
  have e : g42_0 (n : Int) = numB (n : Int) := rfl
  rw [e]
  by_cases h1 : n < 10
  · rw [num_one h1]
    have e0 : n / 10 = 0 := by omega
    have e1 : n % 10 = n := by omega
    rw [e0, e1]
    have e2 : (ByteArray.mk (Array.mk [D10 n])).size = 1 := rfl
    rw [e2]
    exact ⟨⟨⟨rfl, trivial⟩, by rw [i64_iff]; decide, ⟨by decide, by decide⟩, by show 1 + 1 ≤ _; decide, trivial⟩, rfl⟩
  · rw [num_two (by omega) h]
    have e2 : (ByteArray.mk (Array.mk [D10 (n / 10), D10 (n % 10)])).size = 2 := rfl
    rw [e2]
    exact ⟨⟨⟨rfl, trivial⟩, by rw [i64_iff]; decide, ⟨by decide, by decide⟩, by show 0 + 2 ≤ _; decide, trivial⟩, rfl⟩

theorem number_two {a b : Nat} (ha : a < 10) (hb : b < 10) : g39_0 ⟨⟨[D10 a, D10 b]⟩⟩ = ((10 * a + b : Nat) : Int) := by
  unfold g39_0
  rw [if_neg (by show ¬ (2 < 1 ∨ 12 < 2); omega)]
  show num39 [D10 a, D10 b] 0 = _
  simp only [num39, D10_nat ha, D10_nat hb, decide_eq_true_eq, Bool.and_eq_true]
  rw [if_pos (by omega), if_pos (by omega)]
  omega


end Go.Proofs.YtbkkdnkbgnhodaaGreatDoor

/- A law that says how functions of the program and of the specification hang together. -/
set_option linter.unusedVariables false
set_option linter.unusedSimpArgs false
set_option maxRecDepth 100000
namespace Go.Proofs.YtbkkdnkbgnhodaaGreatDoor
open Go Go.Am Go.Proofs

def isD (b : UInt8) : Prop := 48 ≤ b.toNat ∧ b.toNat ≤ 57
def dval : List UInt8 → Nat → Nat
  | [], n => n
  | b :: r, n => dval r (10 * n + (b.toNat - 48))
theorem dval_append : ∀ (l : List UInt8) (b : UInt8) (n : Nat), dval (l ++ [b]) n = 10 * dval l n + (b.toNat - 48)
  | [], _, _ => rfl
  | c :: r, b, n => dval_append r b _
theorem dsign_nat {a : Nat} (h : a < 10) : (UInt8.ofNat (48 + a)).toNat = 48 + a := by rw [UInt8.toNat_ofNat']; omega

theorem dec_facts (n : Nat) : (∀ b ∈ Lib.decDigits n, isD b) ∧ dval (Lib.decDigits n) 0 = n ∧ 0 < (Lib.decDigits n).length ∧ (1 ≤ n → ((Lib.decDigits n).getD 0 0).toNat ≠ 48) := by
  induction n using Nat.strongRecOn with
  | _ n ih =>
    by_cases h : n < 10
    · rw [Lib.decDigits, dif_pos h]
      have e := dsign_nat h
      refine ⟨fun b hb => ?_, ?_, by simp, fun h1 => ?_⟩
      · rw [List.mem_singleton.1 hb]; unfold isD; omega
      · show 10 * 0 + ((UInt8.ofNat (48 + n)).toNat - 48) = n; omega
      · show (UInt8.ofNat (48 + n)).toNat ≠ 48; omega
    · rw [Lib.decDigits, dif_neg h]
      obtain ⟨i1, i2, i3, i4⟩ := ih (n / 10) (by omega)
      have e := dsign_nat (a := n % 10) (by omega)
      refine ⟨fun b hb => ?_, ?_, by simp, fun h1 => ?_⟩
      · rcases List.mem_append.1 hb with hb | hb
        · exact i1 b hb
        · rw [List.mem_singleton.1 hb]; unfold isD; omega
      · rw [dval_append, i2, e]; omega
      · have i4 := i4 (by omega)
        cases hd : Lib.decDigits (n / 10) with
        | nil => rw [hd] at i3; simp at i3
        | cons c r => rw [hd] at i4; exact i4

theorem dec_len : ∀ (k n : Nat), n < 10 ^ (k + 1) → (Lib.decDigits n).length ≤ k + 1
  | 0, n, h => by rw [Lib.decDigits, dif_pos (by simpa using h)]; simp
  | k + 1, n, h => by
    rw [Lib.decDigits]
    split
    · simp
    · have := dec_len k (n / 10) (by rw [Nat.pow_succ] at h; omega)
      simp; omega


end Go.Proofs.YtbkkdnkbgnhodaaGreatDoor

/- A law that says how functions of the program and of the specification hang together. -/
set_option linter.unusedVariables false
set_option linter.unusedSimpArgs false
set_option maxRecDepth 100000
namespace Go.Proofs.YtbkkdnkbgnhodaaGreatDoor
open Go Go.Am Go.Proofs

theorem number_dec {n : Nat} (h : n < 1000000000000) : g39_0 ⟨⟨Lib.decDigits n⟩⟩ = (n : Int) := by
  have key : ∀ (l : List UInt8) (m : Nat), (∀ b ∈ l, isD b) → num39 l (m : Int) = (dval l m : Nat) := by
    intro l
    induction l with
    | nil => intro m _; rfl
    | cons b r ih =>
      intro m hd
      have hb : isD b := hd b (List.mem_cons_self ..)
      unfold isD at hb
      unfold num39
      rw [if_pos (by simpa using hb)]
      have e1 : 10 * (m : Int) + ((b.toNat : Int) - 48) = ((10 * m + (b.toNat - 48) : Nat) : Int) := by omega
      rw [e1]
      exact ih _ (fun c hc => hd c (List.mem_cons_of_mem _ hc))
  obtain ⟨d1, d2, d3, _⟩ := dec_facts n
  have hl := dec_len 11 n (by omega)
  have hs : (ByteArray.mk ⟨Lib.decDigits n⟩).size = (Lib.decDigits n).length := rfl
  unfold g39_0
  rw [if_neg (by omega)]
  have := key (Lib.decDigits n) 0 d1
  rw [d2] at this
  exact this

end Go.Proofs.YtbkkdnkbgnhodaaGreatDoor

/- A law that says how functions of the program and of the specification hang together. -/
set_option linter.unusedVariables false
set_option linter.unusedSimpArgs false
set_option maxRecDepth 100000
namespace Go.Proofs.YtbkkdnkbgnhodaaGreatDoor
open Go Go.Am Go.Proofs

def y4 (y : Nat) : List UInt8 := [50, 48, D10 (y % 100 / 10), D10 (y % 10)]
def dT (y m d : Nat) : ByteArray := ⟨⟨y4 y ++ 45 :: ([D10 (m / 10), D10 (m % 10)] ++ 45 :: [D10 (d / 10), D10 (d % 10)])⟩⟩

theorem dec_y4 {y : Nat} (h : 2000 ≤ y ∧ y ≤ 2099) : Lib.decDigits y = y4 y := by
  have e1 : y / 10 / 10 = 20 := by omega
  have e2 : y / 10 % 10 = y % 100 / 10 := by omega
  rw [Lib.decDigits, dif_neg (by omega), Lib.decDigits, dif_neg (by omega), e1, e2, Lib.decDigits, dif_neg (by decide), Lib.decDigits, dif_pos (by decide)]
  rfl

theorem dec_big {y : Nat} (h : 2000 ≤ y ∧ y ≤ 2099) : g42_0 (y : Int) = ⟨⟨y4 y⟩⟩ := by
  rw [← dec_y4 h]
  show numB _ = _
  unfold numB Lib.itoa
  rw [if_neg (by omega), Int.toNat_natCast]

theorem D10_ne {a : Nat} (h : a < 10) : D10 a ≠ 45 := fun e => by
  have := congrArg UInt8.toNat e
  have e45 : (45 : UInt8).toNat = 45 := rfl
  rw [D10_nat h] at this
  omega

theorem two_free {a b : Nat} (ha : a < 10) (hb : b < 10) : (45 : UInt8) ∉ [D10 a, D10 b] := fun hm => by
  simp only [List.mem_cons, List.mem_nil_iff, or_false] at hm
  rcases hm with e | e
  · exact D10_ne ha e.symm
  · exact D10_ne hb e.symm

theorem y4_free (y : Nat) : (45 : UInt8) ∉ y4 y := fun hm => by
  unfold y4 at hm
  simp only [List.mem_cons, List.mem_nil_iff, or_false] at hm
  rcases hm with e | e | e | e
  · cases e
  · cases e
  · exact D10_ne (by omega) e.symm
  · exact D10_ne (by omega) e.symm

theorem dt_split {y m d : Nat} (hm : m < 100) (hd : d < 100) : g37_0 (dT y m d) (ByteArray.mk #[45]) = [⟨⟨y4 y⟩⟩, ⟨⟨[D10 (m / 10), D10 (m % 10)]⟩⟩, ⟨⟨[D10 (d / 10), D10 (d % 10)]⟩⟩] := by
  have e : g37_0 (dT y m d) (ByteArray.mk #[45]) = bss (splitC 45 (dT y m d).data.toList) := splitB_one 45 (dT y m d)
  rw [e]
  show bss (splitC 45 (y4 y ++ 45 :: ([D10 (m / 10), D10 (m % 10)] ++ 45 :: [D10 (d / 10), D10 (d % 10)]))) = _
  rw [splitC_hit 45 _ (y4_free y), splitC_hit 45 _ (two_free (by omega) (by omega)), splitC_free 45 (two_free (by omega) (by omega))]
  rfl

theorem date_nat {y m d : Int} (h : Dat y m d) : ∃ a b c : Nat, y = (a : Int) ∧ m = (b : Int) ∧ d = (c : Int) ∧ (2000 ≤ a ∧ a ≤ 2099) ∧ (1 ≤ b ∧ b ≤ 12) ∧ (1 ≤ c ∧ c ≤ 31) := by
  obtain ⟨h0, h1, h2⟩ := h
  have := (len54 h0 (m := m)).2.2
  exact ⟨y.toNat, m.toNat, d.toNat, by omega, by omega, by omega, by omega, by omega, by omega⟩

theorem date_text {a b c : Nat} (h : Dat (a : Int) (b : Int) (c : Int)) (ha : 2000 ≤ a ∧ a ≤ 2099) (hb : b ≤ 12) (hc : c ≤ 31) : g26_0 (g54_0 (a : Int) (b : Int) (c : Int)) = dT a b c := by
  obtain ⟨hd, e0, e1, e2⟩ := date_back h
  have hi : g31_0 (g54_0 (a : Int) (b : Int) (c : Int)) = true := win.2 hd
  unfold g26_0
  rw [hi, e0, e1, e2, dec_big ha, (pad_two (n := b) (by omega)).2, (pad_two (n := c) (by omega)).2]
  apply ByteArray.ext
  apply Array.ext'
  simp [ByteArray.data_append, dT]

theorem text_pre {y m d : Int} (h : Dat y m d) : P26 (g54_0 y m d) := by
  obtain ⟨a, b, c, rfl, rfl, rfl, ha, hb, hc⟩ := date_nat h
  obtain ⟨hd, e0, e1, e2⟩ := date_back h
  unfold P26
  rw [e0, e1, e2, dec_big ha]
  obtain ⟨p1, q1⟩ := pad_two (n := b) (by omega)
  obtain ⟨p2, q2⟩ := pad_two (n := c) (by omega)
  rw [q1, q2]
  have s4 : (ByteArray.mk ⟨y4 a⟩).size = 4 := rfl
  have s1 : (ByteArray.mk #[45]).size = 1 := rfl
  have s2 : ∀ u v : UInt8, (ByteArray.mk ⟨[u, v]⟩).size = 2 := fun _ _ => rfl
  by_cases hc : (!g31_0 (g54_0 (a : Int) (b : Int) (c : Int))) = true
  · rw [if_pos hc]; trivial
  · rw [if_neg hc]
    simp only [ByteArray.size_append, s4, s1, s2]
    exact ⟨⟨by omega, by omega⟩, ⟨rfl, trivial⟩, by omega, p1, by omega, by omega, p2, by omega, trivial⟩

theorem number_y4 {y : Nat} (h : 2000 ≤ y ∧ y ≤ 2099) : g39_0 ⟨⟨y4 y⟩⟩ = (y : Int) := by
  rw [← dec_y4 h]
  exact number_dec (by omega)

theorem date_i1 {a b c : Nat} (h : Dat (a : Int) (b : Int) (c : Int)) (ha : 2000 ≤ a ∧ a ≤ 2099) (hb : b ≤ 12) (hc : c ≤ 31) : g24_0 (dT a b c) = g54_0 (a : Int) (b : Int) (c : Int) ∧ g24_1 (dT a b c) = true := by
  have n1 := number_y4 ha
  have n2 : g39_0 ⟨⟨[D10 (b / 10), D10 (b % 10)]⟩⟩ = (b : Int) := by rw [number_two (by omega) (by omega)]; omega
  have n3 : g39_0 ⟨⟨[D10 (c / 10), D10 (c % 10)]⟩⟩ = (c : Int) := by rw [number_two (by omega) (by omega)]; omega
  obtain ⟨i0, i1⟩ := inum h
  unfold g24_0 g24_1
  rw [dt_split (by omega) (by omega)]
  have g0 : List.getD [(⟨⟨y4 a⟩⟩ : ByteArray), ⟨⟨[D10 (b / 10), D10 (b % 10)]⟩⟩, ⟨⟨[D10 (c / 10), D10 (c % 10)]⟩⟩] 0 ByteArray.empty = ⟨⟨y4 a⟩⟩ := rfl
  have g1 : List.getD [(⟨⟨y4 a⟩⟩ : ByteArray), ⟨⟨[D10 (b / 10), D10 (b % 10)]⟩⟩, ⟨⟨[D10 (c / 10), D10 (c % 10)]⟩⟩] 1 ByteArray.empty = ⟨⟨[D10 (b / 10), D10 (b % 10)]⟩⟩ := rfl
  have g2 : List.getD [(⟨⟨y4 a⟩⟩ : ByteArray), ⟨⟨[D10 (b / 10), D10 (b % 10)]⟩⟩, ⟨⟨[D10 (c / 10), D10 (c % 10)]⟩⟩] 2 ByteArray.empty = ⟨⟨[D10 (c / 10), D10 (c % 10)]⟩⟩ := rfl
  have gl : (([(⟨⟨y4 a⟩⟩ : ByteArray), ⟨⟨[D10 (b / 10), D10 (b % 10)]⟩⟩, ⟨⟨[D10 (c / 10), D10 (c % 10)]⟩⟩].length : Nat) : Int) = 3 := rfl
  simp only [g0, g1, g2, gl, n1, n2, n3, i0, i1, date_text h ha hb hc, bne_self_eq_false, beq_self_eq_true, Bool.not_true, Bool.false_eq_true, if_false, and_self]

theorem date_ip (x : ByteArray) (h : x.size ≤ 1048576) : P24 x := by
  have ifT3 : ∀ {c : Prop} [Decidable c] {Q : Prop}, (¬ c → Q) → if c then True else Q := by
    intro c _ Q h
    by_cases hc : c
    · rw [if_pos hc]; trivial
    · rw [if_neg hc]; exact h hc
  unfold P24
  refine ⟨⟨by omega, Nat.le_refl 1⟩, ifT3 fun h0 => ?_⟩
  have hl : (((g37_0 x (ByteArray.mk #[45])).length : Nat) : Int) = 3 := by simpa using h0
  generalize g39_0 (List.getD (g37_0 x (ByteArray.mk #[45])) 0 ByteArray.empty) = y
  generalize g39_0 (List.getD (g37_0 x (ByteArray.mk #[45])) 1 ByteArray.empty) = m
  generalize g39_0 (List.getD (g37_0 x (ByteArray.mk #[45])) 2 ByteArray.empty) = d
  refine ⟨by omega, by omega, by omega, ?_, ifT3 fun h1 => ?_⟩
  · unfold P38
    refine ifT3 fun a1 => ifT3 fun a2 => ?_
    have a1' := win.1 (show g30_0 y 2000 2099 = true by simpa using a1)
    have a2' := win.1 (show g30_0 m 1 12 = true by simpa using a2)
    obtain ⟨l0, l1, l2⟩ := len54 a1' (m := m)
    refine ⟨l0, ifT3 fun a3 => ?_⟩
    have a3' := win.1 (show g30_0 d 1 (g53_0 y m) = true by simpa using a3)
    exact ⟨⟨a1', a2', by omega⟩, trivial⟩
  · have hD : Dat y m d := idat (by simpa using h1)
    rw [(inum hD).1]
    exact ⟨text_pre hD, trivial⟩

end Go.Proofs.YtbkkdnkbgnhodaaGreatDoor

/- A law that says how functions of the program and of the specification hang together. -/
set_option linter.unusedVariables false
set_option linter.unusedSimpArgs false
set_option maxRecDepth 100000
namespace Go.Proofs.YtbkkdnkbgnhodaaGreatDoor
open Go Go.Am Go.Proofs

theorem bas_first : bas 2000 = 0 := by decide

theorem date_fwd {day : Int} (h : 0 ≤ day ∧ day ≤ 36524) : ∃ y m d : Int, Dat y m d ∧ g54_0 y m d = day := by
  have hy : ∀ k : Nat, day < bas (2000 + (k : Int)) → ∃ y : Int, (2000 ≤ y ∧ y < 2000 + (k : Int)) ∧ bas y ≤ day ∧ day < bas (y + 1) := by
    intro k
    induction k with
    | zero => intro hk; have : bas (2000 + ((0 : Nat) : Int)) = 0 := bas_first; omega
    | succ k ih =>
      intro hk
      by_cases hc : day < bas (2000 + (k : Int))
      · obtain ⟨y, h1, h2⟩ := ih hc
        exact ⟨y, by omega, h2⟩
      · exact ⟨2000 + (k : Int), by omega, by omega, by rw [Int.add_assoc]; simpa using hk⟩
  obtain ⟨y, hy1, hy2, hy3⟩ := hy 100 (by have : bas (2000 + ((100 : Nat) : Int)) = 36525 := by decide
                                          omega)
  have hyr : 2000 ≤ y ∧ y ≤ 2099 := by omega
  have hm : ∀ k : Nat, day < bas y + ms54 y k → ∃ j : Nat, j < k ∧ bas y + ms54 y j ≤ day ∧ day < bas y + ms54 y (j + 1) := by
    intro k
    induction k with
    | zero => intro hk; simp only [ms54] at hk; omega
    | succ k ih =>
      intro hk
      by_cases hc : day < bas y + ms54 y k
      · obtain ⟨j, h1, h2⟩ := ih hc
        exact ⟨j, by omega, h2⟩
      · exact ⟨k, by omega, by omega, hk⟩
  obtain ⟨j, hj, hj1, hj2⟩ := hm 12 (by rw [ms_year hyr]; exact hy3)
  simp only [ms54] at hj2
  refine ⟨y, (j : Int) + 1, day - (bas y + ms54 y j) + 1, ⟨hyr, by omega, by omega, by omega⟩, ?_⟩
  rw [day_at hyr.1]
  have e : ((j : Int) + 1 - 1).toNat = j := by omega
  rw [e]; omega

end Go.Proofs.YtbkkdnkbgnhodaaGreatDoor

/- A law that says how functions of the program and of the specification hang together. -/
set_option linter.unusedVariables false
set_option linter.unusedSimpArgs false
set_option maxRecDepth 100000
namespace Go.Proofs.YtbkkdnkbgnhodaaGreatDoor
open Go Go.Am Go.Proofs

theorem dval_lt : ∀ (l : List UInt8) (m : Nat), (∀ b ∈ l, isD b) → dval l m < (m + 1) * 10 ^ l.length
  | [], m, _ => by simp [dval]
  | b :: r, m, hd => by
    have hb : isD b := hd b (List.mem_cons_self ..)
    unfold isD at hb
    have ih := dval_lt r (10 * m + (b.toNat - 48)) (fun c hc => hd c (List.mem_cons_of_mem _ hc))
    show dval r (10 * m + (b.toNat - 48)) < _
    rw [List.length_cons, Nat.pow_succ]
    have h1 : (10 * m + (b.toNat - 48) + 1) * 10 ^ r.length ≤ (10 * (m + 1)) * 10 ^ r.length := Nat.mul_le_mul_right _ (by omega)
    have h2 : (10 * (m + 1)) * 10 ^ r.length = (m + 1) * (10 ^ r.length * 10) := by
      rw [Nat.mul_comm 10 (m + 1), Nat.mul_assoc, Nat.mul_comm 10]
    omega

theorem dval_le : ∀ (l : List UInt8) (m : Nat), m ≤ dval l m
  | [], m => Nat.le_refl _
  | b :: r, m => by
    have := dval_le r (10 * m + (b.toNat - 48))
    show m ≤ dval r (10 * m + (b.toNat - 48))
    omega

def N18 (n : Int) : Prop := -1000000000000000000 < n ∧ n < 1000000000000000000

theorem n18_len {n : Nat} : (Lib.decDigits n).length ≤ 18 ↔ n < 1000000000000000000 := by
  constructor
  · intro h
    obtain ⟨d1, d2, _⟩ := dec_facts n
    have := dval_lt (Lib.decDigits n) 0 d1
    rw [d2] at this
    have hp : 10 ^ (Lib.decDigits n).length ≤ 10 ^ 18 := Nat.pow_le_pow_right (by decide) h
    have e : (10 : Nat) ^ 18 = 1000000000000000000 := by decide
    rw [e] at hp
    omega
  · intro h
    exact dec_len 17 n (by omega)

theorem numB_neg {n : Int} (h : n < 0) : numB n = ⟨⟨45 :: Lib.decDigits n.natAbs⟩⟩ := by unfold numB Lib.itoa; rw [if_pos h]
theorem numB_pos {n : Int} (h : ¬ n < 0) : numB n = ⟨⟨Lib.decDigits n.toNat⟩⟩ := by unfold numB Lib.itoa; rw [if_neg h]

theorem dec_head {n : Nat} : ∃ b r, Lib.decDigits n = b :: r ∧ isD b ∧ (b.toNat = 48 → r = []) := by
  obtain ⟨d1, d2, d3, d4⟩ := dec_facts n
  have hz : Lib.decDigits 0 = [48] := by rw [Lib.decDigits, dif_pos (by decide)]; rfl
  cases hd : Lib.decDigits n with
  | nil => rw [hd] at d3; simp at d3
  | cons b r =>
    refine ⟨b, r, rfl, ?_, fun h48 => ?_⟩
    · rw [hd] at d1; exact d1 b (List.mem_cons_self ..)
    · rcases Nat.eq_zero_or_pos n with rfl | hn
      · rw [hz] at hd; cases hd; rfl
      · have := d4 hn
        rw [hd] at this
        exact absurd h48 this

theorem uint_dval : ∀ (l : List UInt8) (m : Nat), (∀ b ∈ l, isD b) → dval l m < 1000000000000000000 → Lib.parseUintM 18446744073709551615 m l = .ok (dval l m)
  | [], _, _, _ => rfl
  | b :: r, m, hd, h => by
    have hb : isD b := hd b (List.mem_cons_self ..)
    unfold isD at hb
    have hle := dval_le r (10 * m + (b.toNat - 48))
    have h' : dval r (10 * m + (b.toNat - 48)) < 1000000000000000000 := h
    unfold Lib.parseUintM
    rw [if_pos hb, if_neg (by omega), if_neg (by omega), Nat.mul_comm m 10]
    exact uint_dval r _ (fun c hc => hd c (List.mem_cons_of_mem _ hc)) h'

theorem uint_dec {n : Nat} (h : n < 1000000000000000000) : Lib.parseUintB 64 (Lib.decDigits n) = .ok n := by
  obtain ⟨d1, d2, d3, _⟩ := dec_facts n
  unfold Lib.parseUintB
  rw [if_neg (fun e => by rw [e] at d3; simp at d3)]
  have e : (2 : Nat) ^ 64 - 1 = 18446744073709551615 := by decide
  have := uint_dval (Lib.decDigits n) 0 d1 (by rw [d2]; exact h)
  rw [d2] at this
  rw [e]; exact this

theorem parse_dec {n : Int} (h : N18 n) : Lib.parseIntB 64 (numB n).data.toList = .ok n := by
  obtain ⟨h1, h2⟩ := h
  have e63 : (2 : Nat) ^ (64 - 1) = 9223372036854775808 := by decide
  by_cases hn : n < 0
  · rw [numB_neg hn]
    show Lib.parseIntB 64 (45 :: Lib.decDigits n.natAbs) = _
    rw [Lib.parseIntB_minus, uint_dec (by omega), e63]
    unfold Lib.signedC
    simp only
    rw [if_neg (by omega)]
    congr 1
    omega
  · rw [numB_pos hn]
    show Lib.parseIntB 64 (Lib.decDigits n.toNat) = _
    have hu := uint_dec (n := n.toNat) (by omega)
    obtain ⟨b, r, hd, hb, _⟩ := dec_head (n := n.toNat)
    unfold isD at hb
    rw [hd] at hu ⊢
    rw [Lib.parseIntB_plain _ _ _ (by omega) (by omega), hu, e63]
    unfold Lib.signlessC
    simp only
    rw [if_neg (by omega)]
    congr 1
    omega

theorem trim_dec {n : Int} : (g70_0 (numB n) ⟨#[45]⟩).size = (Lib.decDigits n.natAbs).length := by
  unfold g70_0
  show (Lib.trimPrefix (numB n).data.toList [45]).length = _
  unfold Lib.trimPrefix Lib.hasPrefix
  by_cases hn : n < 0
  · rw [numB_neg hn]
    rfl
  · rw [numB_pos hn]
    obtain ⟨b, r, hd, hb, _⟩ := dec_head (n := n.toNat)
    unfold isD at hb
    have hne : (45 : UInt8) ≠ b := fun e => by rw [← e] at hb; exact absurd hb (by decide)
    have e : n.natAbs = n.toNat := by omega
    rw [e, hd]
    have : ([45] : List UInt8).isPrefixOf (b :: r) = false := by simp [List.isPrefixOf, hne]
    show (if ([45] : List UInt8).isPrefixOf (b :: r) = true then _ else (b :: r)).length = _
    rw [this]
    rfl

theorem rd_i1 {n : Int} (h : N18 n) : g55_0 (numB n) = n ∧ g55_1 (numB n) = true := by
  have hl := (n18_len (n := n.natAbs)).2 (by unfold N18 at h; omega)
  have h0 := (dec_facts n.natAbs).2.2.1
  have e : rd55 (numB n) = some n := by
    unfold rd55 long55
    rw [trim_dec, if_neg (by rw [Bool.or_eq_true, decide_eq_true_eq, decide_eq_true_eq]; omega), parse_dec h]
    simp
  unfold g55_0 g55_1
  rw [e]
  exact ⟨rfl, rfl⟩

theorem num_free {n : Int} {k : UInt8} (h1 : ¬ isD k) (h2 : k ≠ 45) : k ∉ (numB n).data.toList := by
  intro hm
  by_cases hn : n < 0
  · rw [numB_neg hn] at hm
    rcases List.mem_cons.1 hm with h | h
    · exact h2 h
    · exact h1 ((dec_facts _).1 _ h)
  · rw [numB_pos hn] at hm
    exact h1 ((dec_facts _).1 _ hm)

end Go.Proofs.YtbkkdnkbgnhodaaGreatDoor

/- A law that says how functions of the program and of the specification hang together. -/
set_option linter.unusedVariables false
set_option linter.unusedSimpArgs false
set_option maxRecDepth 100000
namespace Go.Proofs.YtbkkdnkbgnhodaaGreatDoor
open Go Go.Am Go.Proofs

theorem app_list (a b : ByteArray) : (a ++ b).data.toList = a.data.toList ++ b.data.toList := by
  rw [ByteArray.data_append, Array.toList_append]

theorem split_of_two {k : UInt8} {a b : List UInt8} (ha : k ∉ a) (hb : k ∉ b) : splitC k (a ++ k :: b) = [a, b] := by
  rw [splitC_hit k _ ha, splitC_free k hb]

end Go.Proofs.YtbkkdnkbgnhodaaGreatDoor

/- A law that says how functions of the program and of the specification hang together. -/
set_option linter.unusedVariables false
set_option linter.unusedSimpArgs false
set_option maxRecDepth 100000
namespace Go.Proofs.YtbkkdnkbgnhodaaGreatDoor
open Go Go.Am Go.Proofs

def V12 (n : Int) : Prop := -1000000000000 ≤ n ∧ n ≤ 1000000000000
theorem v18 {n : Int} (h : V12 n) : N18 n := by unfold V12 at h; exact ⟨by omega, by omega⟩
theorem in12 {n : Int} : g80_0 n (-1000000000000) 1000000000000 = true ↔ V12 n := by
  unfold g80_0 V12
  by_cases c1 : n ≥ -1000000000000
  · have c1' : -1000000000000 ≤ n := c1
    by_cases c2 : n ≤ 1000000000000 <;> simp [c1, c2]
  · have c1' : ¬ -1000000000000 ≤ n := c1
    simp [c1, c1']
theorem val12 {n : Int} : g46_0 n = true ↔ V12 n := in12

theorem list_bad (l : List Int) : g44c45_0 l = l.any fun n => !g46_0 n := any58c45 l

theorem list_text {l : List Int} (h0 : l ≠ []) (h1 : l.length ≤ 64) (h2 : ∀ n ∈ l, V12 n) : g27_0 l = g47_0 (l.map numB) (ByteArray.mk #[44]) := by
  have e : (l.map g42_0) = l.map numB := rfl
  unfold g27_0
  rw [if_neg (by omega), e, if_neg, if_neg (fun h => h0 (List.eq_nil_of_length_eq_zero h))]
  rw [list_bad]
  intro h
  obtain ⟨n, hn, hb⟩ := List.any_eq_true.1 h
  rw [val12.2 (h2 n hn)] at hb
  cases hb

theorem join_list (l : List ByteArray) : (g47_0 l (ByteArray.mk #[44])).data.toList = [44].intercalate (l.map fun x => x.data.toList) := rfl

theorem split44 (x : ByteArray) : g37_0 x (ByteArray.mk #[44]) = bss (splitC 44 x.data.toList) := splitB_one 44 x

end Go.Proofs.YtbkkdnkbgnhodaaGreatDoor

/- A law that says how functions of the program and of the specification hang together. -/
set_option linter.unusedVariables false
set_option linter.unusedSimpArgs false
set_option maxRecDepth 100000
namespace Go.Proofs.YtbkkdnkbgnhodaaGreatDoor
open Go Go.Am Go.Proofs

end Go.Proofs.YtbkkdnkbgnhodaaGreatDoor

/- A law that says how functions of the program and of the specification hang together. -/
set_option linter.unusedVariables false
set_option linter.unusedSimpArgs false
set_option maxRecDepth 100000
namespace Go.Proofs.YtbkkdnkbgnhodaaGreatDoor
open Go Go.Am Go.Proofs

theorem wnT {x a b : Int} : g30_0 x a b = true ↔ a ≤ x ∧ x ≤ b := by
  unfold g30_0
  by_cases h : x ≥ a
  · rw [if_pos (decide_eq_true h), decide_eq_true_eq]; omega
  · rw [if_neg (by simp only [decide_eq_true_eq]; exact h)]
    constructor
    · intro hh; cases hh
    · intro hh; omega

theorem test_in {x : Int × Int × Int × Unit} (h : g21_0 x = true) : (0 ≤ x.1 ∧ x.1 ≤ 36524) ∧ (0 ≤ x.2.1 ∧ x.2.1 ≤ 24000) ∧ (0 ≤ x.2.2.1 ∧ x.2.2.1 ≤ 1000) := by
  unfold g21_0 at h
  split at h
  · rename_i h0
    split at h
    · rename_i h1
      exact ⟨wnT.1 h0, wnT.1 h1, wnT.1 h⟩
    · cases h
  · cases h

theorem day_textI {n : Int} (h : 0 ≤ n ∧ n ≤ 36524) : ∃ a b c : Nat, g26_0 n = dT a b c ∧ P26 n ∧ P24 (dT a b c) ∧ g24_0 (dT a b c) = n ∧ g24_1 (dT a b c) = true ∧ (32 : UInt8) ∉ (dT a b c).data.toList := by
  obtain ⟨y, m, d, hd, e⟩ := date_fwd h
  have hp := text_pre hd
  obtain ⟨⟨y1, y2⟩, ⟨m1, m2⟩, d1, d2⟩ := id hd
  obtain ⟨a, rfl⟩ := Int.eq_ofNat_of_zero_le (show 0 ≤ y by omega)
  obtain ⟨b, rfl⟩ := Int.eq_ofNat_of_zero_le (show 0 ≤ m by omega)
  obtain ⟨c, rfl⟩ := Int.eq_ofNat_of_zero_le (show 0 ≤ d by omega)
  have hc : g53_0 (a : Int) (b : Int) ≤ 31 := by
    unfold g53_0
    repeat' split
    all_goals decide
  have ht := date_text hd (by omega) (by omega) (by omega)
  obtain ⟨r0, r1⟩ := date_i1 hd (by omega) (by omega) (by omega)
  rw [e] at hp ht r0
  refine ⟨a, b, c, ht, hp, date_ip _ (by show (10 : Nat) ≤ 1048576; decide), r0, r1, ?_⟩
  have hD : ∀ n, n < 10 → (32 : UInt8) ≠ D10 n := fun n hn e => by
    have := congrArg UInt8.toNat e
    rw [D10_nat hn] at this
    have e32 : (32 : UInt8).toNat = 32 := rfl
    omega
  show (32 : UInt8) ∉ [50, 48, D10 (a % 100 / 10), D10 (a % 10)] ++ 45 :: ([D10 (b / 10), D10 (b % 10)] ++ 45 :: [D10 (c / 10), D10 (c % 10)])
  simp only [List.mem_cons, List.mem_append, List.mem_nil_iff, or_false, not_or]
  exact ⟨⟨by decide, by decide, hD _ (by omega), hD _ (by omega)⟩, by decide, ⟨hD _ (by omega), hD _ (by omega)⟩, by decide, hD _ (by omega), hD _ (by omega)⟩

theorem pair_back {a b : Int} (ha : V12 a) (hb : V12 b) : g40_0 (g27_0 [a, b]) = [a, b] ∧ (g27_0 [a, b]).size ≤ 100 := by
  have ht := list_text (l := [a, b]) (by simp) (by simp) (fun n hn => by
    simp only [List.mem_cons, List.mem_nil_iff, or_false] at hn
    rcases hn with rfl | rfl
    · exact ha
    · exact hb)
  obtain ⟨t, et⟩ : ∃ t, g27_0 [a, b] = t := ⟨_, rfl⟩
  rw [et] at ht ⊢
  have hb1 : t.data.toList = (numB a).data.toList ++ 44 :: (numB b).data.toList := by
    rw [ht, join_list]
    simp [List.intercalate]
  have f1 : (44 : UInt8) ∉ (numB a).data.toList := num_free (by unfold isD; decide) (by decide)
  have f2 : (44 : UInt8) ∉ (numB b).data.toList := num_free (by unfold isD; decide) (by decide)
  have hw : ws40 t = [numB a, numB b] := by
    unfold ws40
    rw [split44, hb1, split_of_two f1 f2]
    rfl
  have hn : nums40 t = [a, b] := by
    unfold nums40
    rw [hw, List.map_cons, List.map_cons, List.map_nil, (rd_i1 (v18 ha)).1, (rd_i1 (v18 hb)).1]
  have hsz : t.size = (numB a).size + 1 + (numB b).size := by
    show t.data.size = _
    rw [← Array.length_toList, hb1, List.length_append, List.length_cons]
    show (numB a).size + ((numB b).size + 1) = _
    omega
  have z1 := numB_size a (by unfold V12 at ha; omega) (by unfold V12 at ha; omega)
  have z2 := numB_size b (by unfold V12 at hb; omega) (by unfold V12 at hb; omega)
  refine ⟨?_, by omega⟩
  unfold g40_0 all40
  have hne : t ≠ ByteArray.mk #[45] := fun e => by
    have hm : (44 : UInt8) ∈ t.data.toList := by rw [hb1]; simp
    rw [e] at hm
    exact absurd hm (by decide)
  rw [if_neg hne, hn, if_pos et]
  rfl

theorem test_back {x : Int × Int × Int × Unit} (h : g21_0 x = true) : P8 x ∧ P7 (g8_0 x) ∧ g7_1 (g8_0 x) = true ∧ g7_0 (g8_0 x) = x := by
  obtain ⟨h1, h2, h3⟩ := test_in h
  obtain ⟨n, a, b, _⟩ := x
  simp only at h1 h2 h3
  obtain ⟨p, q, r, ed, pd, pr, r0, r1, hf⟩ := day_textI h1
  obtain ⟨l0, lz⟩ := pair_back (a := a) (b := b) ⟨by omega, by omega⟩ ⟨by omega, by omega⟩
  obtain ⟨l, el⟩ : ∃ l, g27_0 [a, b] = l := ⟨_, rfl⟩
  rw [el] at l0 lz
  obtain ⟨t, et⟩ : ∃ t, g8_0 (n, a, b, ()) = t := ⟨_, rfl⟩
  have hv : t = dT p q r ++ ByteArray.mk #[32] ++ l := by
    rw [← et]
    unfold g8_0
    rw [if_neg (by rw [h]; simp)]
    simp only [ed, el]
  have hbt : t.data.toList = (dT p q r).data.toList ++ 32 :: l.data.toList := by
    rw [hv]; simp only [app_list, List.append_assoc]; rfl
  have hs10 : (dT p q r).size = 10 := rfl
  have hs1 : (ByteArray.mk #[32]).size = 1 := rfl
  have hts : t.size ≤ 200 := by rw [hv, ByteArray.size_append, ByteArray.size_append]; omega
  have hc : Lib.cut t.data.toList (ByteArray.mk #[32]).data.toList = ((dT p q r).data.toList, l.data.toList, true) := by rw [hbt]; exact cut_hit 32 _ hf
  have c0 : g23_0 t (ByteArray.mk #[32]) = dT p q r := by unfold g23_0; rw [hc]
  have c1 : g23_1 t (ByteArray.mk #[32]) = l := by unfold g23_1; rw [hc]
  have e1 : g25_1 l 2 = true := by unfold g25_1; rw [l0]; rfl
  have e0 : g25_0 l 2 = [a, b] := l0
  have pT : P8 (n, a, b, ()) := by
    unfold P8
    rw [if_neg (by rw [h]; simp)]
    simp only [ed, el, ByteArray.size_append]
    exact ⟨pd, by omega, by omega, trivial⟩
  have g0 : List.getD [a, b] 0 0 = a := rfl
  have g1 : List.getD [a, b] 1 0 = b := rfl
  rw [et]
  refine ⟨pT, ?_, ?_, ?_⟩
  · unfold P7
    rw [c0, c1, r0, r1, e1, e0, g0, g1, if_neg (by decide), if_neg (by decide)]
    exact ⟨(show t.size < 4294967281 by omega), pr, ⟨(show l.size ≤ 1048576 by omega), trivial⟩, (by show (0 : Int) < 2; decide), (by show (1 : Int) < 2; decide), pT, trivial⟩
  · unfold g7_1
    rw [c0, c1, r0, r1, e1, e0, g0, g1, et, if_neg (by decide), if_neg (by decide), if_neg (by rw [beq_self_eq_true]; decide)]
  · unfold g7_0
    rw [c0, c1, r0, r1, e1, e0, g0, g1, et, if_neg (by decide), if_neg (by decide), if_neg (by rw [beq_self_eq_true]; decide)]

end Go.Proofs.YtbkkdnkbgnhodaaGreatDoor

/- A law that says how functions of the program and of the specification hang together. -/
set_option linter.unusedVariables false
set_option linter.unusedSimpArgs false
set_option maxRecDepth 100000
namespace Go.Proofs.YtbkkdnkbgnhodaaGreatDoor
open Go Go.Am Go.Proofs

end Go.Proofs.YtbkkdnkbgnhodaaGreatDoor

/- A law that says how functions of the program and of the specification hang together. -/
set_option linter.unusedVariables false
set_option linter.unusedSimpArgs false
set_option maxRecDepth 100000
namespace Go.Proofs.YtbkkdnkbgnhodaaGreatDoor
open Go Go.Am Go.Proofs

theorem one_Test (x : Int × Int × Int × Unit) : g21_0 x = g62_0 x := by
  unfold g21_0 g62_0
  rfl

theorem order_Test (xs : List (Int × Int × Int × Unit)) : g22_0 xs = g48_0 xs := by
  unfold g22_0 g48_0
  refine allI_congr xs 0 fun j y _ => ?_
  unfold ok22 ok48
  rw [one_Test]
  rfl

theorem list_Test (xs : List (Int × Int × Int × Unit)) : g20_0 xs = g28_0 xs := by
  unfold g20_0 g28_0
  rw [order_Test]
  cases g48_0 xs <;> cases decide ((xs.length : Int) ≤ 24) <;> rfl

end Go.Proofs.YtbkkdnkbgnhodaaGreatDoor

/- A law that says how functions of the program and of the specification hang together. -/
set_option linter.unusedVariables false
set_option linter.unusedSimpArgs false
set_option maxRecDepth 100000
namespace Go.Proofs.YtbkkdnkbgnhodaaGreatDoor
open Go Go.Am Go.Proofs

abbrev TST := Int × Int × Int × Unit
abbrev TSD : TST := ((0 : Int), (0 : Int), (0 : Int), ())

theorem are_get {p : Nat → TST → Bool} : ∀ (l : List TST) (k : Nat), allI p k l = true → ∀ i, i < l.length → p (k + i) (l.getD i TSD) = true
  | [], k, _, i, hi => by simp at hi
  | x :: r, k, h, i, hi => by
    rw [allI, Bool.and_eq_true] at h
    cases i with
    | zero => exact h.1
    | succ i =>
      have := are_get r (k + 1) h.2 i (by simpa using hi)
      rw [List.getD_cons_succ, show k + (i + 1) = k + 1 + i by omega]
      exact this

theorem tests_in {xs : List TST} (h : g20_0 xs = true) : xs.length ≤ 24 ∧ g22_0 xs = true := by
  unfold g20_0 at h
  split at h
  case isFalse => cases h
  rename_i h1
  exact ⟨by have := of_decide_eq_true h; omega, h1⟩

theorem tests_at {xs : List TST} (h : g22_0 xs = true) : (∀ i, i < xs.length → g21_0 (xs.getD i TSD) = true) ∧ ∀ i, i + 1 < xs.length → (xs.getD i TSD).1 < (xs.getD (i + 1) TSD).1 ∧ (xs.getD i TSD).2.1 ≤ (xs.getD (i + 1) TSD).2.1 := by
  have hk := are_get xs 0 h
  refine ⟨fun i hi => ?_, fun i hi => ?_⟩
  · have := hk i hi
    unfold ok22 at this
    rw [Bool.and_eq_true] at this
    exact this.1
  · have := hk (i + 1) hi
    unfold ok22 at this
    rw [Bool.and_eq_true] at this
    have h2 := this.2
    rw [Nat.zero_add, show (i + 1 == 0) = false from rfl, Bool.false_or, Nat.add_sub_cancel] at h2
    unfold ord22 at h2
    simp only [Bool.and_eq_true, decide_eq_true_eq] at h2
    exact ⟨h2.1.1, h2.1.2⟩

theorem tests_far {xs : List TST} (h : ∀ i, i + 1 < xs.length → (xs.getD i TSD).1 < (xs.getD (i + 1) TSD).1 ∧ (xs.getD i TSD).2.1 ≤ (xs.getD (i + 1) TSD).2.1) : ∀ n, n + 1 < xs.length → (xs.getD 0 TSD).1 < (xs.getD (n + 1) TSD).1 ∧ (xs.getD 0 TSD).2.1 ≤ (xs.getD (n + 1) TSD).2.1
  | 0, hn => h 0 hn
  | n + 1, hn => by
    have h1 := tests_far h n (by omega)
    have h2 := h (n + 1) hn
    exact ⟨by omega, by omega⟩

theorem near_pos {a b : Int} (ha : 0 ≤ a ∧ a ≤ 24000000) (hb : 1 ≤ b ∧ b ≤ 36524) : P32 a b ∧ 0 ≤ g32_0 a b ∧ g32_0 a b ≤ 30000000 := by
  have t1 : Int.tdiv a b = a / b := Int.tdiv_eq_ediv_of_nonneg ha.1
  have t2 : Int.tmod a b = a % b := Int.tmod_eq_emod_of_nonneg ha.1
  have d1 : 0 ≤ a / b := Int.ediv_nonneg ha.1 (by omega)
  have d2 : a / b ≤ a := Int.ediv_le_self _ ha.1
  have m1 : 0 ≤ a % b := Int.emod_nonneg _ (by omega)
  have m2 : a % b < b := Int.emod_lt_of_pos _ (by omega)
  have a1 : g50_0 b = b := by
    unfold g50_0
    rw [if_neg (by simp only [decide_eq_true_eq]; omega)]
  have a2 : g50_0 (a % b) = a % b := by
    unfold g50_0
    rw [if_neg (by simp only [decide_eq_true_eq]; omega)]
  have p1 : P50 b := by
    unfold P50
    rw [if_neg (by simp only [decide_eq_true_eq]; omega)]
    trivial
  have p2 : P50 (a % b) := by
    unfold P50
    rw [if_neg (by simp only [decide_eq_true_eq]; omega)]
    trivial
  have c0 : decide (a < 0) = false := decide_eq_false (by omega)
  have c1 : decide (b < 0) = false := decide_eq_false (by omega)
  unfold P32 g32_0
  rw [t1, t2, a1, a2, c0, c1]
  generalize a / b = q at *
  generalize a % b = m at *
  have hn : ¬ (!(false == false)) = true := by decide
  have i1 : InR .i64 q := by rw [i64_iff]; omega
  have i2 : InR .i64 m := by rw [i64_iff]; omega
  have i3 : InR .i64 (b - m) := by rw [i64_iff]; omega
  have i4 : InR .i64 (q + 1) := by rw [i64_iff]; omega
  by_cases hc : m ≥ b - m
  · rw [if_pos (decide_eq_true hc), if_pos (decide_eq_true hc), if_neg hn, if_neg hn]
    exact ⟨⟨by omega, i1, by omega, i2, p2, p1, i3, i4, trivial⟩, by omega, by omega⟩
  · rw [if_neg (by simp only [decide_eq_true_eq]; exact hc), if_neg (by simp only [decide_eq_true_eq]; exact hc)]
    exact ⟨⟨by omega, i1, by omega, i2, p2, p1, i3, trivial⟩, by omega, by omega⟩

theorem growth_law (xs : List TST) : P13 xs ∧ (g20_0 xs = true → (g13_1 xs = 0 ↔ 2 ≤ xs.length)) ∧ (0 ≤ g13_0 xs ∧ g13_0 xs ≤ 30000000) ∧ (g20_0 xs = true → 1 ≤ xs.length → Bd12 xs) := by
  by_cases hv : g20_0 xs = true
  · obtain ⟨hl, ha⟩ := tests_in hv
    obtain ⟨h1, h2⟩ := tests_at ha
    have hlt : ∀ i, i < xs.length → (0 ≤ (xs.getD i TSD).1 ∧ (xs.getD i TSD).1 ≤ 36524) ∧ (0 ≤ (xs.getD i TSD).2.1 ∧ (xs.getD i TSD).2.1 ≤ 24000) := fun i hi => ⟨(test_in (h1 i hi)).1, (test_in (h1 i hi)).2.1⟩
    have big : 2 ≤ xs.length → P32 (up13 xs) (lo13 xs) ∧ 0 ≤ g32_0 (up13 xs) (lo13 xs) ∧ g32_0 (up13 xs) (lo13 xs) ≤ 30000000 := fun h => by
      have hf := tests_far h2 (xs.length - 2) (by omega)
      rw [show xs.length - 2 + 1 = xs.length - 1 by omega] at hf
      have b0 := hlt 0 (by omega)
      have b1 := hlt (xs.length - 1) (by omega)
      refine near_pos ?_ ?_
      · show 0 ≤ 1000 * ((xs.getD (xs.length - 1) TSD).2.1 - (xs.getD 0 TSD).2.1) ∧ 1000 * ((xs.getD (xs.length - 1) TSD).2.1 - (xs.getD 0 TSD).2.1) ≤ 24000000
        omega
      · show 1 ≤ (xs.getD (xs.length - 1) TSD).1 - (xs.getD 0 TSD).1 ∧ (xs.getD (xs.length - 1) TSD).1 - (xs.getD 0 TSD).1 ≤ 36524
        omega
    have hg : 0 ≤ g13_0 xs ∧ g13_0 xs ≤ 30000000 := by
      unfold g13_0
      rw [if_pos hv]
      split
      · omega
      · exact (big (by omega)).2
    refine ⟨fun _ h => ⟨hl, (big h).1, ?_, ?_⟩, fun _ => ?_, hg, fun _ h => ?_⟩
    · have := (big h).2
      rw [i64_iff]; omega
    · have b0 := hlt 0 (by omega)
      have b1 := hlt (xs.length - 1) (by omega)
      have le : ∀ {a : Int}, a ≤ 36524 → a ≤ 100000 := fun h => by omega
      have le2 : ∀ {a : Int}, a ≤ 24000 → a ≤ 100000 := fun h => by omega
      exact ⟨b1.1.1, le b1.1.2, b0.1.1, le b0.1.2, b1.2.1, le2 b1.2.2, b0.2.1, le2 b0.2.2⟩
    · unfold g13_1
      rw [if_pos hv]
      constructor
      · intro h
        by_cases h3 : xs.length < 2
        · rw [if_pos h3] at h; exact absurd h (by decide)
        · omega
      · intro h
        rw [if_neg (by omega)]
    · have b1 := hlt (xs.length - 1) (by omega)
      have e : Int.toNat ((xs.length : Int) - 1) = xs.length - 1 := by omega
      unfold Bd12 lt12
      rw [e]
      exact ⟨h, hl, b1.1, b1.2, hg⟩
  · refine ⟨fun h => absurd h hv, fun h => absurd h hv, ?_, fun h => absurd h hv⟩
    unfold g13_0
    rw [if_neg hv]
    decide

theorem fnd_law (xs : List TST) (v : Int) : ∀ (k : Nat) (d : Int), (fnd12 xs v k d = -1) ∨ (d ≤ fnd12 xs v k d ∧ fnd12 xs v k d < d + k ∧ wires12 xs (fnd12 xs v k d) ≥ v ∧ ∀ e, d ≤ e → e < fnd12 xs v k d → wires12 xs e < v)
  | 0, d => .inl rfl
  | k + 1, d => by
    have ef : fnd12 xs v (k + 1) d = if wires12 xs d ≥ v then d else fnd12 xs v k (d + 1) := rfl
    by_cases h : wires12 xs d ≥ v
    · rw [if_pos h] at ef
      rw [ef]
      exact .inr ⟨Int.le_refl _, by omega, h, fun e h1 h2 => by omega⟩
    · rw [if_neg h] at ef
      rw [ef]
      rcases fnd_law xs v k (d + 1) with h1 | ⟨h1, h2, h3, h4⟩
      · exact .inl h1
      · refine .inr ⟨by omega, by omega, h3, fun e e1 e2 => ?_⟩
        by_cases he : e = d
        · subst he; omega
        · exact h4 e (by omega) e2

theorem limit_law (xs : List TST) (v : Int) : P12 xs v ∧ (g12_1 xs v = 0 → Bd12 xs ∧ (lt12 xs).1 ≤ g12_0 xs v ∧ g12_0 xs v ≤ 36524 ∧ wires12 xs (g12_0 xs v) ≥ v ∧ ∀ e, (lt12 xs).1 ≤ e → e < g12_0 xs v → wires12 xs e < v) := by
  obtain ⟨p, h1, h2, h3⟩ := growth_law xs
  have hB : g20_0 xs = true → g13_1 xs = 0 → Bd12 xs := fun hv hg => h3 hv (by have := (h1 hv).1 hg; omega)
  refine ⟨⟨p, hB⟩, fun h => ?_⟩
  unfold g12_1 at h
  unfold g12_0
  split at h
  case isFalse => exact absurd h (by decide)
  rename_i hv
  rw [if_pos hv]
  split at h
  case isFalse => exact absurd h (by decide)
  rename_i hw
  rw [if_pos hw]
  split at h
  case isFalse => rename_i hg; exact absurd h hg
  rename_i hg
  rw [if_pos hg]
  split at h
  case isTrue => exact absurd h (by decide)
  rename_i hd
  rw [if_neg hd]
  have hb := hB hv hg
  have hb' := hb
  obtain ⟨_, _, ⟨l1, l2⟩, _, _⟩ := hb'
  refine ⟨hb, ?_⟩
  rcases fnd_law xs v (36525 - (lt12 xs).1).toNat (lt12 xs).1 with e | ⟨e1, e2, e3, e4⟩
  · exfalso
    apply hd
    show fnd12 xs v (36525 - (lt12 xs).1).toNat (lt12 xs).1 < 0
    omega
  · exact ⟨e1, by show fnd12 xs v (36525 - (lt12 xs).1).toNat (lt12 xs).1 ≤ 36524; omega, e3, e4⟩

theorem add_law (xs : List TST) (x : TST) (h : g6_1 xs x = 0) : g6_0 xs x = xs ++ [x] ∧ g21_0 x = true ∧ g9_0 (xs ++ [x]) = true ∧ xs.length < 24 := by
  unfold g6_1 at h
  unfold g6_0
  split at h
  · exact absurd h (by decide)
  · rename_i h1
    rw [if_neg h1]
    split at h
    · exact absurd h (by decide)
    · rename_i h2
      rw [if_neg h2]
      split at h
      · exact absurd h (by decide)
      · rename_i h3
        rw [if_neg h3]
        split at h
        · exact absurd h (by decide)
        · rename_i h4
          rw [if_neg h4]
          simp only [decide_eq_true_eq] at h4
          have h3 : g22_0 (xs ++ [x]) = true := by
            have h3' : ¬ (!g22_0 (xs ++ [x])) = true := h3
            simpa using h3'
          refine ⟨rfl, by simpa using h2, ?_, by omega⟩
          show g28_0 (xs ++ [x]) = true
          rw [← list_Test]
          unfold g20_0
          rw [if_pos h3, decide_eq_true_eq, List.length_append, List.length_singleton]
          omega
theorem add_none (xs : List TST) (x : TST) (h : g6_1 xs x ≠ 0) : g6_0 xs x = [] := by
  unfold g6_1 at h
  unfold g6_0
  split at h
  · rename_i h1; rw [if_pos h1]
  · rename_i h1
    rw [if_neg h1]
    split at h
    · rename_i h2; rw [if_pos h2]
    · rename_i h2
      rw [if_neg h2]
      split at h
      · rename_i h3; rw [if_pos h3]
      · rename_i h3
        rw [if_neg h3]
        split at h
        · rename_i h4; rw [if_pos h4]
        · exact absurd rfl h

end Go.Proofs.YtbkkdnkbgnhodaaGreatDoor

/- A law that says how functions of the program and of the specification hang together. -/
set_option linter.unusedVariables false
set_option linter.unusedSimpArgs false
set_option maxRecDepth 100000
namespace Go.Proofs.YtbkkdnkbgnhodaaGreatDoor
open Go Go.Am Go.Proofs

theorem one_ok {n : Int} {s : List Int × Int × Int × Unit} (h : SrcOk n s) (m : Int) (hn : n ≤ 4611686018427387902) :
    P49 s m ∧ SrcOk (n + 2) (u49_0 s m) := by
  obtain ⟨p, s1, _⟩ := pick_ok h m hn
  exact ⟨⟨p, trivial⟩, s1⟩

end Go.Proofs.YtbkkdnkbgnhodaaGreatDoor

/- Function 3 (laws.FnTestDays): its runs between cut points. Written by a program of this repo (gen). -/
set_option linter.unusedVariables false
set_option linter.unusedSimpArgs false
set_option maxRecDepth 100000
namespace Go.Proofs.YtbkkdnkbgnhodaaGreatDoor
open Go Go.Am Go.Proofs
noncomputable section
def ext3 : Ext := [(4, S4), (5, S5), (6, S6), (8, S8), (7, S7), (9, S9), (10, S10), (11, S11), (12, S12), (13, S13)]
theorem call3_4 : Callable Tryz.prog 4 := ⟨Tryz.f4, Tryz.func4, by kernel_rfl, by kernel_rfl⟩
theorem call3_5 : Callable Tryz.prog 5 := ⟨Tryz.f5, Tryz.func5, by kernel_rfl, by kernel_rfl⟩
theorem call3_6 : Callable Tryz.prog 6 := ⟨Tryz.f6, Tryz.func6, by kernel_rfl, by kernel_rfl⟩
theorem call3_8 : Callable Tryz.prog 8 := ⟨Tryz.f8, Tryz.func8, by kernel_rfl, by kernel_rfl⟩
theorem call3_7 : Callable Tryz.prog 7 := ⟨Tryz.f7, Tryz.func7, by kernel_rfl, by kernel_rfl⟩
theorem call3_9 : Callable Tryz.prog 9 := ⟨Tryz.f9, Tryz.func9, by kernel_rfl, by kernel_rfl⟩
theorem call3_10 : Callable Tryz.prog 10 := ⟨Tryz.f10, Tryz.func10, by kernel_rfl, by kernel_rfl⟩
theorem call3_11 : Callable Tryz.prog 11 := ⟨Tryz.f11, Tryz.func11, by kernel_rfl, by kernel_rfl⟩
theorem call3_12 : Callable Tryz.prog 12 := ⟨Tryz.f12, Tryz.func12, by kernel_rfl, by kernel_rfl⟩
theorem call3_13 : Callable Tryz.prog 13 := ⟨Tryz.f13, Tryz.func13, by kernel_rfl, by kernel_rfl⟩
theorem ext3Ok : ExtOk Tryz.prog ext3 := ⟨⟨call3_4, con4⟩, ⟨call3_5, con5⟩, ⟨call3_6, con6⟩, ⟨call3_8, con8⟩, ⟨call3_7, con7⟩, ⟨call3_9, con9⟩, ⟨call3_10, con10⟩, ⟨call3_11, con11⟩, ⟨call3_12, con12⟩, ⟨call3_13, con13⟩, trivial⟩

noncomputable def b3 : Code := bodyOf Tryz.f3
theorem hb3 : Tryz.f3.body = some b3 := by kernel_rfl
def sig3 : List AT := [AT.v (Ty.sl (Ty.int IntKind.u8)), AT.v (Ty.sl (Ty.int IntKind.u8))]
def tys3 : List Ty := [Ty.bool]
def kds3 : List RK := []
def oks3 : List AT := owns sig3
def E3_3 (x0 : List Int) (x1 : List Int) : Env := [(0, PV.a (Atom.sl (Ty.int IntKind.u8) x0)), (1, PV.a (Atom.sl (Ty.int IntKind.u8) x1))]
def L3_3 (x0 : List Int) (x1 : List Int) : Heap := []
def E3_11 (x1 : List Int) : Env := [(1, PV.a (Atom.sl (Ty.int IntKind.u8) x1))]
def L3_11 (x1 : List Int) : Heap := []
def E3_17 (x1 : List Int) : Env := [(11, PV.a (Atom.osl 0 Option.none)), (12, PV.a (Atom.val (Value.int IntKind.i64 (g10_1 x1)))), (13, PV.a (Atom.val (Value.int IntKind.i64 (g10_2 x1)))), (14, PV.a (Atom.val (Value.int IntKind.i64 (g11_0 (g10_0 x1) (g10_1 x1) (g10_2 x1))))), (16, PV.a (Atom.val (Value.int IntKind.i64 (g12_0 (g10_0 x1) (g10_1 x1))))), (17, PV.a (Atom.val (Value.int IntKind.i64 (g12_1 (g10_0 x1) (g10_1 x1))))), (18, PV.a (Atom.val (Value.int IntKind.i64 (g13_0 (g10_0 x1))))), (19, PV.a (Atom.val (Value.int IntKind.i64 (g13_1 (g10_0 x1)))))]
def L3_17 (x1 : List Int) : Heap := [Option.some (Arr.mk (Ty.cons (Ty.int IntKind.i64) (Ty.cons (Ty.int IntKind.i64) (Ty.cons (Ty.int IntKind.i64) Ty.unit))) (g10_0 x1) Bool.false Option.none Option.none)]
def E3_19 (x1 : List Int) : Env := [(11, PV.a (Atom.osl 0 Option.none)), (12, PV.a (Atom.val (Value.int IntKind.i64 (g10_1 x1)))), (13, PV.a (Atom.val (Value.int IntKind.i64 (g10_2 x1)))), (14, PV.a (Atom.val (Value.int IntKind.i64 (g11_0 (g10_0 x1) (g10_1 x1) (g10_2 x1))))), (16, PV.a (Atom.val (Value.int IntKind.i64 (g12_0 (g10_0 x1) (g10_1 x1))))), (17, PV.a (Atom.val (Value.int IntKind.i64 (g12_1 (g10_0 x1) (g10_1 x1))))), (18, PV.a (Atom.val (Value.int IntKind.i64 (g13_0 (g10_0 x1)))))]
def L3_19 (x1 : List Int) : Heap := [Option.some (Arr.mk (Ty.cons (Ty.int IntKind.i64) (Ty.cons (Ty.int IntKind.i64) (Ty.cons (Ty.int IntKind.i64) Ty.unit))) (g10_0 x1) Bool.false Option.none Option.none)]
def E3_22 (x1 : List Int) : Env := [(12, PV.a (Atom.val (Value.int IntKind.i64 (g10_1 x1)))), (13, PV.a (Atom.val (Value.int IntKind.i64 (g10_2 x1)))), (14, PV.a (Atom.val (Value.int IntKind.i64 (g11_0 (g10_0 x1) (g10_1 x1) (g10_2 x1))))), (16, PV.a (Atom.val (Value.int IntKind.i64 (g12_0 (g10_0 x1) (g10_1 x1))))), (17, PV.a (Atom.val (Value.int IntKind.i64 (g12_1 (g10_0 x1) (g10_1 x1))))), (18, PV.a (Atom.val (Value.int IntKind.i64 (g13_0 (g10_0 x1))))), (20, PV.a (Atom.optr 0 0 []))]
def L3_22 (x1 : List Int) : Heap := [Option.some (Arr.mk (Ty.cons (Ty.int IntKind.i64) (Ty.cons (Ty.int IntKind.i64) (Ty.cons (Ty.int IntKind.i64) Ty.unit))) [List.getD (g10_0 x1) (Int.toNat ((↑(List.length (g10_0 x1)) : Int) - 1)) (0, 0, 0, ())] Bool.true Option.none (Option.some Bool.false))]
def E3_25 (x1 : List Int) : Env := [(13, PV.a (Atom.val (Value.int IntKind.i64 (g10_2 x1)))), (14, PV.a (Atom.val (Value.int IntKind.i64 (g11_0 (g10_0 x1) (g10_1 x1) (g10_2 x1))))), (17, PV.a (Atom.val (Value.int IntKind.i64 (g12_1 (g10_0 x1) (g10_1 x1))))), (20, PV.a (Atom.optr 0 0 []))]
def L3_25 (x1 : List Int) : Heap := [Option.some (Arr.mk (Ty.cons (Ty.int IntKind.i64) (Ty.cons (Ty.int IntKind.i64) (Ty.cons (Ty.int IntKind.i64) Ty.unit))) [List.getD (g10_0 x1) (Int.toNat ((↑(List.length (g10_0 x1)) : Int) - 1)) (0, 0, 0, ())] Bool.true Option.none (Option.some Bool.false))]
mutual
def R3 : Nat → List Int → List Int → List Dyn → Prop
  | 0, _, _, _ => False
  | n + 1, x0, x1, ds => (if (g4_0 x0) = true then (ds = [Dyn.mk Ty.bool Bool.true]) else (if (g4_0 x1) = true then (ds = [Dyn.mk Ty.bool Bool.true]) else (R3_3 n (x0) (x1) ds)))
def R3_3 : Nat → List Int → List Int → List Dyn → Prop
  | 0, _, _, _ => False
  | n + 1, x0, x1, ds => ((P5 x0) ∧ ((P6 (g5_0 x0) (g5_1 x0)) ∧ (if (g6_1 (g5_0 x0) (g5_1 x0) == 0) = true then ((P8 (g5_1 x0)) ∧ ((P7 (g8_0 (g5_1 x0))) ∧ (if (!g9_0 (g6_0 (g5_0 x0) (g5_1 x0))) = true then (ds = [Dyn.mk Ty.bool Bool.false]) else ((InR IntKind.i64 ((↑(List.length (g5_0 x0)) : Int) + 1)) ∧ (if ((↑(List.length (g6_0 (g5_0 x0) (g5_1 x0))) : Int) != (↑(List.length (g5_0 x0)) : Int) + 1) = true then (ds = [Dyn.mk Ty.bool Bool.false]) else ((InR IntKind.i64 ((↑(List.length (g6_0 (g5_0 x0) (g5_1 x0))) : Int) - 1)) ∧ ((0 ≤ (↑(List.length (g6_0 (g5_0 x0) (g5_1 x0))) : Int) - 1) ∧ ((↑(List.length (g6_0 (g5_0 x0) (g5_1 x0))) : Int) - 1 < (↑(List.length (g6_0 (g5_0 x0) (g5_1 x0))) : Int)) ∧ (if (!eqD (Ty.cons (Ty.int IntKind.i64) (Ty.cons (Ty.int IntKind.i64) (Ty.cons (Ty.int IntKind.i64) Ty.unit))) (List.getD (g6_0 (g5_0 x0) (g5_1 x0)) (Int.toNat ((↑(List.length (g6_0 (g5_0 x0) (g5_1 x0))) : Int) - 1)) (0, 0, 0, ())) (g5_1 x0)) = true then (ds = [Dyn.mk Ty.bool Bool.false]) else (if (!g7_1 (g8_0 (g5_1 x0))) = true then (ds = [Dyn.mk Ty.bool Bool.false]) else (if (!eqD (Ty.cons (Ty.int IntKind.i64) (Ty.cons (Ty.int IntKind.i64) (Ty.cons (Ty.int IntKind.i64) Ty.unit))) (g7_0 (g8_0 (g5_1 x0))) (g5_1 x0)) = true then (ds = [Dyn.mk Ty.bool Bool.false]) else (R3_11 n (x1) ds))))))))))) else (if ((↑(List.length (g6_0 (g5_0 x0) (g5_1 x0))) : Int) != 0) = true then (ds = [Dyn.mk Ty.bool Bool.false]) else (R3_11 n (x1) ds)))))
def R3_11 : Nat → List Int → List Dyn → Prop
  | 0, _, _ => False
  | n + 1, x1, ds => ((P10 x1) ∧ ((P11 (g10_0 x1) (g10_1 x1) (g10_2 x1)) ∧ ((P12 (g10_0 x1) (g10_1 x1)) ∧ ((P13 (g10_0 x1)) ∧ (if (g11_1 (g10_0 x1) (g10_1 x1) (g10_2 x1) != 0) = true then (ds = [Dyn.mk Ty.bool (g11_0 (g10_0 x1) (g10_1 x1) (g10_2 x1) == 0)]) else (R3_17 n (x1) ds))))))
def R3_17 : Nat → List Int → List Dyn → Prop
  | 0, _, _ => False
  | n + 1, x1, ds => (if ((↑(List.length (g10_0 x1)) : Int) == 0) = true then (ds = [Dyn.mk Ty.bool Bool.false]) else (if (!(g13_1 (g10_0 x1) == 0) == Decidable.decide ((↑(List.length (g10_0 x1)) : Int) ≥ 2)) = true then (ds = [Dyn.mk Ty.bool Bool.false]) else (if (Decidable.decide (g13_0 (g10_0 x1) < 0)) = true then (ds = [Dyn.mk Ty.bool Bool.false]) else (R3_19 n (x1) ds))))
def R3_19 : Nat → List Int → List Dyn → Prop
  | 0, _, _ => False
  | n + 1, x1, ds => ((InR IntKind.i64 ((↑(List.length (g10_0 x1)) : Int) - 1)) ∧ ((0 ≤ (↑(List.length (g10_0 x1)) : Int) - 1) ∧ ((↑(List.length (g10_0 x1)) : Int) - 1 < (↑(List.length (g10_0 x1)) : Int)) ∧ (if (Decidable.decide (g11_0 (g10_0 x1) (g10_1 x1) (g10_2 x1) < Prod.fst (List.getD (g10_0 x1) (Int.toNat ((↑(List.length (g10_0 x1)) : Int) - 1)) (0, 0, 0, ())))) = true then (ds = [Dyn.mk Ty.bool Bool.false]) else ((InR IntKind.i64 (Prod.fst (List.getD (g10_0 x1) (Int.toNat ((↑(List.length (g10_0 x1)) : Int) - 1)) (0, 0, 0, ())) + g10_2 x1)) ∧ (if (Decidable.decide (g11_0 (g10_0 x1) (g10_1 x1) (g10_2 x1) > Prod.fst (List.getD (g10_0 x1) (Int.toNat ((↑(List.length (g10_0 x1)) : Int) - 1)) (0, 0, 0, ())) + g10_2 x1)) = true then (ds = [Dyn.mk Ty.bool Bool.false]) else (if (Decidable.decide (g11_0 (g10_0 x1) (g10_1 x1) (g10_2 x1) > 36524)) = true then (ds = [Dyn.mk Ty.bool Bool.false]) else (if (g12_1 (g10_0 x1) (g10_1 x1) == 0) = true then (if (Decidable.decide (g11_0 (g10_0 x1) (g10_1 x1) (g10_2 x1) > g12_0 (g10_0 x1) (g10_1 x1))) = true then (ds = [Dyn.mk Ty.bool Bool.false]) else (R3_22 n (x1) ds)) else (R3_22 n (x1) ds))))))))
def R3_22 : Nat → List Int → List Dyn → Prop
  | 0, _, _ => False
  | n + 1, x1, ds => (if (g12_1 (g10_0 x1) (g10_1 x1) == 0) = true then (if (Decidable.decide (g12_0 (g10_0 x1) (g10_1 x1) < Prod.fst (List.getD (g10_0 x1) (Int.toNat ((↑(List.length (g10_0 x1)) : Int) - 1)) (0, 0, 0, ())))) = true then (ds = [Dyn.mk Ty.bool Bool.false]) else ((InR IntKind.i64 (g12_0 (g10_0 x1) (g10_1 x1) - Prod.fst (List.getD (g10_0 x1) (Int.toNat ((↑(List.length (g10_0 x1)) : Int) - 1)) (0, 0, 0, ())))) ∧ ((InR IntKind.i64 (g13_0 (g10_0 x1) * (g12_0 (g10_0 x1) (g10_1 x1) - Prod.fst (List.getD (g10_0 x1) (Int.toNat ((↑(List.length (g10_0 x1)) : Int) - 1)) (0, 0, 0, ()))))) ∧ ((InR IntKind.i64 (Int.tdiv (g13_0 (g10_0 x1) * (g12_0 (g10_0 x1) (g10_1 x1) - Prod.fst (List.getD (g10_0 x1) (Int.toNat ((↑(List.length (g10_0 x1)) : Int) - 1)) (0, 0, 0, ())))) 1000)) ∧ ((InR IntKind.i64 (Prod.fst (Prod.snd (List.getD (g10_0 x1) (Int.toNat ((↑(List.length (g10_0 x1)) : Int) - 1)) (0, 0, 0, ()))) + Int.tdiv (g13_0 (g10_0 x1) * (g12_0 (g10_0 x1) (g10_1 x1) - Prod.fst (List.getD (g10_0 x1) (Int.toNat ((↑(List.length (g10_0 x1)) : Int) - 1)) (0, 0, 0, ())))) 1000)) ∧ (if (Decidable.decide (Prod.fst (Prod.snd (List.getD (g10_0 x1) (Int.toNat ((↑(List.length (g10_0 x1)) : Int) - 1)) (0, 0, 0, ()))) + Int.tdiv (g13_0 (g10_0 x1) * (g12_0 (g10_0 x1) (g10_1 x1) - Prod.fst (List.getD (g10_0 x1) (Int.toNat ((↑(List.length (g10_0 x1)) : Int) - 1)) (0, 0, 0, ())))) 1000 < g10_1 x1)) = true then (ds = [Dyn.mk Ty.bool Bool.false]) else (if (Decidable.decide (g12_0 (g10_0 x1) (g10_1 x1) > Prod.fst (List.getD (g10_0 x1) (Int.toNat ((↑(List.length (g10_0 x1)) : Int) - 1)) (0, 0, 0, ())))) = true then ((InR IntKind.i64 (g12_0 (g10_0 x1) (g10_1 x1) - 1)) ∧ ((InR IntKind.i64 (g12_0 (g10_0 x1) (g10_1 x1) - 1 - Prod.fst (List.getD (g10_0 x1) (Int.toNat ((↑(List.length (g10_0 x1)) : Int) - 1)) (0, 0, 0, ())))) ∧ ((InR IntKind.i64 (g13_0 (g10_0 x1) * (g12_0 (g10_0 x1) (g10_1 x1) - 1 - Prod.fst (List.getD (g10_0 x1) (Int.toNat ((↑(List.length (g10_0 x1)) : Int) - 1)) (0, 0, 0, ()))))) ∧ ((InR IntKind.i64 (Int.tdiv (g13_0 (g10_0 x1) * (g12_0 (g10_0 x1) (g10_1 x1) - 1 - Prod.fst (List.getD (g10_0 x1) (Int.toNat ((↑(List.length (g10_0 x1)) : Int) - 1)) (0, 0, 0, ())))) 1000)) ∧ ((InR IntKind.i64 (Prod.fst (Prod.snd (List.getD (g10_0 x1) (Int.toNat ((↑(List.length (g10_0 x1)) : Int) - 1)) (0, 0, 0, ()))) + Int.tdiv (g13_0 (g10_0 x1) * (g12_0 (g10_0 x1) (g10_1 x1) - 1 - Prod.fst (List.getD (g10_0 x1) (Int.toNat ((↑(List.length (g10_0 x1)) : Int) - 1)) (0, 0, 0, ())))) 1000)) ∧ (if (Decidable.decide (Prod.fst (Prod.snd (List.getD (g10_0 x1) (Int.toNat ((↑(List.length (g10_0 x1)) : Int) - 1)) (0, 0, 0, ()))) + Int.tdiv (g13_0 (g10_0 x1) * (g12_0 (g10_0 x1) (g10_1 x1) - 1 - Prod.fst (List.getD (g10_0 x1) (Int.toNat ((↑(List.length (g10_0 x1)) : Int) - 1)) (0, 0, 0, ())))) 1000 ≥ g10_1 x1)) = true then (ds = [Dyn.mk Ty.bool Bool.false]) else (R3_25 n (x1) ds))))))) else (R3_25 n (x1) ds)))))))) else (R3_25 n (x1) ds))
def R3_25 : Nat → List Int → List Dyn → Prop
  | 0, _, _ => False
  | n + 1, x1, ds => (if (g12_1 (g10_0 x1) (g10_1 x1) == 0) = true then (ds = [Dyn.mk Ty.bool Bool.true]) else ((InR IntKind.i64 (Prod.fst (List.getD (g10_0 x1) (Int.toNat ((↑(List.length (g10_0 x1)) : Int) - 1)) (0, 0, 0, ())) + g10_2 x1)) ∧ (ds = [Dyn.mk Ty.bool (g11_0 (g10_0 x1) (g10_1 x1) (g10_2 x1) == if Prod.fst (List.getD (g10_0 x1) (Int.toNat ((↑(List.length (g10_0 x1)) : Int) - 1)) (0, 0, 0, ())) + g10_2 x1 < 36524 then Prod.fst (List.getD (g10_0 x1) (Int.toNat ((↑(List.length (g10_0 x1)) : Int) - 1)) (0, 0, 0, ())) + g10_2 x1 else 36524)])))
end
theorem snd3 : ∀ n, (∀ (x0 : List Int) (x1 : List Int) ds, R3 n x0 x1 ds → ∀ K q, AtV Tryz.prog 3 (PostR kds3 oks3 ds [] [] q K) 205 K q [] [.code b3] (entE 0 0 sig3 (x0, x1, ())) (entL sig3 (x0, x1, ()))) ∧ (∀ (x0 : List Int) (x1 : List Int) ds, R3_3 n x0 x1 ds → ∀ K q, AtV Tryz.prog 3 (PostR kds3 oks3 ds [] [] q K) 205 K q [] (cutAt b3 3) (E3_3 x0 x1) (L3_3 x0 x1)) ∧ (∀ (x1 : List Int) ds, R3_11 n x1 ds → ∀ K q, AtV Tryz.prog 3 (PostR kds3 oks3 ds [] [] q K) 205 K q [] (cutAt b3 11) (E3_11 x1) (L3_11 x1)) ∧ (∀ (x1 : List Int) ds, R3_17 n x1 ds → ∀ K q, AtV Tryz.prog 3 (PostR kds3 oks3 ds [] [] q K) 205 K q [] (cutAt b3 17) (E3_17 x1) (L3_17 x1)) ∧ (∀ (x1 : List Int) ds, R3_19 n x1 ds → ∀ K q, AtV Tryz.prog 3 (PostR kds3 oks3 ds [] [] q K) 205 K q [] (cutAt b3 19) (E3_19 x1) (L3_19 x1)) ∧ (∀ (x1 : List Int) ds, R3_22 n x1 ds → ∀ K q, AtV Tryz.prog 3 (PostR kds3 oks3 ds [] [] q K) 205 K q [] (cutAt b3 22) (E3_22 x1) (L3_22 x1)) ∧ (∀ (x1 : List Int) ds, R3_25 n x1 ds → ∀ K q, AtV Tryz.prog 3 (PostR kds3 oks3 ds [] [] q K) 205 K q [] (cutAt b3 25) (E3_25 x1) (L3_25 x1)) := by
  intro n
  induction n with
  | zero => exact ⟨fun _ _ _ h => by simp only [R3] at h, fun _ _ _ h => by simp only [R3_3] at h, fun _ _ h => by simp only [R3_11] at h, fun _ _ h => by simp only [R3_17] at h, fun _ _ h => by simp only [R3_19] at h, fun _ _ h => by simp only [R3_22] at h, fun _ _ h => by simp only [R3_25] at h⟩
  | succ n ih =>
  obtain ⟨ih, ih3, ih11, ih17, ih19, ih22, ih25⟩ := ih
  refine ⟨?_, ?_, ?_, ?_, ?_, ?_, ?_⟩
  · intro x0 x1 ds h K q
    rw [R3] at h
    by_cases b0 : (g4_0 x0) = true
    · rw [if_pos b0] at h
      subst h
      exact AtV.ret Tryz.func3 tabOk ext3Ok mixed false [3, 11, 17, 19, 22, 25] tys3 [true, true] (a1 trivial (a1 b0 (a1 (rfl : Bool.true = Bool.true) trivial))) (by kernel_rfl)
    · rw [if_neg b0] at h
      replace b0 := Bool.eq_false_iff.2 b0
      by_cases b1 : (g4_0 x1) = true
      · rw [if_pos b1] at h
        subst h
        exact AtV.ret Tryz.func3 tabOk ext3Ok mixed false [3, 11, 17, 19, 22, 25] tys3 [false, true] (a1 trivial (a1 b0 (a1 trivial (a1 b1 trivial)))) (by kernel_rfl)
      · rw [if_neg b1] at h
        replace b1 := Bool.eq_false_iff.2 b1
        exact AtV.go tabOk ext3Ok mixed false [3, 11, 17, 19, 22, 25] [] [0, 1] [] [false, false] (a1 trivial (a1 b0 (a1 trivial (a1 b1 trivial)))) (ih3 _ _ _ h K q) (by kernel_rfl)

  · intro x0 x1 ds h K q
    rw [R3_3] at h
    obtain ⟨s0, h⟩ := h
    obtain ⟨s1, h⟩ := h
    by_cases b0 : (g6_1 (g5_0 x0) (g5_1 x0) == 0) = true
    · rw [if_pos b0] at h
      obtain ⟨s2, h⟩ := h
      obtain ⟨s3, h⟩ := h
      by_cases b1 : (!g9_0 (g6_0 (g5_0 x0) (g5_1 x0))) = true
      · rw [if_pos b1] at h
        subst h
        exact AtV.ret Tryz.func3 tabOk ext3Ok mixed false [3, 11, 17, 19, 22, 25] tys3 [true, true, true, true, true, true] (a1 s0 (a1 s1 (a1 b0 (a1 s2 (a1 s3 (a1 trivial (a1 b1 (a1 (rfl : Bool.true = Bool.true) (a1 (rfl : Bool.true = Bool.true) (a1 (rfl : Bool.true = Bool.true) (a1 (rfl : Bool.true = Bool.true) trivial))))))))))) (by kernel_rfl)
      · rw [if_neg b1] at h
        replace b1 := Bool.eq_false_iff.2 b1
        obtain ⟨s4, h⟩ := h
        by_cases b2 : ((↑(List.length (g6_0 (g5_0 x0) (g5_1 x0))) : Int) != (↑(List.length (g5_0 x0)) : Int) + 1) = true
        · rw [if_pos b2] at h
          subst h
          exact AtV.ret Tryz.func3 tabOk ext3Ok mixed false [3, 11, 17, 19, 22, 25] tys3 [true, false, true, true, true, true] (a1 s0 (a1 s1 (a1 b0 (a1 s2 (a1 s3 (a1 trivial (a1 b1 (a1 s4 (a1 b2 (a1 (rfl : Bool.true = Bool.true) (a1 (rfl : Bool.true = Bool.true) (a1 (rfl : Bool.true = Bool.true) trivial)))))))))))) (by kernel_rfl)
        · rw [if_neg b2] at h
          replace b2 := Bool.eq_false_iff.2 b2
          obtain ⟨s5, h⟩ := h
          obtain ⟨s6, s7, h⟩ := h
          by_cases b3 : (!eqD (Ty.cons (Ty.int IntKind.i64) (Ty.cons (Ty.int IntKind.i64) (Ty.cons (Ty.int IntKind.i64) Ty.unit))) (List.getD (g6_0 (g5_0 x0) (g5_1 x0)) (Int.toNat ((↑(List.length (g6_0 (g5_0 x0) (g5_1 x0))) : Int) - 1)) (0, 0, 0, ())) (g5_1 x0)) = true
          · rw [if_pos b3] at h
            subst h
            exact AtV.ret Tryz.func3 tabOk ext3Ok mixed false [3, 11, 17, 19, 22, 25] tys3 [true, false, false, true, true, true] (a1 s0 (a1 s1 (a1 b0 (a1 s2 (a1 s3 (a1 trivial (a1 b1 (a1 s4 (a1 b2 (a1 s5 (a1 s6 (a1 s7 (a1 b3 (a1 (rfl : Bool.true = Bool.true) (a1 (rfl : Bool.true = Bool.true) trivial))))))))))))))) (by kernel_rfl)
          · rw [if_neg b3] at h
            replace b3 := Bool.eq_false_iff.2 b3
            by_cases b4 : (!g7_1 (g8_0 (g5_1 x0))) = true
            · rw [if_pos b4] at h
              subst h
              exact AtV.ret Tryz.func3 tabOk ext3Ok mixed false [3, 11, 17, 19, 22, 25] tys3 [true, false, false, false, true, true] (a1 s0 (a1 s1 (a1 b0 (a1 s2 (a1 s3 (a1 trivial (a1 b1 (a1 s4 (a1 b2 (a1 s5 (a1 s6 (a1 s7 (a1 b3 (a1 b4 (a1 (rfl : Bool.true = Bool.true) trivial))))))))))))))) (by kernel_rfl)
            · rw [if_neg b4] at h
              replace b4 := Bool.eq_false_iff.2 b4
              by_cases b5 : (!eqD (Ty.cons (Ty.int IntKind.i64) (Ty.cons (Ty.int IntKind.i64) (Ty.cons (Ty.int IntKind.i64) Ty.unit))) (g7_0 (g8_0 (g5_1 x0))) (g5_1 x0)) = true
              · rw [if_pos b5] at h
                subst h
                exact AtV.ret Tryz.func3 tabOk ext3Ok mixed false [3, 11, 17, 19, 22, 25] tys3 [true, false, false, false, false, true] (a1 s0 (a1 s1 (a1 b0 (a1 s2 (a1 s3 (a1 trivial (a1 b1 (a1 s4 (a1 b2 (a1 s5 (a1 s6 (a1 s7 (a1 b3 (a1 b4 (a1 b5 trivial))))))))))))))) (by kernel_rfl)
              · rw [if_neg b5] at h
                replace b5 := Bool.eq_false_iff.2 b5
                exact AtV.go tabOk ext3Ok mixed false [3, 11, 17, 19, 22, 25] [] [1] [] [true, false, false, false, false, false] (a1 s0 (a1 s1 (a1 b0 (a1 s2 (a1 s3 (a1 trivial (a1 b1 (a1 s4 (a1 b2 (a1 s5 (a1 s6 (a1 s7 (a1 b3 (a1 b4 (a1 b5 trivial))))))))))))))) (ih11 _ _ h K q) (by kernel_rfl)
    · rw [if_neg b0] at h
      replace b0 := Bool.eq_false_iff.2 b0
      by_cases b1 : ((↑(List.length (g6_0 (g5_0 x0) (g5_1 x0))) : Int) != 0) = true
      · rw [if_pos b1] at h
        subst h
        exact AtV.ret Tryz.func3 tabOk ext3Ok mixed false [3, 11, 17, 19, 22, 25] tys3 [false, true] (a1 s0 (a1 s1 (a1 b0 (a1 b1 trivial)))) (by kernel_rfl)
      · rw [if_neg b1] at h
        replace b1 := Bool.eq_false_iff.2 b1
        exact AtV.go tabOk ext3Ok mixed false [3, 11, 17, 19, 22, 25] [] [1] [] [false, false] (a1 s0 (a1 s1 (a1 b0 (a1 b1 trivial)))) (ih11 _ _ h K q) (by kernel_rfl)

  · intro x1 ds h K q
    rw [R3_11] at h
    obtain ⟨s0, h⟩ := h
    obtain ⟨s1, h⟩ := h
    obtain ⟨s2, h⟩ := h
    obtain ⟨s3, h⟩ := h
    by_cases b0 : (g11_1 (g10_0 x1) (g10_1 x1) (g10_2 x1) != 0) = true
    · rw [if_pos b0] at h
      subst h
      exact AtV.ret Tryz.func3 tabOk ext3Ok mixed false [3, 11, 17, 19, 22, 25] tys3 [true] (a1 s0 (a1 s1 (a1 s2 (a1 s3 (a1 b0 trivial))))) (by kernel_rfl)
    · rw [if_neg b0] at h
      replace b0 := Bool.eq_false_iff.2 b0
      exact AtV.go tabOk ext3Ok mixed false [3, 11, 17, 19, 22, 25] [] [11, 12, 13, 14, 16, 17, 18, 19] [0] [false] (a1 s0 (a1 s1 (a1 s2 (a1 s3 (a1 b0 trivial))))) (ih17 _ _ h K q) (by kernel_rfl)

  · intro x1 ds h K q
    rw [R3_17] at h
    by_cases b0 : ((↑(List.length (g10_0 x1)) : Int) == 0) = true
    · rw [if_pos b0] at h
      subst h
      exact AtV.ret Tryz.func3 tabOk ext3Ok mixed false [3, 11, 17, 19, 22, 25] tys3 [true, true, true] (a1 b0 (a1 (rfl : Bool.true = Bool.true) (a1 (rfl : Bool.true = Bool.true) trivial))) (by kernel_rfl)
    · rw [if_neg b0] at h
      replace b0 := Bool.eq_false_iff.2 b0
      by_cases b1 : (!(g13_1 (g10_0 x1) == 0) == Decidable.decide ((↑(List.length (g10_0 x1)) : Int) ≥ 2)) = true
      · rw [if_pos b1] at h
        subst h
        exact AtV.ret Tryz.func3 tabOk ext3Ok mixed false [3, 11, 17, 19, 22, 25] tys3 [false, true, true] (a1 b0 (a1 b1 (a1 (rfl : Bool.true = Bool.true) trivial))) (by kernel_rfl)
      · rw [if_neg b1] at h
        replace b1 := Bool.eq_false_iff.2 b1
        by_cases b2 : (Decidable.decide (g13_0 (g10_0 x1) < 0)) = true
        · rw [if_pos b2] at h
          subst h
          exact AtV.ret Tryz.func3 tabOk ext3Ok mixed false [3, 11, 17, 19, 22, 25] tys3 [false, false, true] (a1 b0 (a1 b1 (a1 b2 trivial))) (by kernel_rfl)
        · rw [if_neg b2] at h
          replace b2 := Bool.eq_false_iff.2 b2
          exact AtV.go tabOk ext3Ok mixed false [3, 11, 17, 19, 22, 25] [] [11, 12, 13, 14, 16, 17, 18] [0] [false, false, false] (a1 b0 (a1 b1 (a1 b2 trivial))) (ih19 _ _ h K q) (by kernel_rfl)

  · intro x1 ds h K q
    rw [R3_19] at h
    obtain ⟨s0, h⟩ := h
    obtain ⟨s1, s2, h⟩ := h
    by_cases b0 : (Decidable.decide (g11_0 (g10_0 x1) (g10_1 x1) (g10_2 x1) < Prod.fst (List.getD (g10_0 x1) (Int.toNat ((↑(List.length (g10_0 x1)) : Int) - 1)) (0, 0, 0, ())))) = true
    · rw [if_pos b0] at h
      subst h
      exact AtV.ret Tryz.func3 tabOk ext3Ok mixed false [3, 11, 17, 19, 22, 25] tys3 [true, true, true, true] (a1 s0 (a1 s1 (a1 s2 (a1 b0 (a1 (rfl : Bool.true = Bool.true) (a1 (rfl : Bool.true = Bool.true) (a1 (rfl : Bool.true = Bool.true) trivial))))))) (by kernel_rfl)
    · rw [if_neg b0] at h
      replace b0 := Bool.eq_false_iff.2 b0
      obtain ⟨s3, h⟩ := h
      by_cases b1 : (Decidable.decide (g11_0 (g10_0 x1) (g10_1 x1) (g10_2 x1) > Prod.fst (List.getD (g10_0 x1) (Int.toNat ((↑(List.length (g10_0 x1)) : Int) - 1)) (0, 0, 0, ())) + g10_2 x1)) = true
      · rw [if_pos b1] at h
        subst h
        exact AtV.ret Tryz.func3 tabOk ext3Ok mixed false [3, 11, 17, 19, 22, 25] tys3 [false, true, true, true] (a1 s0 (a1 s1 (a1 s2 (a1 b0 (a1 s3 (a1 b1 (a1 (rfl : Bool.true = Bool.true) (a1 (rfl : Bool.true = Bool.true) trivial)))))))) (by kernel_rfl)
      · rw [if_neg b1] at h
        replace b1 := Bool.eq_false_iff.2 b1
        by_cases b2 : (Decidable.decide (g11_0 (g10_0 x1) (g10_1 x1) (g10_2 x1) > 36524)) = true
        · rw [if_pos b2] at h
          subst h
          exact AtV.ret Tryz.func3 tabOk ext3Ok mixed false [3, 11, 17, 19, 22, 25] tys3 [false, false, true, true] (a1 s0 (a1 s1 (a1 s2 (a1 b0 (a1 s3 (a1 b1 (a1 b2 (a1 (rfl : Bool.true = Bool.true) trivial)))))))) (by kernel_rfl)
        · rw [if_neg b2] at h
          replace b2 := Bool.eq_false_iff.2 b2
          by_cases b3 : (g12_1 (g10_0 x1) (g10_1 x1) == 0) = true
          · rw [if_pos b3] at h
            by_cases b4 : (Decidable.decide (g11_0 (g10_0 x1) (g10_1 x1) (g10_2 x1) > g12_0 (g10_0 x1) (g10_1 x1))) = true
            · rw [if_pos b4] at h
              subst h
              exact AtV.ret Tryz.func3 tabOk ext3Ok mixed false [3, 11, 17, 19, 22, 25] tys3 [false, false, false, true, true] (a1 s0 (a1 s1 (a1 s2 (a1 b0 (a1 s3 (a1 b1 (a1 b2 (a1 b3 (a1 b4 trivial))))))))) (by kernel_rfl)
            · rw [if_neg b4] at h
              replace b4 := Bool.eq_false_iff.2 b4
              exact AtV.go tabOk ext3Ok mixed false [3, 11, 17, 19, 22, 25] [] [12, 13, 14, 16, 17, 18, 20] [1] [false, false, false, true, false] (a1 s0 (a1 s1 (a1 s2 (a1 b0 (a1 s3 (a1 b1 (a1 b2 (a1 b3 (a1 b4 trivial))))))))) (ih22 _ _ h K q) (by kernel_rfl)
          · rw [if_neg b3] at h
            replace b3 := Bool.eq_false_iff.2 b3
            exact AtV.go tabOk ext3Ok mixed false [3, 11, 17, 19, 22, 25] [] [12, 13, 14, 16, 17, 18, 20] [1] [false, false, false, false, false] (a1 s0 (a1 s1 (a1 s2 (a1 b0 (a1 s3 (a1 b1 (a1 b2 (a1 b3 (a1 (rfl : Bool.false = Bool.false) trivial))))))))) (ih22 _ _ h K q) (by kernel_rfl)

  · intro x1 ds h K q
    rw [R3_22] at h
    by_cases b0 : (g12_1 (g10_0 x1) (g10_1 x1) == 0) = true
    · rw [if_pos b0] at h
      by_cases b1 : (Decidable.decide (g12_0 (g10_0 x1) (g10_1 x1) < Prod.fst (List.getD (g10_0 x1) (Int.toNat ((↑(List.length (g10_0 x1)) : Int) - 1)) (0, 0, 0, ())))) = true
      · rw [if_pos b1] at h
        subst h
        exact AtV.ret Tryz.func3 tabOk ext3Ok mixed false [3, 11, 17, 19, 22, 25] tys3 [true, true, true, true] (a1 b0 (a1 b1 (a1 (rfl : Bool.true = Bool.true) (a1 (rfl : Bool.true = Bool.true) trivial)))) (by kernel_rfl)
      · rw [if_neg b1] at h
        replace b1 := Bool.eq_false_iff.2 b1
        obtain ⟨s0, h⟩ := h
        obtain ⟨s1, h⟩ := h
        obtain ⟨s2, h⟩ := h
        obtain ⟨s3, h⟩ := h
        by_cases b2 : (Decidable.decide (Prod.fst (Prod.snd (List.getD (g10_0 x1) (Int.toNat ((↑(List.length (g10_0 x1)) : Int) - 1)) (0, 0, 0, ()))) + Int.tdiv (g13_0 (g10_0 x1) * (g12_0 (g10_0 x1) (g10_1 x1) - Prod.fst (List.getD (g10_0 x1) (Int.toNat ((↑(List.length (g10_0 x1)) : Int) - 1)) (0, 0, 0, ())))) 1000 < g10_1 x1)) = true
        · rw [if_pos b2] at h
          subst h
          exact AtV.ret Tryz.func3 tabOk ext3Ok mixed false [3, 11, 17, 19, 22, 25] tys3 [true, false, true, true] (a1 b0 (a1 b1 (a1 s0 (a1 s1 (a1 ((by decide) : (1000 : Int) ≠ (0 : Int)) (a1 s2 (a1 s3 (a1 b2 (a1 (rfl : Bool.true = Bool.true) trivial))))))))) (by kernel_rfl)
        · rw [if_neg b2] at h
          replace b2 := Bool.eq_false_iff.2 b2
          by_cases b3 : (Decidable.decide (g12_0 (g10_0 x1) (g10_1 x1) > Prod.fst (List.getD (g10_0 x1) (Int.toNat ((↑(List.length (g10_0 x1)) : Int) - 1)) (0, 0, 0, ())))) = true
          · rw [if_pos b3] at h
            obtain ⟨s4, h⟩ := h
            obtain ⟨s5, h⟩ := h
            obtain ⟨s6, h⟩ := h
            obtain ⟨s7, h⟩ := h
            obtain ⟨s8, h⟩ := h
            by_cases b4 : (Decidable.decide (Prod.fst (Prod.snd (List.getD (g10_0 x1) (Int.toNat ((↑(List.length (g10_0 x1)) : Int) - 1)) (0, 0, 0, ()))) + Int.tdiv (g13_0 (g10_0 x1) * (g12_0 (g10_0 x1) (g10_1 x1) - 1 - Prod.fst (List.getD (g10_0 x1) (Int.toNat ((↑(List.length (g10_0 x1)) : Int) - 1)) (0, 0, 0, ())))) 1000 ≥ g10_1 x1)) = true
            · rw [if_pos b4] at h
              subst h
              exact AtV.ret Tryz.func3 tabOk ext3Ok mixed false [3, 11, 17, 19, 22, 25] tys3 [true, false, false, true, true] (a1 b0 (a1 b1 (a1 s0 (a1 s1 (a1 ((by decide) : (1000 : Int) ≠ (0 : Int)) (a1 s2 (a1 s3 (a1 b2 (a1 b3 (a1 s4 (a1 s5 (a1 s6 (a1 ((by decide) : (1000 : Int) ≠ (0 : Int)) (a1 s7 (a1 s8 (a1 b4 trivial)))))))))))))))) (by kernel_rfl)
            · rw [if_neg b4] at h
              replace b4 := Bool.eq_false_iff.2 b4
              exact AtV.go tabOk ext3Ok mixed false [3, 11, 17, 19, 22, 25] [] [13, 14, 17, 20] [0] [true, false, false, true, false] (a1 b0 (a1 b1 (a1 s0 (a1 s1 (a1 ((by decide) : (1000 : Int) ≠ (0 : Int)) (a1 s2 (a1 s3 (a1 b2 (a1 b3 (a1 s4 (a1 s5 (a1 s6 (a1 ((by decide) : (1000 : Int) ≠ (0 : Int)) (a1 s7 (a1 s8 (a1 b4 trivial)))))))))))))))) (ih25 _ _ h K q) (by kernel_rfl)
          · rw [if_neg b3] at h
            replace b3 := Bool.eq_false_iff.2 b3
            exact AtV.go tabOk ext3Ok mixed false [3, 11, 17, 19, 22, 25] [] [13, 14, 17, 20] [0] [true, false, false, false, false] (a1 b0 (a1 b1 (a1 s0 (a1 s1 (a1 ((by decide) : (1000 : Int) ≠ (0 : Int)) (a1 s2 (a1 s3 (a1 b2 (a1 b3 (a1 (rfl : Bool.false = Bool.false) trivial)))))))))) (ih25 _ _ h K q) (by kernel_rfl)
    · rw [if_neg b0] at h
      replace b0 := Bool.eq_false_iff.2 b0
      exact AtV.go tabOk ext3Ok mixed false [3, 11, 17, 19, 22, 25] [] [13, 14, 17, 20] [0] [false] (a1 b0 trivial) (ih25 _ _ h K q) (by kernel_rfl)

  · intro x1 ds h K q
    rw [R3_25] at h
    by_cases b0 : (g12_1 (g10_0 x1) (g10_1 x1) == 0) = true
    · rw [if_pos b0] at h
      subst h
      exact AtV.ret Tryz.func3 tabOk ext3Ok mixed false [3, 11, 17, 19, 22, 25] tys3 [true] (a1 b0 trivial) (by kernel_rfl)
    · rw [if_neg b0] at h
      replace b0 := Bool.eq_false_iff.2 b0
      obtain ⟨s0, h⟩ := h
      subst h
      exact AtV.ret Tryz.func3 tabOk ext3Ok mixed false [3, 11, 17, 19, 22, 25] tys3 [false] (a1 b0 (a1 s0 trivial)) (by kernel_rfl)



def g3_0 (x0 x1 : List Int) : Bool := true
def P3 (x0 x1 : List Int) : Prop := True

theorem start3 {x : List Int} (hw : Wf (.sl (.int .u8)) x) : P15 (g14_0 x) ∧ SrcOk 1000 (u15_0 (g14_0 x)) ∧ (g15_0 (g14_0 x)).length ≤ 30 ∧ ∀ t ∈ g15_0 (g14_0 x), bnd15 t := by
  have p : P15 (x, 0, 0, ()) := (src_start hw).up (by decide)
  obtain ⟨h1, ⟨h2, h3⟩, _⟩ := q15 _ p
  exact ⟨p, h1, h2, h3⟩

theorem new3 {x : List Int} (hw : Wf (.sl (.int .u8)) x) : P5 x ∧ (g5_0 x).length ≤ 30 := by
  obtain ⟨p, s, hl, hb⟩ := start3 hw
  have hg : g5_0 x = g15_0 (g14_0 x) := by
    unfold g5_0
    repeat' split
    all_goals rfl
  rw [hg]
  refine ⟨?_, hl⟩
  unfold P5
  refine ⟨p, ?_⟩
  obtain ⟨L, eL⟩ : ∃ L, g15_0 (g14_0 x) = L := ⟨_, rfl⟩
  rw [eL] at hl hb ⊢
  by_cases hc : ((L.length : Nat) : Int) > 0
  · rw [if_pos (decide_eq_true hc)]
    have hm := mem_getD L (Int.toNat ((L.length : Int) - 1)) ((0 : Int), (0 : Int), (0 : Int), ()) (by omega)
    have hbm := hb _ hm
    generalize L.getD (Int.toNat ((L.length : Int) - 1)) ((0 : Int), (0 : Int), (0 : Int), ()) = t at *
    obtain ⟨b1, b2, b3⟩ := hbm
    obtain ⟨p2, s2, _⟩ := draw_test s (by decide) (a := t.1 + 1) (b := t.2.1) (c := t.2.2.1) (by omega) (by omega) (by omega)
    obtain ⟨p3, s3, _⟩ := pick_ok s2 12 (by decide)
    obtain ⟨p4, s4, _⟩ := among_ok s3 [-1, 1000, 1001] (by decide) (by decide)
    refine ⟨by rw [i64_iff]; omega, by omega, by omega, by rw [i64_iff]; omega, p2, p3, ?_⟩
    split
    · trivial
    · split
      · exact ⟨by rw [i64_iff]; omega, trivial⟩
      · split
        · exact ⟨p4, trivial⟩
        · trivial
  · rw [if_neg (by simpa using hc)]
    obtain ⟨p2, s2, _⟩ := draw_test s (by decide) (a := 8001) (b := 0) (c := 0) (by decide) (by decide) (by decide)
    obtain ⟨p3, s3, _⟩ := pick_ok s2 12 (by decide)
    obtain ⟨p4, s4, _⟩ := among_ok s3 [-1, 1000, 1001] (by decide) (by decide)
    refine ⟨p2, p3, ?_⟩
    split
    · trivial
    · split
      · trivial
      · split
        · exact ⟨p4, trivial⟩
        · trivial

theorem lim3 {x : List Int} (hw : Wf (.sl (.int .u8)) x) : P10 x ∧ (g10_0 x).length ≤ 30 := by
  obtain ⟨p, s, hl, hb⟩ := start3 hw
  obtain ⟨p1, s1⟩ := one_ok s 8 (by decide)
  obtain ⟨p2, s2, _⟩ := among_ok s1 [-1, 0, 24000, 24001] (by decide) (by decide)
  obtain ⟨p3, s3, _⟩ := pick_ok s1 120 (by decide)
  have q : P29 (u15_0 (g14_0 x)) ∧ SrcOk 1010 (u29_0 (u15_0 (g14_0 x))) := by
    unfold P29 u29_0
    split
    · exact ⟨⟨p1, p2, trivial⟩, s2.up (by decide)⟩
    · exact ⟨⟨p1, p3, trivial⟩, s3.up (by decide)⟩
  obtain ⟨p5, _⟩ := among_ok q.2 [1, 30, 90, 365, 1000, 1001, 0] (by decide) (by decide)
  exact ⟨⟨p, q.1, p5, trivial⟩, hl⟩

theorem mul3 {g a : Int} (hg : 0 ≤ g ∧ g ≤ 30000000) (ha : 0 ≤ a ∧ a ≤ 36524) : InR .i64 (g * a) ∧ InR .i64 (Int.tdiv (g * a) 1000) ∧ 0 ≤ Int.tdiv (g * a) 1000 ∧ Int.tdiv (g * a) 1000 ≤ 1095720000 := by
  obtain ⟨h1, h2, h3, h4⟩ := mul12 hg ha
  exact ⟨by rw [i64_iff]; omega, by rw [i64_iff]; omega, h3, h4⟩

theorem s223 {x1 : List Int} {xs : List TST} {li of : Int} {t : TST} (ht : List.getD xs (Int.toNat ((xs.length : Int) - 1)) ((0 : Int), (0 : Int), (0 : Int), ()) = t) (e0 : g10_0 x1 = xs) (e1 : g10_1 x1 = li) (e2 : g10_2 x1 = of) (ho : 1 ≤ of ∧ of ≤ 1000) (hL : (0 ≤ t.1 ∧ t.1 ≤ 36524))
    (hn : g12_1 xs li ≠ 0 → g11_0 xs li of = if t.1 + of < 36524 then t.1 + of else 36524) : R3_22 (0 + 1 + 1) x1 [⟨.bool, true⟩] := by
  obtain ⟨_, hD⟩ := limit_law xs li
  have h25 : R3_25 (0 + 1) x1 [⟨.bool, true⟩] := by
    rw [R3_25, e0, e1, e2, ht]
    by_cases h : g12_1 xs li = 0
    · rw [if_pos (by rw [h]; rfl)]
    · rw [if_neg (by simpa using h), hn h, beq_self_eq_true]
      exact ⟨by rw [i64_iff]; omega, rfl⟩
  rw [R3_22, e0, e1, ht]
  by_cases h : g12_1 xs li = 0
  · rw [if_pos (by rw [h]; rfl)]
    obtain ⟨⟨_, _, ⟨l1, l2⟩, ⟨l3, l4⟩, l5⟩, d1, d2, d3, d4⟩ := hD h
    have hval : ∀ d, wires12 xs d = t.2.1 + Int.tdiv (g13_0 xs * (d - t.1)) 1000 := fun d => by unfold wires12 lt12; rw [ht]
    have hlt : lt12 xs = t := ht
    rw [hlt] at l1 l2 l3 l4 d1 d4
    generalize g12_0 xs li = D at *
    obtain ⟨m1, m2, m3, m4⟩ := mul3 l5 (a := D - t.1) (by omega)
    have v1 := hval D
    rw [v1] at d3
    rw [if_neg (by simp only [decide_eq_true_eq]; omega)]
    refine ⟨by rw [i64_iff]; omega, m1, m2, by rw [i64_iff]; omega, ?_⟩
    rw [if_neg (by simp only [decide_eq_true_eq]; omega)]
    by_cases hgt : D > t.1
    · rw [if_pos (decide_eq_true hgt)]
      obtain ⟨m5, m6, m7, m8⟩ := mul3 l5 (a := D - 1 - t.1) (by omega)
      have v2 := d4 (D - 1) (by omega) (by omega)
      rw [hval] at v2
      refine ⟨by rw [i64_iff]; omega, by rw [i64_iff]; omega, m5, m6, by rw [i64_iff]; omega, ?_⟩
      rw [if_neg (by simp only [decide_eq_true_eq]; omega)]
      exact h25
    · rw [if_neg (by simp only [decide_eq_true_eq]; exact hgt)]
      exact h25
  · rw [if_neg (by simpa using h)]
    exact h25

theorem s113 (x1 : List Int) (hw : Wf (.sl (.int .u8)) x1) : ∃ n, R3_11 n x1 [⟨.bool, true⟩] := by
  obtain ⟨p10, hl⟩ := lim3 hw
  obtain ⟨xs, e0⟩ : ∃ l, g10_0 x1 = l := ⟨_, rfl⟩
  obtain ⟨li, e1⟩ : ∃ l, g10_1 x1 = l := ⟨_, rfl⟩
  obtain ⟨of, e2⟩ : ∃ l, g10_2 x1 = l := ⟨_, rfl⟩
  rw [e0] at hl
  obtain ⟨p13, g1, g2, g3⟩ := growth_law xs
  obtain ⟨p12, hD⟩ := limit_law xs li
  have i0 : InR .i64 ((xs.length : Int) - 1) := by rw [i64_iff]; omega
  by_cases hv : g20_0 xs = true
  case neg =>
    have hv := Bool.eq_false_iff.2 hv
    have n1 : g11_1 xs li of = 1 := by unfold g11_1; rw [hv, if_pos (by rfl)]
    have n0 : g11_0 xs li of = 0 := by unfold g11_0; rw [hv, if_pos (by rfl)]
    refine ⟨0 + 1, ?_⟩
    rw [R3_11, e0, e1, e2, n1, n0, if_pos (by decide)]
    exact ⟨p10, by unfold P11; rw [hv, if_pos (by rfl)]; trivial, p12, p13, rfl⟩
  by_cases hw1 : g30_0 li 0 24000 = true
  case neg =>
    have hw1 := Bool.eq_false_iff.2 hw1
    have n1 : g11_1 xs li of = 2 := by unfold g11_1; rw [hv, if_neg (by decide), hw1, if_pos (by rfl)]
    have n0 : g11_0 xs li of = 0 := by unfold g11_0; rw [hv, if_neg (by decide), hw1, if_pos (by rfl)]
    refine ⟨0 + 1, ?_⟩
    rw [R3_11, e0, e1, e2, n1, n0, if_pos (by decide)]
    exact ⟨p10, by unfold P11; rw [hv, if_neg (by decide), hw1, if_pos (by rfl)]; trivial, p12, p13, rfl⟩
  by_cases hw2 : g30_0 of 1 1000 = true
  case neg =>
    have hw2 := Bool.eq_false_iff.2 hw2
    have n1 : g11_1 xs li of = 2 := by unfold g11_1; rw [hv, if_neg (by decide), hw1, if_neg (by decide), hw2, if_pos (by rfl)]
    have n0 : g11_0 xs li of = 0 := by unfold g11_0; rw [hv, if_neg (by decide), hw1, if_neg (by decide), hw2, if_pos (by rfl)]
    refine ⟨0 + 1, ?_⟩
    rw [R3_11, e0, e1, e2, n1, n0, if_pos (by decide)]
    exact ⟨p10, by unfold P11; rw [hv, if_neg (by decide), hw1, if_neg (by decide), hw2, if_pos (by rfl)]; trivial, p12, p13, rfl⟩
  have ho := wnT.1 hw2
  by_cases hz : xs.length = 0
  · have hb : ((xs.length : Int) == 0) = true := by rw [hz]; rfl
    have n1 : g11_1 xs li of = 3 := by unfold g11_1; rw [hv, if_neg (by decide), hw1, if_neg (by decide), hw2, if_neg (by decide), if_pos hb]
    have n0 : g11_0 xs li of = 0 := by unfold g11_0; rw [hv, if_neg (by decide), hw1, if_neg (by decide), hw2, if_neg (by decide), if_pos hb]
    refine ⟨0 + 1, ?_⟩
    rw [R3_11, e0, e1, e2, n1, n0, if_pos (by decide)]
    exact ⟨p10, by unfold P11; rw [hv, if_neg (by decide), hw1, if_neg (by decide), hw2, if_neg (by decide), if_pos hb]; trivial, p12, p13, rfl⟩
  have hb : ¬ ((xs.length : Int) == 0) = true := by rw [beq_iff_eq]; omega
  obtain ⟨t, ht⟩ : ∃ t, List.getD xs (Int.toNat ((xs.length : Int) - 1)) ((0 : Int), (0 : Int), (0 : Int), ()) = t := ⟨_, rfl⟩
  have hB := g3 hv (by omega)
  obtain ⟨_, _, hL, _, _⟩ := hB
  have hlt : lt12 xs = t := ht
  rw [hlt] at hL
  have n1 : g11_1 xs li of = 0 := by
    unfold g11_1
    rw [hv, if_neg (by decide), hw1, if_neg (by decide), hw2, if_neg (by decide), if_neg hb]
    split <;> rfl
  have n0 : g11_0 xs li of = if (g12_1 xs li == 0) = true then (if g12_0 xs li < (if t.1 + of < 36524 then t.1 + of else 36524) then g12_0 xs li else (if t.1 + of < 36524 then t.1 + of else 36524)) else (if t.1 + of < 36524 then t.1 + of else 36524) := by
    unfold g11_0
    rw [hv, if_neg (by decide), hw1, if_neg (by decide), hw2, if_neg (by decide), if_neg hb, ht]
  have pN : P11 xs li of := by
    unfold P11
    rw [hv, if_neg (by decide), hw1, if_neg (by decide), hw2, if_neg (by decide), if_neg hb, ht]
    exact ⟨i0, by omega, by omega, by rw [i64_iff]; omega, p12, trivial⟩
  have h22 := s223 (x1 := x1) ht e0 e1 e2 ho hL (fun h => by rw [n0, if_neg (by simpa using h)])
  obtain ⟨M, hM⟩ : ∃ M, (if t.1 + of < 36524 then t.1 + of else 36524) = M := ⟨_, rfl⟩
  have hMb : t.1 ≤ M ∧ M ≤ t.1 + of ∧ M ≤ 36524 := by
    rw [← hM]
    split <;> omega
  have hday : t.1 ≤ g11_0 xs li of ∧ g11_0 xs li of ≤ t.1 + of ∧ g11_0 xs li of ≤ 36524 ∧ (g12_1 xs li = 0 → g11_0 xs li of ≤ g12_0 xs li) := by
    rw [n0, hM]
    by_cases h : g12_1 xs li = 0
    · obtain ⟨_, d1, d2, _⟩ := hD h
      rw [hlt] at d1
      rw [if_pos (by rw [h]; rfl)]
      split
      · exact ⟨by omega, by omega, by omega, fun _ => by omega⟩
      · exact ⟨by omega, by omega, by omega, fun _ => by omega⟩
    · rw [if_neg (by simpa using h)]
      exact ⟨by omega, by omega, by omega, fun h2 => absurd h2 h⟩
  have h19 : R3_19 (0 + 1 + 1 + 1) x1 [⟨.bool, true⟩] := by
    rw [R3_19, e0, e1, e2, ht]
    refine ⟨i0, by omega, by omega, ?_⟩
    rw [if_neg (by simp only [decide_eq_true_eq]; omega)]
    refine ⟨by rw [i64_iff]; omega, ?_⟩
    rw [if_neg (by simp only [decide_eq_true_eq]; omega), if_neg (by simp only [decide_eq_true_eq]; omega)]
    by_cases h : g12_1 xs li = 0
    · have := hday.2.2.2 h
      rw [if_pos (by rw [h]; rfl), if_neg (by simp only [decide_eq_true_eq]; omega)]
      exact h22
    · rw [if_neg (by simpa using h)]
      exact h22
  have h17 : (!(g13_1 xs == 0) == decide ((xs.length : Int) ≥ 2)) = false := by
    have := g1 hv
    by_cases h : g13_1 xs = 0
    · have h2 := this.1 h
      rw [h, decide_eq_true (by omega)]
      rfl
    · have h2 : ¬ (xs.length : Int) ≥ 2 := fun hh => h (this.2 (by omega))
      rw [decide_eq_false h2, show (g13_1 xs == 0) = false by simpa using h]
      rfl
  refine ⟨0 + 1 + 1 + 1 + 1 + 1, ?_⟩
  rw [R3_11, e0, e1, e2, n1, if_neg (by decide), R3_17, e0, if_neg hb, h17, if_neg (by decide), if_neg (by simp only [decide_eq_true_eq]; omega)]
  exact ⟨p10, pN, p12, p13, h19⟩

theorem top3 (x0 x1 : List Int) (w0 : Wf (.sl (.int .u8)) x0) (w1 : Wf (.sl (.int .u8)) x1) : ∃ n, R3 n x0 x1 [⟨.bool, g3_0 x0 x1⟩] := by
  unfold g3_0
  obtain ⟨n, hn⟩ := s113 x1 w1
  obtain ⟨p5, hl⟩ := new3 w0
  obtain ⟨xs, e0⟩ : ∃ l, g5_0 x0 = l := ⟨_, rfl⟩
  obtain ⟨x, e1⟩ : ∃ l, g5_1 x0 = l := ⟨_, rfl⟩
  rw [e0] at hl
  have p6 : P6 xs x := ⟨(show xs.length ≤ 1048576 by omega), (show (xs.length + 1) * 24 ≤ 140737488355328 by omega), trivial⟩
  refine ⟨n + 1 + 1, ?_⟩
  rw [R3]
  split
  · rfl
  split
  · rfl
  rw [R3_3, e0, e1]
  refine ⟨p5, p6, ?_⟩
  by_cases h : g6_1 xs x = 0
  · obtain ⟨a0, a1, a2, a3⟩ := add_law xs x h
    obtain ⟨b1, b2, b3, b4⟩ := test_back a1
    have hlen : ((xs ++ [x]).length : Int) = (xs.length : Int) + 1 := by rw [List.length_append, List.length_singleton]; omega
    have hlast : List.getD (xs ++ [x]) (Int.toNat ((xs.length : Int) + 1 - 1)) ((0 : Int), (0 : Int), (0 : Int), ()) = x := by
      rw [show Int.toNat ((xs.length : Int) + 1 - 1) = xs.length by omega, List.getD_eq_getElem?_getD, List.getElem?_append_right (Nat.le_refl _), Nat.sub_self]
      rfl
    have e9 : eqD (Ty.cons (Ty.int IntKind.i64) (Ty.cons (Ty.int IntKind.i64) (Ty.cons (Ty.int IntKind.i64) Ty.unit))) x x = true := (eqD_eq (by decide)).2 rfl
    rw [if_pos (by rw [h]; rfl), a0, a2, if_neg (by decide), hlen, if_neg (by simp), hlast, e9, if_neg (by decide), b3, if_neg (by decide), b4, e9, if_neg (by decide)]
    exact ⟨b1, b2, by rw [i64_iff]; omega, by rw [i64_iff]; omega, by omega, by omega, hn⟩
  · rw [if_neg (by simpa using h), add_none xs x h, if_neg (by decide)]
    exact hn

def S3 : Am.Spec := { sig := sig3, pre := fun ⟨x0, x1, _⟩ => P3 x0 x1, res := fun ⟨x0, x1, _⟩ => [⟨Ty.bool, g3_0 x0 x1⟩] }
theorem con3 : Contract Tryz.prog 3 S3 := contract_of Tryz.func3 hb3 (Nat.le_of_ble_eq_true (by kernel_rfl)) (fun ⟨x0, x1, _⟩ h hwf K q =>
  let ⟨n, hn⟩ := top3 x0 x1 hwf.1 hwf.2.1
  (snd3 n).1 x0 x1 _ hn K q)

end
end Go.Proofs.YtbkkdnkbgnhodaaGreatDoor

/- The plain law of FnTestDays. -/
set_option linter.unusedVariables false
set_option linter.unusedSimpArgs false
set_option maxRecDepth 100000
namespace Go.Proofs.YtbkkdnkbgnhodaaGreatDoor
open Go Go.Am Go.Proofs

theorem law3 (x0 x1 : List Int) (h0 : Wf (.sl (.int .u8)) x0) (h1 : Wf (.sl (.int .u8)) x1) : P3 x0 x1 ∧ g3_0 x0 x1 = true := ⟨trivial, rfl⟩

end Go.Proofs.YtbkkdnkbgnhodaaGreatDoor
