/- Several texts in one: the functions that this law reaches, and their laws. -/
import Derived.Test.YtohojjcoikkmcaaZ3A
import Derived.Test.YtohojjcoikkmcaaZ3B
import Derived.Test.YtohojjcoikkmcaaZ3C
import Derived.Test.YtohojjcoikkmcaaZ3D
import Derived.Deep.LoopGhost
import Derived.Deep.RegionLaw
import Derived.Deep.AppendSrc
import Derived.Lib.SliceRun
import Derived.WalkKit
import Derived.Lib.JoinLaws
import Derived.Lib.AppendZeros
import Derived.Lib.AppendZerosOnto
import Derived.Lib.Overlaps
import Derived.Laws.Externs
import Derived.Laws.IdiomCopy
import Derived.Lib.Walk
import Derived.Shelf.RegionOpenPlain
import Derived.Lib.IndexAny
import Derived.Lib.IndexMore

/- Function 18 (impl.blockAt): its runs between cut points. Written by a program of this repo (gen). -/
set_option linter.unusedVariables false
set_option linter.unusedSimpArgs false
set_option maxRecDepth 100000
namespace Go.Proofs.Ytohojjcoikkmcaa
open Go Go.Am Go.Proofs
noncomputable section
def ext18 : Ext := [(30, S30c26)]
theorem call18_30 : Callable Try.prog 30 := ⟨Try.f30, Try.func30, by kernel_rfl, by kernel_rfl⟩
theorem ext18Ok : ExtOk Try.prog ext18 := ⟨⟨call18_30, con30c26⟩, trivial⟩

noncomputable def b18 : Code := bodyOf Try.f18
theorem hb18 : Try.f18.body = some b18 := by kernel_rfl
def sig18 : List AT := [AT.v (Ty.sl (Ty.cons Ty.str (Ty.cons Ty.str (Ty.cons Ty.str Ty.unit)))), AT.v (Ty.cons Ty.str (Ty.cons Ty.str (Ty.cons Ty.str Ty.unit)))]
def tys18 : List Ty := [Ty.int IntKind.i64, Ty.bool]
def kds18 : List RK := []
def oks18 : List AT := owns sig18
def P18 (x0 : List (ByteArray × ByteArray × ByteArray × Unit)) (x1 : ByteArray × ByteArray × ByteArray × Unit) : Prop := ((P30c26 x0 x1) ∧ True)
def g18_0 (x0 : List (ByteArray × ByteArray × ByteArray × Unit)) (x1 : ByteArray × ByteArray × ByteArray × Unit) : Int := g30c26_0 x0 x1
def g18_1 (x0 : List (ByteArray × ByteArray × ByteArray × Unit)) (x1 : ByteArray × ByteArray × ByteArray × Unit) : Bool := g30c26_1 x0 x1
theorem p18_0 (x0 : List (ByteArray × ByteArray × ByteArray × Unit)) (x1 : ByteArray × ByteArray × ByteArray × Unit) : runF tab ext18 false 11 [] 2000 [] oks18 kds18 tys18 Try.f18.results [] [.code b18] (entE 0 0 sig18 (x0, x1, ())) (entL sig18 (x0, x1, ())) = some ([Dyn.mk (Ty.int IntKind.i64) (g30c26_0 x0 x1), Dyn.mk Ty.bool (g30c26_1 x0 x1)], [], [P30c26 x0 x1]) := by kernel_rfl
theorem at18 (x0 : List (ByteArray × ByteArray × ByteArray × Unit)) (x1 : ByteArray × ByteArray × ByteArray × Unit) (h : P18 x0 x1) (K : Ctx) (q : Nat → Value) : AtV Try.prog 18 (PostR kds18 oks18 [⟨Ty.int IntKind.i64, g18_0 x0 x1⟩, ⟨Ty.bool, g18_1 x0 x1⟩] [] [] q K) 11 K q [] [.code b18] (entE 0 0 sig18 (x0, x1, ())) (entL sig18 (x0, x1, ())) := by
  unfold P18 at h
  unfold g18_0 g18_1
  obtain ⟨s0, h⟩ := h
  exact AtV.fin Try.func18 tabOk ext18Ok mixed (p18_0 x0 x1) ⟨s0, trivial⟩

def S18 : Am.Spec := { sig := sig18, pre := fun ⟨x0, x1, _⟩ => P18 x0 x1, res := fun ⟨x0, x1, _⟩ => [⟨Ty.int IntKind.i64, g18_0 x0 x1⟩, ⟨Ty.bool, g18_1 x0 x1⟩], kds := kds18 }
theorem con18 : Contract Try.prog 18 S18 := contract_of Try.func18 hb18 (Nat.le_of_ble_eq_true (by kernel_rfl)) (fun ⟨x0, x1, _⟩ h _ K q => at18 x0 x1 h K q)


end
end Go.Proofs.Ytohojjcoikkmcaa

/- Function 29 (slices.Insert[[]impl.Block,impl.Block]): its contract, off what is known of the library. -/
set_option linter.unusedVariables false
set_option linter.unusedSimpArgs false
set_option maxRecDepth 100000
namespace Go.Proofs.Ytohojjcoikkmcaa
open Go Go.Am Go.Proofs

open Go.RowKit in
theorem wpcp29 {P : Program} (w : World) {o : Oper} {a : Act} {K : Act → World → Prop} {Q : Exit → Act → World → Prop} (d s : Operand) (t t' : TypeId)
    (ho : o.op = .call { callee := .builtin .copy, args := #[d, s], argTypes := #[t, t'] }) (v u : Value) (hd : a.eval d = v) (hs : a.eval s = u) {v' : Value} {w' : World}
    (hr : (Builtin.copy_ #[t, t'] o.type #[v, u]).run P w = .ok v' w') (h : K (a.put o.dst v') w') : o.wp P a w K Q := by
  unfold Oper.wp execOp
  simp only [ho, resolve, invoke, builtin, Sem.run_bind, Sem.run_pure, Result.andThen_ok, List.map_toArray, List.map_cons, List.map_nil, hd, hs, hr]
  exact h

theorem lcp29 {P : Program} (w : World) {ops : Array Oper} {rest : List Oper} {o : Oper} {a : Act} {Q : Exit → Act → World → Prop} (hgd : o.guard = none) (d s : Operand) (t t' : TypeId)
    (ho : o.op = .call { callee := .builtin .copy, args := #[d, s], argTypes := #[t, t'] }) (v u : Value) (hd : a.eval d = v) (hs : a.eval s = u) {v' : Value} {w' : World}
    (hr : (Builtin.copy_ #[t, t'] o.type #[v, u]).run P w = .ok v' w') (h : wpList P ops Q rest (a.put o.dst v') w') : wpList P ops Q (o :: rest) a w :=
  wpList_plain hgd fun _ hK => wpcp29 w d s t t' ho v u hd hs hr (hK _ _ h)

theorem scp29 {P : Program} {ops : Array Oper} {o : Oper} {a : Act} {w : World} {K : Act → World → Prop} {Q : Exit → Act → World → Prop} {E : Prop}
    (hg : o.guard = none) (d x : Operand) (dT sT : TypeId) (hop : o.op = Op.call { callee := Callee.builtin Builtin.copy, args := #[d, x], argTypes := #[dT, sT] })
    (v u : Value) (hd : a.eval d = v) (hx : a.eval x = u) {v' : Value} {w' : World} (hr : (Builtin.copy_ #[dT, sT] o.type #[v, u]).run P w = .ok v' w') (hK : K (a.put o.dst v') w') :
    if Region.wanted o (yielded ops a.tmps) = true then Oper.wp P o a w K Q else E := by
  have hw : Region.wanted o (yielded ops a.tmps) = true := by simp [Region.wanted, hg]
  rw [if_pos hw]
  unfold Oper.wp
  simp [execOp, hop, resolve, invoke, builtin, hd, hx, hr, Result.andThen]
  exact hK

theorem frozen_end29 {w : World} {ys : List (ByteArray × ByteArray × ByteArray × Unit)} {b off cap : Nat} {cur : Array Value} {ty : TypeId} {fz : Nat × Nat} (h : OwnAt w (Ty.cons Ty.str (Ty.cons Ty.str (Ty.cons Ty.str Ty.unit))) ys b off cap cur ty fz) : w.frozen? ⟨b, cur.size, none⟩ = false := by
  have h2 := (h.free.2.resolve_left (by decide)) cur.size (by omega)
  simp only [World.frozen?, h.blk]
  rw [Bool.eq_false_iff]
  intro hh
  simp only [Bool.and_eq_true, decide_eq_true_eq] at hh
  exact h2 hh

theorem info29 : ∃ (i0 : TypeInfo) (z : Value), Try.prog.info? 27 = some i0 ∧ i0.size = 3 ∧ i0.zero = some z ∧ z.cells = (dcells (Ty.cons Ty.str (Ty.cons Ty.str (Ty.cons Ty.str Ty.unit)))).toArray ∧ (Try.prog.info? 27).map (·.size) = some 3 ∧ ∃ by', i0.bytes = by' ∧ by' ≤ 256 ∧ i0.bytes * 1048577 ≤ 140737488355328 := by
  have hinfo : TIOk Try.prog 24 (tabGet tab 24) := tabOk 24
  obtain ⟨_, _, ⟨_, ⟨i0, hi0, hz1, z, hz0, hzs, hzv⟩⟩, hby⟩ := hinfo
  rw [hi0] at hby
  simp only [Option.map_some, Option.some.injEq] at hby
  refine ⟨i0, z, hi0, hz1, hz0, Array.toList_inj.1 (by rw [hzs]), by rw [hi0]; exact congrArg some hz1, _, rfl, ?_, ?_⟩
  · rw [hby]; decide
  · rw [hby]; decide

open Go.RowKit in
set_option maxHeartbeats 8000000 in
theorem end29 (w : World) (xs ys : List (ByteArray × ByteArray × ByteArray × Unit)) (b off cap : Nat) (cur : Array Value) (ty : TypeId) (fz : Nat × Nat) (vb voff vcap : Nat) (vcur : Array Value) (vty : TypeId) (vfz : Nat × Nat) (hA : OwnAt w (Ty.cons Ty.str (Ty.cons Ty.str (Ty.cons Ty.str Ty.unit))) xs b off cap cur ty fz) (hB : OwnAt w (Ty.cons Ty.str (Ty.cons Ty.str (Ty.cons Ty.str Ty.unit))) ys vb voff vcap vcur vty vfz) (h1 : ys.length = 1) (hvb : vb ≠ b) (hroom : xs.length + 1 ≤ cap) :
      Calls Try.prog 29 #[.slice (some ⟨b, off, none⟩) xs.length cap, .int .i64 xs.length, .slice (some ⟨vb, voff, none⟩) 1 vcap] w fun r w' => r = .returned (.slice (some ⟨b, off, none⟩) (xs.length + 1) cap) ∧
        ∃ q, w' = (w.drewN q).setCells b (off + xs.length * Ty.size (Ty.cons Ty.str (Ty.cons Ty.str (Ty.cons Ty.str Ty.unit)))) (fcs (Ty.cons Ty.str (Ty.cons Ty.str (Ty.cons Ty.str Ty.unit))) ys) := by
  have mixed := mixed
  obtain ⟨i0, z, hi0, hz1, hz0, hzc, hzm, _⟩ := info29
  have hlen := hA.len
  have hcapm := hA.capm
  have hvl : (fcs (Ty.cons Ty.str (Ty.cons Ty.str (Ty.cons Ty.str Ty.unit))) ys).length = 1 * 3 := by
    have := fcs_length (t := (Ty.cons Ty.str (Ty.cons Ty.str (Ty.cons Ty.str Ty.unit)))) rfl (xs := ys) hB.wf
    rw [this, h1]; rfl
  obtain ⟨vs, hvs⟩ : ∃ vs, vs = fcs (Ty.cons Ty.str (Ty.cons Ty.str (Ty.cons Ty.str Ty.unit))) ys := ⟨_, rfl⟩
  have hvc : ∀ (j : Nat) (u : Value), vs[j]? = some u → w.cell? ⟨vb, voff + j, none⟩ = some u := fun j u hj => hB.cell j u (by rw [← hvs]; exact hj)
  rw [← hvs] at hvl ⊢
  have hle : (xs.length + 1) * 3 ≤ cap * 3 := Nat.mul_le_mul_right _ hroom
  have s2 : ∀ u ∈ vs, u.oneCell' = true := by rw [hvs]; exact fcells_ones rfl _
  have hsrc : Src Try.prog i0.size 24 (.slice (some ⟨vb, voff, none⟩) 1 vcap) 1 vs w := by
    rw [hz1]
    exact Src.ofSlice w Try.underlying24 ⟨vb, voff, none⟩ 1 vcap vs hvl (fun j u hj => by rw [Addr.add_lit]; exact hvc j u hj) s2
  have A0 : ∀ k, k < cap * 3 → (w.cell? ⟨b, off + k, none⟩).isSome = true ∧ w.frozen? ⟨b, off + k, none⟩ = false := fun k hk => ⟨hA.some' k hk, hA.unfrozen k hk⟩
  have r1 : ∀ j, j < vs.length → (w.cell? ⟨b, off + xs.length * i0.size + j, none⟩).isSome = true := fun j hj => by rw [hz1, Nat.add_assoc]; exact (A0 _ (by omega)).1
  have r2 : ∀ j, j < vs.length → w.frozen? ⟨b, off + xs.length * i0.size + j, none⟩ = false := fun j hj => by rw [hz1, Nat.add_assoc]; exact (A0 _ (by omega)).2
  have R1 : Aside (∀ j, j < vs.length → (w.cell? ⟨b, off + xs.length * i0.size + j, none⟩).isSome = true) := r1
  have R2 : Aside (∀ j, j < vs.length → w.frozen? ⟨b, off + xs.length * i0.size + j, none⟩ = false) := r2
  have N : Aside (i0.size = 3) := hz1
  clear r1 r2 A0 s2 hvc hvs hzc hz0 hzm hA hB
  go_enter Try.func29, Try.ntmps29
  go_wp2_with (at_builtin; refine wpList_append_room_src _ rfl _ _ 24 24 rfl 27 i0 Try.underlying24 hi0 b off xs.length cap rfl _ rfl 1 vs hsrc hroom R1.out R2.out ?_)
  go_ret
  exact ⟨rfl, 0, rfl⟩

open Go.RowKit in
set_option maxHeartbeats 8000000 in
theorem last29 (w : World) (xs ys : List (ByteArray × ByteArray × ByteArray × Unit)) (ad : Option Addr) (cap : Nat) (vb voff vcap : Nat) (vcur : Array Value) (vty : TypeId) (vfz : Nat × Nat) (hw : ∀ x ∈ xs, Wf (Ty.cons Ty.str (Ty.cons Ty.str (Ty.cons Ty.str Ty.unit))) x) (hlen : xs.length ≤ cap) (hnil : ad = none → xs = []) (hcs : ∀ a, ad = some a → ∀ (j : Nat) (u : Value), (fcs (Ty.cons Ty.str (Ty.cons Ty.str (Ty.cons Ty.str Ty.unit))) xs)[j]? = some u → w.cell? (a.add j) = some u) (hB : OwnAt w (Ty.cons Ty.str (Ty.cons Ty.str (Ty.cons Ty.str Ty.unit))) ys vb voff vcap vcur vty vfz) (h1 : ys.length = 1) (hroom : cap < xs.length + 1) (hmax : xs.length ≤ 1048576) :
      Calls Try.prog 29 #[.slice ad xs.length cap, .int .i64 xs.length, .slice (some ⟨vb, voff, none⟩) 1 vcap] w fun r w' => ∃ v', r = .returned v' ∧ w'.ownsRow w.heap.size 27 (Ty.size (Ty.cons Ty.str (Ty.cons Ty.str (Ty.cons Ty.str Ty.unit)))) v' (xs.length + 1) (fcs (Ty.cons Ty.str (Ty.cons Ty.str (Ty.cons Ty.str Ty.unit))) (xs ++ ys)) ∧ Below w.heap.size w w' := by
  have mixed := mixed
  obtain ⟨i0, z, hi0, hz1, hz0, hzc, hzm, by', hb1, hb2, hb3⟩ := info29
  have hvl : (fcs (Ty.cons Ty.str (Ty.cons Ty.str (Ty.cons Ty.str Ty.unit))) ys).length = 1 * 3 := by
    have := fcs_length (t := (Ty.cons Ty.str (Ty.cons Ty.str (Ty.cons Ty.str Ty.unit)))) rfl (xs := ys) hB.wf
    rw [this, h1]; rfl
  have hcl : (fcs (Ty.cons Ty.str (Ty.cons Ty.str (Ty.cons Ty.str Ty.unit))) xs).length = xs.length * 3 := fcs_length (t := (Ty.cons Ty.str (Ty.cons Ty.str (Ty.cons Ty.str Ty.unit)))) rfl hw
  obtain ⟨vs, hvs⟩ : ∃ vs, vs = fcs (Ty.cons Ty.str (Ty.cons Ty.str (Ty.cons Ty.str Ty.unit))) ys := ⟨_, rfl⟩
  obtain ⟨cs, hcss⟩ : ∃ cs, cs = fcs (Ty.cons Ty.str (Ty.cons Ty.str (Ty.cons Ty.str Ty.unit))) xs := ⟨_, rfl⟩
  have hvc : ∀ (j : Nat) (u : Value), vs[j]? = some u → w.cell? ⟨vb, voff + j, none⟩ = some u := fun j u hj => hB.cell j u (by rw [← hvs]; exact hj)
  rw [fcs_append, ← hvs, ← hcss]
  rw [← hvs] at hvl
  rw [← hcss] at hcl hcs
  have s2 : ∀ u ∈ vs, u.oneCell' = true := by rw [hvs]; exact fcells_ones rfl _
  have hsrc : Src Try.prog i0.size 24 (.slice (some ⟨vb, voff, none⟩) 1 vcap) 1 vs w := by
    rw [hz1]
    exact Src.ofSlice w Try.underlying24 ⟨vb, voff, none⟩ 1 vcap vs hvl (fun j u hj => by rw [Addr.add_lit]; exact hvc j u hj) s2
  have hold : (Builtin.firstCells i0.size xs.length (.slice ad xs.length cap)).run Try.prog w.drew = .ok cs.toArray w.drew := by
    rw [hz1]
    cases ad with
    | none =>
      have h0 := hnil rfl
      subst h0
      rw [List.length_eq_zero_iff.1 (show cs.length = 0 by rw [hcl]; simp)]
      exact run_firstCells_none w.drew 3 0 0 cap
    | some a => exact run_firstCells_some w.drew 3 xs.length a xs.length cap cs hcl (fun j v hj => hcs a rfl j v hj)
  have hbig : (xs.length + 1) * i0.bytes ≤ 140737488355328 := by
    have : (xs.length + 1) * i0.bytes ≤ 1048577 * i0.bytes := Nat.mul_le_mul_right _ (by omega)
    rw [Nat.mul_comm 1048577] at this
    omega
  have hrun : ∀ ty, (Builtin.append_ #[24, 24] ty #[.slice ad xs.length cap, .slice (some ⟨vb, voff, none⟩) 1 vcap]).run Try.prog w = _ := fun ty =>
    run_append_grow_src w 24 24 ty 27 i0 z Try.underlying24 hi0 hz0 ad xs.length cap cs hold _ 1 vs hsrc hroom (by omega) (growslice_fits hroom hbig)
  have hge := grownCap_ge w (xs.length + 1) cap 27
  have hgm := grownCap_le_maxLen w (xs.length + 1) cap 27 (by unfold maxLen; omega)
  have fin : ∀ G, xs.length + 1 ≤ G → G ≤ maxLen → (w.drew.alloc (.cells ((cs ++ vs).toArray ++ Builtin.zeroCells z.cells (G - (xs.length + 1))) 27)).ownsRow w.heap.size 27 (Ty.size (Ty.cons Ty.str (Ty.cons Ty.str (Ty.cons Ty.str Ty.unit)))) (.slice (some ⟨w.heap.size, 0, none⟩) (xs.length + 1) G) (xs.length + 1) (cs ++ vs) ∧ Below w.heap.size w (w.drew.alloc (.cells ((cs ++ vs).toArray ++ Builtin.zeroCells z.cells (G - (xs.length + 1))) 27)) := fun G g1 g2 => by
    have el : (cs ++ vs).length = (xs.length + 1) * 3 := by rw [List.length_append, hcl, hvl, Nat.add_mul]
    refine ⟨⟨el, .inr ⟨w.heap.size, G, _, rfl, Nat.le_refl _, heap_alloc_new w.drew _, g1, g2, ?_, ?_⟩⟩, ((Below.refl w.heap.size w).drew).alloc (Nat.le_refl _) _⟩
    · have hz : (Builtin.zeroCells z.cells (G - (xs.length + 1))).size = (G - (xs.length + 1)) * 3 := by
        rw [← Array.length_toList, hzc, zeroCells_k]; simp [dcells]
      rw [Array.size_append, List.size_toArray, el, hz]
      show _ = G * 3
      rw [← Nat.add_mul]; congr 1; omega
    · rw [Array.toList_append]
      have : ((cs ++ vs).toArray.toList ++ (Builtin.zeroCells z.cells (G - (xs.length + 1))).toList).take ((cs ++ vs).length) = cs ++ vs := List.take_left
      rw [el] at this
      exact this
  obtain ⟨G, hG⟩ : ∃ G, G = grownCap w (xs.length + 1) cap 27 := ⟨_, rfl⟩
  rw [← hG] at hrun hge hgm
  have fin := fin G hge hgm
  have F : Aside (_ ∧ _) := fin
  obtain ⟨ROW, hROW⟩ : ∃ ROW, ROW = (cs ++ vs).toArray ++ Builtin.zeroCells z.cells (G - (xs.length + 1)) := ⟨_, rfl⟩
  rw [← hROW] at hrun F
  clear fin hold hROW hG hcs hsrc hvc hvs hcss s2 hz0 hzc hzm hB
  go_enter Try.func29, Try.ntmps29
  cases ad with
  | none =>
    have h0 := hnil rfl
    subst h0
    go_wp2_with (at_builtin; refine Lib.wpList_append_run _ rfl _ _ _ _ rfl _ _ rfl rfl _ _ (hrun _) ?_)
    go_ret
    exact ⟨_, rfl, F.out.1, F.out.2⟩
  | some a =>
    obtain ⟨ab, ao, asp⟩ := a
    go_wp2_with (at_builtin; refine Lib.wpList_append_run _ rfl _ _ _ _ rfl _ _ rfl rfl _ _ (hrun _) ?_)
    all_goals (go_ret; exact ⟨_, rfl, F.out.1, F.out.2⟩)

open Go.RowKit in
set_option maxHeartbeats 8000000 in
theorem shift29 (w : World) (xs ys : List (ByteArray × ByteArray × ByteArray × Unit)) (b off cap : Nat) (cur : Array Value) (ty : TypeId) (fz : Nat × Nat) (vb voff vcap : Nat) (vcur : Array Value) (vty : TypeId) (vfz : Nat × Nat) (i : Nat) (hA : OwnAt w (Ty.cons Ty.str (Ty.cons Ty.str (Ty.cons Ty.str Ty.unit))) xs b off cap cur ty fz) (hB : OwnAt w (Ty.cons Ty.str (Ty.cons Ty.str (Ty.cons Ty.str Ty.unit))) ys vb voff vcap vcur vty vfz) (h1 : ys.length = 1) (hvb : vb ≠ b) (hi : i < xs.length) (hroom : xs.length + 1 ≤ cap) :
      Calls Try.prog 29 #[.slice (some ⟨b, off, none⟩) xs.length cap, .int .i64 i, .slice (some ⟨vb, voff, none⟩) 1 vcap] w fun r w' => r = .returned (.slice (some ⟨b, off, none⟩) (xs.length + 1) cap) ∧
        ∃ q, w' = ((w.drewN q).setCells b (off + (i + 1) * Ty.size (Ty.cons Ty.str (Ty.cons Ty.str (Ty.cons Ty.str Ty.unit)))) (fcs (Ty.cons Ty.str (Ty.cons Ty.str (Ty.cons Ty.str Ty.unit))) (xs.drop i))).setCells b (off + i * Ty.size (Ty.cons Ty.str (Ty.cons Ty.str (Ty.cons Ty.str Ty.unit)))) (fcs (Ty.cons Ty.str (Ty.cons Ty.str (Ty.cons Ty.str Ty.unit))) ys) := by
  have mixed := mixed
  obtain ⟨i0, z, hi0, hz1, hz0, hzc, hzm, _⟩ := info29
  have hlen := hA.len
  have hcapm := hA.capm
  have hvl : (fcs (Ty.cons Ty.str (Ty.cons Ty.str (Ty.cons Ty.str Ty.unit))) ys).length = 1 * 3 := by
    have := fcs_length (t := (Ty.cons Ty.str (Ty.cons Ty.str (Ty.cons Ty.str Ty.unit)))) rfl (xs := ys) hB.wf
    rw [this, h1]; rfl
  have hdl : (fcs (Ty.cons Ty.str (Ty.cons Ty.str (Ty.cons Ty.str Ty.unit))) (xs.drop i)).length = (xs.length - i) * 3 := by
    have := fcs_length (t := (Ty.cons Ty.str (Ty.cons Ty.str (Ty.cons Ty.str Ty.unit)))) rfl (xs := xs.drop i) (fun x hx => hA.wf x (List.mem_of_mem_drop hx))
    rw [this, List.length_drop]; rfl
  have hdc : ∀ (k : Nat) (u : Value), (fcs (Ty.cons Ty.str (Ty.cons Ty.str (Ty.cons Ty.str Ty.unit))) (xs.drop i))[k]? = some u → w.cell? ⟨b, off + i * 3 + k, none⟩ = some u := fun k u hk => by
    have := hA.cell _ _ (fcs_drop rfl hA.wf i (by omega) k u hk)
    rwa [Nat.add_assoc]
  obtain ⟨vs, hvs⟩ : ∃ vs, vs = fcs (Ty.cons Ty.str (Ty.cons Ty.str (Ty.cons Ty.str Ty.unit))) ys := ⟨_, rfl⟩
  obtain ⟨ds, hds⟩ : ∃ ds, ds = fcs (Ty.cons Ty.str (Ty.cons Ty.str (Ty.cons Ty.str Ty.unit))) (xs.drop i) := ⟨_, rfl⟩
  have hvc : ∀ (j : Nat) (u : Value), vs[j]? = some u → w.cell? ⟨vb, voff + j, none⟩ = some u := fun j u hj => hB.cell j u (by rw [← hvs]; exact hj)
  have s1 : ∀ u ∈ ds, u.oneCell' = true := by rw [hds]; exact fcells_ones rfl _
  have s2 : ∀ u ∈ vs, u.oneCell' = true := by rw [hvs]; exact fcells_ones rfl _
  rw [← hvs] at hvl ⊢
  rw [← hds] at hdl hdc ⊢
  have hle : (xs.length + 1) * 3 ≤ cap * 3 := Nat.mul_le_mul_right _ hroom
  have A0 : ∀ k, k < cap * 3 → (w.cell? ⟨b, off + k, none⟩).isSome = true ∧ w.frozen? ⟨b, off + k, none⟩ = false := fun k hk => ⟨hA.some' k hk, hA.unfrozen k hk⟩
  have hsb : w.shape? b = some (ty, cur.size) := by simp only [World.shape?, hA.blk]
  have hsa : w.shape? vb = some (vty, vcur.size) := by simp only [World.shape?, hB.blk]
  have hkB : cur.size ≠ 0 := by have := hA.fit; simp only [show Ty.size (Ty.cons Ty.str (Ty.cons Ty.str (Ty.cons Ty.str Ty.unit))) = 3 from rfl] at this; omega
  have hfa : w.frozen? ⟨vb, voff, none⟩ = false := by have := hB.unfrozen 0 (by have := hB.len; simp only [show Ty.size (Ty.cons Ty.str (Ty.cons Ty.str (Ty.cons Ty.str Ty.unit))) = 3 from rfl]; omega); exact this
  have hfe : w.frozen? ⟨vb, vcur.size, none⟩ = false := frozen_end29 hB
  have hov : ∀ lb cb, (callFunc 43 #[.slice (some ⟨vb, voff, none⟩) 1 vcap, .slice (some ⟨b, off + (i + 1) * 3, none⟩) lb cb]).run Try.prog w = .ok (.value (.bool false)) w := fun lb cb => by
    rw [run_callFunc_extern Try.func43 (by kernel_rfl) (by kernel_rfl) (by kernel_rfl) (e := Extern.SlicesOverlaps.overlaps #[24, 24] #[4]) (by kernel_rfl),
      Lib.run_overlaps_apart w 24 4 27 Try.underlying24 3 (fun w => by simp [Go.sizeOf, typeInfo, hi0, hz1]) ⟨vb, voff, none⟩ ⟨b, off + (i + 1) * 3, none⟩ 1 vcap lb cb hvb vty ty vcur.size cur.size hsa hsb hkB hfa hfe]
    rfl
  have e1 : (i + 1) * 3 + (xs.length - i) * 3 = xs.length * 3 + 3 := by rw [← Nat.add_mul, ← Nat.succ_mul]; congr 1; omega
  have e2 : (i + 1) * 3 = i * 3 + 3 := Nat.succ_mul _ _
  have hcp1 : ∀ ty dc sc, (Builtin.copy_ #[24, 24] ty #[.slice (some ⟨b, off + (i + 1) * 3, none⟩) (xs.length - i) dc, .slice (some ⟨b, off + i * 3, none⟩) (xs.length + 1 - i) sc]).run Try.prog w.drew = .ok (goInt (Nat.min (xs.length + 1 - i) (xs.length - i))) (w.drew.setCells b (off + (i + 1) * 3) ds) := fun ty dc sc =>
    run_copy_k w.drew _ _ ty 27 3 b (off + (i + 1) * 3) (xs.length - i) dc ⟨b, off + i * 3, none⟩ (xs.length + 1 - i) sc ds Try.underlying24 hzm (by rw [hdl]; congr 1; simp only [Nat.min_def]; split <;> omega)
      (fun j v hj => by rw [Addr.add_lit]; exact hdc j v hj)
      (fun j hj => by rw [Nat.add_assoc]; exact (A0 _ (by omega)).1) (fun j hj => by rw [Nat.add_assoc]; exact (A0 _ (by omega)).2) s1
  obtain ⟨W1, hW1⟩ : ∃ W1, W1 = w.drew.setCells b (off + (i + 1) * 3) ds := ⟨_, rfl⟩
  have hcp2 : ∀ (W : World), (∀ x, W.cell? x = W1.cell? x) → (∀ x, W.frozen? x = W1.frozen? x) → ∀ ty dc, (Builtin.copy_ #[24, 24] ty #[.slice (some ⟨b, off + i * 3, none⟩) (xs.length + 1 - i) dc, .slice (some ⟨vb, voff, none⟩) 1 vcap]).run Try.prog W = .ok (goInt (Nat.min 1 (xs.length + 1 - i))) (W.setCells b (off + i * 3) vs) := fun W hWc hWf ty dc =>
    run_copy_k W _ _ ty 27 3 b (off + i * 3) (xs.length + 1 - i) dc ⟨vb, voff, none⟩ 1 vcap vs Try.underlying24 hzm (by rw [hvl]; congr 1; simp only [Nat.min_def]; split <;> omega)
      (fun j v hj => by
        rw [Addr.add_lit, hWc, hW1, World.cell?_setCells_out b _ _ _ _ (fun h _ => absurd h hvb)]
        exact hvc j v hj)
      (fun j hj => by rw [hWc, hW1]; exact isSome_put _ _ _ _ _ (by rw [Nat.add_assoc]; exact (A0 _ (by omega)).1)) (fun j hj => by rw [hWf, hW1, World.frozen?_setCells, Nat.add_assoc]; exact (A0 _ (by omega)).2) s2
  have N : Aside (W1 = w.drew.setCells b (off + (i + 1) * 3) ds) := hW1
  rw [← hW1] at hcp1
  have hz2 : ¬ ((i : Int) = (xs.length : Int)) := by omega
  have hw1 : IntKind.i64.wrap ((i : Int) + 1) = (i : Int) + 1 := by unfold maxLen at hcapm; rw [IntKind.wrap_i64]; omega
  have hw2 : IntKind.i64.wrap ((xs.length : Int) + 1) = (xs.length : Int) + 1 := by unfold maxLen at hcapm; rw [IntKind.wrap_i64]; omega
  have hb1 : (0 : Int) ≤ (i : Int) + 1 := by omega
  have hin : i ≤ xs.length := by omega
  have htn : ((i : Int) + 1).toNat = i + 1 := by omega
  have htn2 : ((xs.length : Int) + 1).toNat = xs.length + 1 := by omega
  have hb2 : ¬ (cap = i + 1) := by omega
  have hb3 : (i : Int) ≤ (xs.length : Int) + 1 := by omega
  have hb4 : ¬ (cap = i) := by omega
  have hb5 : ¬ ((cap : Int) < (xs.length : Int) + 1) := by omega
  clear hW1 s1 s2 hvc hvs hds hdc hdl hvl A0 hsb hsa hkB hfa hfe hzc hz0 hA hB e1 e2
  go_enter Try.func29, Try.ntmps29
  go_wp2_with (simp only [hov])
  go_region_law_o (refine scp29 rfl _ _ 24 24 rfl _ _ (by simp [Act.eval, Act.put]) (by simp [Act.eval, Act.put]) (hcp1 _ _ _) ?_)
  go_wp2_with (at_builtin; refine lcp29 _ rfl _ _ 24 24 rfl _ _ rfl rfl (hcp2 _ (fun _ => rfl) (fun _ => rfl) _ _) ?_)
  go_ret
  exact ⟨rfl, 1, by rw [N.out]; rfl⟩

open Go.RowKit in
set_option maxHeartbeats 8000000 in
theorem grow29 (w : World) (xs ys : List (ByteArray × ByteArray × ByteArray × Unit)) (b off cap : Nat) (cur : Array Value) (ty : TypeId) (fz : Nat × Nat) (vb voff vcap : Nat) (vcur : Array Value) (vty : TypeId) (vfz : Nat × Nat) (i : Nat) (hA : OwnAt w (Ty.cons Ty.str (Ty.cons Ty.str (Ty.cons Ty.str Ty.unit))) xs b off cap cur ty fz) (hB : OwnAt w (Ty.cons Ty.str (Ty.cons Ty.str (Ty.cons Ty.str Ty.unit))) ys vb voff vcap vcur vty vfz) (h1 : ys.length = 1) (hvb : vb ≠ b) (hi : i < xs.length) (hroom : cap < xs.length + 1) (hmax : xs.length ≤ 1048576) :
      Calls Try.prog 29 #[.slice (some ⟨b, off, none⟩) xs.length cap, .int .i64 i, .slice (some ⟨vb, voff, none⟩) 1 vcap] w fun r w' => ∃ v', r = .returned v' ∧ w'.ownsRow w.heap.size 27 (Ty.size (Ty.cons Ty.str (Ty.cons Ty.str (Ty.cons Ty.str Ty.unit)))) v' (xs.length + 1) (fcs (Ty.cons Ty.str (Ty.cons Ty.str (Ty.cons Ty.str Ty.unit))) (xs.take i ++ (ys ++ xs.drop i))) ∧ Below w.heap.size w w' := by
  have mixed := mixed
  obtain ⟨i0, z, hi0, hz1, hz0, hzc, hzm, by', hb1, hb2, hb3⟩ := info29
  have hlen := hA.len
  have hcapm := hA.capm
  have hvl : (fcs (Ty.cons Ty.str (Ty.cons Ty.str (Ty.cons Ty.str Ty.unit))) ys).length = 1 * 3 := by
    have := fcs_length (t := (Ty.cons Ty.str (Ty.cons Ty.str (Ty.cons Ty.str Ty.unit)))) rfl (xs := ys) hB.wf
    rw [this, h1]; rfl
  have hdl : (fcs (Ty.cons Ty.str (Ty.cons Ty.str (Ty.cons Ty.str Ty.unit))) (xs.drop i)).length = (xs.length - i) * 3 := by
    have := fcs_length (t := (Ty.cons Ty.str (Ty.cons Ty.str (Ty.cons Ty.str Ty.unit)))) rfl (xs := xs.drop i) (fun x hx => hA.wf x (List.mem_of_mem_drop hx))
    rw [this, List.length_drop]; rfl
  have htl : (fcs (Ty.cons Ty.str (Ty.cons Ty.str (Ty.cons Ty.str Ty.unit))) (xs.take i)).length = i * 3 := by
    have := fcs_length (t := (Ty.cons Ty.str (Ty.cons Ty.str (Ty.cons Ty.str Ty.unit)))) rfl (xs := xs.take i) (fun x hx => hA.wf x (List.mem_of_mem_take hx))
    rw [this, List.length_take, Nat.min_eq_left (by omega)]; rfl
  have hdc : ∀ (k : Nat) (u : Value), (fcs (Ty.cons Ty.str (Ty.cons Ty.str (Ty.cons Ty.str Ty.unit))) (xs.drop i))[k]? = some u → w.cell? ⟨b, off + i * 3 + k, none⟩ = some u := fun k u hk => by
    have := hA.cell _ _ (fcs_drop rfl hA.wf i (by omega) k u hk)
    rwa [Nat.add_assoc]
  have htc : ∀ (k : Nat) (u : Value), (fcs (Ty.cons Ty.str (Ty.cons Ty.str (Ty.cons Ty.str Ty.unit))) (xs.take i))[k]? = some u → w.cell? ⟨b, off + k, none⟩ = some u := fun k u hk => hA.cell _ _ (fcs_take rfl hA.wf i k u hk)
  have hbw := hA.lt
  have hvw := hB.lt
  obtain ⟨vs, hvs⟩ : ∃ vs, vs = fcs (Ty.cons Ty.str (Ty.cons Ty.str (Ty.cons Ty.str Ty.unit))) ys := ⟨_, rfl⟩
  obtain ⟨ds, hds⟩ : ∃ ds, ds = fcs (Ty.cons Ty.str (Ty.cons Ty.str (Ty.cons Ty.str Ty.unit))) (xs.drop i) := ⟨_, rfl⟩
  obtain ⟨ts, hts⟩ : ∃ ts, ts = fcs (Ty.cons Ty.str (Ty.cons Ty.str (Ty.cons Ty.str Ty.unit))) (xs.take i) := ⟨_, rfl⟩
  have hvc : ∀ (j : Nat) (u : Value), vs[j]? = some u → w.cell? ⟨vb, voff + j, none⟩ = some u := fun j u hj => hB.cell j u (by rw [← hvs]; exact hj)
  have s1 : ∀ u ∈ ds, u.oneCell' = true := by rw [hds]; exact fcells_ones rfl _
  have s2 : ∀ u ∈ vs, u.oneCell' = true := by rw [hvs]; exact fcells_ones rfl _
  rw [fcs_append, fcs_append, ← hvs, ← hds, ← hts]
  rw [← hvs] at hvl
  rw [← hds] at hdl hdc
  rw [← hts] at htl htc
  have hbig : (xs.length + 1) * i0.bytes ≤ 140737488355328 := by
    have : (xs.length + 1) * i0.bytes ≤ 1048577 * i0.bytes := Nat.mul_le_mul_right _ (by omega)
    rw [Nat.mul_comm 1048577] at this
    omega
  have hkk : (xs.length : Int) + 1 - (i : Int) = ((xs.length + 1 - i : Nat) : Int) := by omega
  have hik : i + (xs.length + 1 - i) = xs.length + 1 := by omega
  have hold : (Builtin.firstCells i0.size i (.slice (some ⟨b, off, none⟩) i cap)).run Try.prog w.drew = .ok ts.toArray w.drew := by
    rw [hz1]
    exact run_firstCells_some w.drew 3 i ⟨b, off, none⟩ i cap ts htl (fun j v hj => by rw [Addr.add_lit]; exact htc j v hj)
  have h48 : (xs.length + 1 - i) * i0.bytes ≤ 281474976710656 := by
    have : (xs.length + 1 - i) * i0.bytes ≤ (xs.length + 1) * i0.bytes := Nat.mul_le_mul_right _ (by omega)
    omega
  have hrz : ∀ ty, (Builtin.append_ #[24, 3] ty #[.slice (some ⟨b, off, none⟩) i cap, .int .i64 ((xs.length : Int) + 1 - (i : Int))]).run Try.prog w =
      .ok (.slice (some ⟨w.heap.size, 0, none⟩) (xs.length + 1) (grownCap w (xs.length + 1) cap 27)) (w.drew.alloc (.cells (ts.toArray ++ Builtin.zeroCells z.cells (xs.length + 1 - i) ++ Builtin.zeroCells z.cells (grownCap w (xs.length + 1) cap 27 - (xs.length + 1))) 27)) := fun ty => by
    have h := Lib.run_append_grow_zeros w 24 3 ty 27 i0 z .i64 .i64 Try.underlying24 Try.underlying3 hi0 hz0 (some ⟨b, off, none⟩) i cap ts hold (xs.length + 1 - i) (by omega) (by omega) (by omega) (by omega) h48 (by rw [hik]; exact growslice_fits hroom hbig)
    rw [hik] at h
    rw [hkk]
    exact h
  have hge := grownCap_ge w (xs.length + 1) cap 27
  have hgm := grownCap_le_maxLen w (xs.length + 1) cap 27 (by unfold maxLen; omega)
  obtain ⟨G, hG⟩ : ∃ G, G = grownCap w (xs.length + 1) cap 27 := ⟨_, rfl⟩
  rw [← hG] at hrz hge hgm
  obtain ⟨ROW, hROW⟩ : ∃ ROW : Array Value, ROW = ts.toArray ++ Builtin.zeroCells z.cells (xs.length + 1 - i) ++ Builtin.zeroCells z.cells (G - (xs.length + 1)) := ⟨_, rfl⟩
  rw [← hROW] at hrz
  have hzs : ∀ k, (Builtin.zeroCells z.cells k).size = k * 3 := fun k => by
    rw [← Array.length_toList, hzc, zeroCells_k]; simp [dcells]
  have hRs : ROW.size = G * 3 := by
    rw [hROW, Array.size_append, Array.size_append, List.size_toArray, htl, hzs, hzs, ← Nat.add_mul, hik, ← Nat.add_mul]
    congr 1; omega
  have hRt : ∀ (k : Nat) (u : Value), ts[k]? = some u → ROW[k]? = some u := fun k u hk => by
    have hlt := (List.getElem?_eq_some_iff.1 hk).1
    rw [hROW, Array.append_assoc, Array.getElem?_append_left (by simpa using hlt)]
    simpa using hk
  have hmul : (xs.length + 1) * 3 ≤ G * 3 := Nat.mul_le_mul_right _ hge
  obtain ⟨W1, hW1⟩ : ∃ W1, W1 = w.drew.alloc (.cells ROW 27) := ⟨_, rfl⟩
  rw [← hW1] at hrz
  have hblk : W1.heap[w.heap.size]? = some (.cells ROW 27 (0, 0)) := by rw [hW1]; exact heap_alloc_new w.drew _
  have hN : ∀ j, j < G * 3 → (W1.cell? ⟨w.heap.size, j, none⟩).isSome = true := fun j hj => by
    simp only [World.cell?, hblk]; rw [Array.getElem?_eq_getElem (by omega)]; rfl
  have hNf : ∀ j, W1.frozen? ⟨w.heap.size, j, none⟩ = false := fun j => by
    simp only [World.frozen?, hblk]; simp
  have hOld : ∀ k, k < w.heap.size → W1.heap[k]? = w.heap[k]? := fun k hk => by rw [hW1]; exact heap_alloc_old w.drew _ hk
  have hOb : ∀ j v, w.cell? ⟨b, j, none⟩ = some v → W1.cell? ⟨b, j, none⟩ = some v := fun j v h => by simp only [World.cell?] at h ⊢; rw [hOld b hbw]; exact h
  have hOv : ∀ j v, w.cell? ⟨vb, j, none⟩ = some v → W1.cell? ⟨vb, j, none⟩ = some v := fun j v h => by simp only [World.cell?] at h ⊢; rw [hOld vb hvw]; exact h
  have hbN : b ≠ w.heap.size := by omega
  have e2 : (i + 1) * 3 = i * 3 + 3 := Nat.succ_mul _ _
  have e1 : (i + 1) * 3 + (xs.length - i) * 3 = (xs.length + 1) * 3 := by rw [← Nat.add_mul]; congr 1; omega
  have hcpA : ∀ (W : World), (∀ x, W.cell? x = W1.cell? x) → (∀ x, W.frozen? x = W1.frozen? x) → ∀ ty dc, (Builtin.copy_ #[24, 24] ty #[.slice (some ⟨w.heap.size, i * 3, none⟩) (xs.length + 1 - i) dc, .slice (some ⟨vb, voff, none⟩) 1 vcap]).run Try.prog W = .ok (goInt (Nat.min 1 (xs.length + 1 - i))) (W.setCells w.heap.size (i * 3) vs) := fun W hWc hWf ty dc =>
    run_copy_k W _ _ ty 27 3 w.heap.size (i * 3) (xs.length + 1 - i) dc ⟨vb, voff, none⟩ 1 vcap vs Try.underlying24 hzm (by rw [hvl]; congr 1; simp only [Nat.min_def]; split <;> omega)
      (fun j v hj => by rw [Addr.add_lit, hWc]; exact hOv _ v (hvc j v hj))
      (fun j hj => by rw [hWc]; exact hN _ (by omega)) (fun j hj => by rw [hWf]; exact hNf _) s2
  have hcpB : ∀ (W : World), (∀ x, W.cell? x = (W1.setCells w.heap.size (i * 3) vs).cell? x) → (∀ x, W.frozen? x = (W1.setCells w.heap.size (i * 3) vs).frozen? x) → ∀ ty dc sc, (Builtin.copy_ #[24, 24] ty #[.slice (some ⟨w.heap.size, (i + 1) * 3, none⟩) (xs.length - i) dc, .slice (some ⟨b, off + i * 3, none⟩) (xs.length - i) sc]).run Try.prog W = .ok (goInt (Nat.min (xs.length - i) (xs.length - i))) (W.setCells w.heap.size ((i + 1) * 3) ds) := fun W hWc hWf ty dc sc =>
    run_copy_k W _ _ ty 27 3 w.heap.size ((i + 1) * 3) (xs.length - i) dc ⟨b, off + i * 3, none⟩ (xs.length - i) sc ds Try.underlying24 hzm (by rw [hdl]; congr 1; simp only [Nat.min_def]; split <;> omega)
      (fun j v hj => by
        rw [Addr.add_lit, hWc, World.cell?_setCells_out _ _ _ _ _ (fun h _ => absurd h hbN)]
        exact hOb _ v (hdc j v hj))
      (fun j hj => by rw [hWc]; exact isSome_put _ _ _ _ _ (hN _ (by omega)))
      (fun j hj => by rw [hWf, World.frozen?_setCells]; exact hNf _) s1
  -- what the new row holds at the end
  have fin : ∀ q1 q2 : Nat, (((W1.drewN q1).setCells w.heap.size (i * 3) vs).drewN q2 |>.setCells w.heap.size ((i + 1) * 3) ds).ownsRow w.heap.size 27 (Ty.size (Ty.cons Ty.str (Ty.cons Ty.str (Ty.cons Ty.str Ty.unit)))) (.slice (some ⟨w.heap.size, 0, none⟩) (xs.length + 1) G) (xs.length + 1) (ts ++ (vs ++ ds)) ∧
      Below w.heap.size w (((W1.drewN q1).setCells w.heap.size (i * 3) vs).drewN q2 |>.setCells w.heap.size ((i + 1) * 3) ds) := fun q1 q2 => by
    have el : (ts ++ (vs ++ ds)).length = (xs.length + 1) * 3 := by
      rw [List.length_append, List.length_append, htl, hvl, hdl, ← Nat.add_mul, ← Nat.add_mul]; congr 1; omega
    have l1 : i * 3 + vs.length ≤ ROW.size := by rw [hvl, hRs]; omega
    obtain ⟨c1, g1, g2, g3, g4, g5, g6⟩ := setCells_block vs (show (W1.drewN q1).heap[w.heap.size]? = some (.cells ROW 27 (0, 0)) from hblk) l1
    have l2 : (i + 1) * 3 + ds.length ≤ c1.size := by rw [hdl, g2, hRs]; omega
    obtain ⟨c2, k1, k2, k3, k4, k5, k6⟩ := setCells_block ds (show (((W1.drewN q1).setCells w.heap.size (i * 3) vs).drewN q2).heap[w.heap.size]? = some (.cells c1 27 (0, 0)) from g1) l2
    have kA := setCells_kept vs (show (W1.drewN q1).heap[w.heap.size]? = some (.cells ROW 27 (0, 0)) from hblk) l1
    have kB := setCells_kept ds (show (((W1.drewN q1).setCells w.heap.size (i * 3) vs).drewN q2).heap[w.heap.size]? = some (.cells c1 27 (0, 0)) from g1) l2
    have kAll : Kept [w.heap.size] w (((W1.drewN q1).setCells w.heap.size (i * 3) vs).drewN q2 |>.setCells w.heap.size ((i + 1) * 3) ds) := by
      have k0 : Kept [w.heap.size] w W1 := by rw [hW1]; exact ((Kept.refl _ w).drew).alloc _
      have k1 : Kept [w.heap.size] W1 (W1.drewN q1) := ⟨rfl, rfl, rfl, Nat.le_refl _, fun _ _ _ => rfl⟩
      have k2 : Kept [w.heap.size] ((W1.drewN q1).setCells w.heap.size (i * 3) vs) (((W1.drewN q1).setCells w.heap.size (i * 3) vs).drewN q2) := ⟨rfl, rfl, rfl, Nat.le_refl _, fun _ _ _ => rfl⟩
      exact ((k0.trans k1).trans (kA.trans k2)).trans kB
    refine ⟨⟨el, .inr ⟨w.heap.size, G, c2, rfl, Nat.le_refl _, k1, hge, hgm, by rw [k2, g2, hRs]; rfl, ?_⟩⟩, ⟨kAll.os, kAll.tape, kAll.output, kAll.size, fun k hk => kAll.block k hk (by simp; omega)⟩⟩
    apply List.ext_getElem?
    intro k
    rw [List.getElem?_take]
    by_cases hk : k < (xs.length + 1) * 3
    · rw [if_pos (show k < (xs.length + 1) * Ty.size (Ty.cons Ty.str (Ty.cons Ty.str (Ty.cons Ty.str Ty.unit))) from hk), Array.getElem?_toList]
      have hk' : k < (ts ++ (vs ++ ds)).length := by rw [el]; exact hk
      obtain ⟨u, hu⟩ : ∃ u, (ts ++ (vs ++ ds))[k]? = some u := ⟨_, List.getElem?_eq_getElem hk'⟩
      rw [hu]
      by_cases h1 : k < i * 3
      · rw [List.getElem?_append_left (by omega)] at hu
        rw [k4 _ (.inl (by omega)), g4 _ (.inl (by omega))]
        exact hRt k u hu
      · rw [List.getElem?_append_right (by omega), htl] at hu
        by_cases h2 : k < i * 3 + 3
        · rw [List.getElem?_append_left (by omega)] at hu
          have := g3 _ u hu
          rw [k4 _ (.inl (by omega))]
          rwa [show i * 3 + (k - i * 3) = k by omega] at this
        · rw [List.getElem?_append_right (by omega), hvl] at hu
          have := k3 _ u hu
          rwa [show (i + 1) * 3 + (k - i * 3 - 1 * 3) = k by omega] at this
    · rw [if_neg (show ¬ k < (xs.length + 1) * Ty.size (Ty.cons Ty.str (Ty.cons Ty.str (Ty.cons Ty.str Ty.unit))) from hk), List.getElem?_eq_none (by rw [el]; omega)]
  have F : Aside (∀ q1 q2 : Nat, (((W1.drewN q1).setCells w.heap.size (i * 3) vs).drewN q2 |>.setCells w.heap.size ((i + 1) * 3) ds).ownsRow w.heap.size 27 (Ty.size (Ty.cons Ty.str (Ty.cons Ty.str (Ty.cons Ty.str Ty.unit)))) (.slice (some ⟨w.heap.size, 0, none⟩) (xs.length + 1) G) (xs.length + 1) (ts ++ (vs ++ ds)) ∧
      Below w.heap.size w (((W1.drewN q1).setCells w.heap.size (i * 3) vs).drewN q2 |>.setCells w.heap.size ((i + 1) * 3) ds)) := fin
  subst hW1
  have hE1 : ∀ x, ((w.alloc (.cells ROW 27)).drew).cell? x = (w.drew.alloc (.cells ROW 27)).cell? x := fun x => rfl
  have hE2 : ∀ x, ((w.alloc (.cells ROW 27)).drew).frozen? x = (w.drew.alloc (.cells ROW 27)).frozen? x := fun x => rfl
  have hF1 : ∀ x, (((w.alloc (.cells ROW 27)).drew.setCells w.heap.size (i * 3) vs).drew).cell? x = ((w.drew.alloc (.cells ROW 27)).setCells w.heap.size (i * 3) vs).cell? x := fun x => rfl
  have hF2 : ∀ x, (((w.alloc (.cells ROW 27)).drew.setCells w.heap.size (i * 3) vs).drew).frozen? x = ((w.drew.alloc (.cells ROW 27)).setCells w.heap.size (i * 3) vs).frozen? x := fun x => rfl
  have hz2 : ¬ ((i : Int) = (xs.length : Int)) := by omega
  have hw1 : IntKind.i64.wrap ((i : Int) + 1) = (i : Int) + 1 := by rw [IntKind.wrap_i64]; omega
  have hw2 : IntKind.i64.wrap ((xs.length : Int) + 1) = (xs.length : Int) + 1 := by rw [IntKind.wrap_i64]; omega
  have hw3 : IntKind.i64.wrap ((xs.length : Int) + 1 - (i : Int)) = (xs.length : Int) + 1 - (i : Int) := by rw [IntKind.wrap_i64]; omega
  have hb1 : (0 : Int) ≤ (i : Int) + 1 := by omega
  have hin : i ≤ xs.length := by omega
  have htn : ((i : Int) + 1).toNat = i + 1 := by omega
  have hGi : ¬ (G = i) := by omega
  have hGim : ¬ (G = i + 1) := by omega
  have hci : ¬ (cap = i) := by omega
  have hb3 : (i : Int) ≤ (xs.length : Int) := by omega
  have hb5 : (cap : Int) < (xs.length : Int) + 1 := by omega
  have hG63 : G ≤ 9223372036854775807 := by unfold maxLen at hgm; exact hgm
  clear hkk hik hold hROW hG hRs hRt hzs hN hNf hOld hOb hOv fin s1 s2 hvc hvs hds hts hdc htc hdl htl hvl hzc hz0 hA hB e1 e2 hmul hblk
  go_enter Try.func29, Try.ntmps29
  go_wp2_with (first
    | (at_builtin; refine Lib.wpList_append_run _ rfl _ _ _ _ rfl _ _ rfl rfl _ _ (hrz _) ?_)
    | (at_builtin; refine lcp29 _ rfl _ _ 24 24 rfl _ _ rfl rfl (hcpA _ hE1 hE2 _ _) ?_)
    | (at_builtin; refine lcp29 _ rfl _ _ 24 24 rfl _ _ rfl rfl (hcpB _ (fun _ => rfl) (fun _ => rfl) _ _ _) ?_))
  go_region_law_o (refine scp29 rfl _ _ 24 24 rfl (.slice (some ⟨w.heap.size, (i + 1) * 3, none⟩) (xs.length - i) (G - (i + 1))) (.slice (some ⟨b, off + i * 3, none⟩) (xs.length - i) (cap - i)) (by simp [Act.eval, Act.put]) (by simp [Act.eval, Act.put]) (hcpB _ hF1 hF2 3 (G - (i + 1)) (cap - i)) ?_)
  go_wp2
  go_ret
  exact ⟨_, rfl, (F.out 0 1).1, (F.out 0 1).2⟩

def sig29 : List AT := [AT.own (Ty.cons Ty.str (Ty.cons Ty.str (Ty.cons Ty.str Ty.unit))), AT.v (Ty.int .i64), AT.own (Ty.cons Ty.str (Ty.cons Ty.str (Ty.cons Ty.str Ty.unit)))]
def g29_0 (x0 : List (ByteArray × ByteArray × ByteArray × Unit)) (x1 : Int) (x2 : List (ByteArray × ByteArray × ByteArray × Unit)) : List (ByteArray × ByteArray × ByteArray × Unit) := x0.take x1.toNat ++ (x2 ++ x0.drop x1.toNat)
def P29 (x0 : List (ByteArray × ByteArray × ByteArray × Unit)) (x1 : Int) (x2 : List (ByteArray × ByteArray × ByteArray × Unit)) : Prop := 0 ≤ x1 ∧ x1 ≤ x0.length ∧ x2.length = 1 ∧ x0.length ≤ 1048576
def S29 : Am.Spec := { sig := sig29, pre := fun ⟨x0, x1, x2, _⟩ => P29 x0 x1 x2, upd := fun _ => [none, none], res := fun ⟨x0, x1, x2, _⟩ => [⟨Ty.sl (Ty.cons Ty.str (Ty.cons Ty.str (Ty.cons Ty.str Ty.unit))), g29_0 x0 x1 x2⟩] }
theorem con29 : Contract Try.prog 29 S29 := insert_contract (t := (Ty.cons Ty.str (Ty.cons Ty.str (Ty.cons Ty.str Ty.unit)))) (e := 27) rfl shift29 grow29 end29 last29

end Go.Proofs.Ytohojjcoikkmcaa

/- Function 17 (impl.putBlock): its runs between cut points. Written by a program of this repo (gen). -/
set_option linter.unusedVariables false
set_option linter.unusedSimpArgs false
set_option maxRecDepth 100000
namespace Go.Proofs.Ytohojjcoikkmcaa
open Go Go.Am Go.Proofs
noncomputable section
def ext17 : Ext := [(20, S20), (18, S18), (29, S29)]
theorem call17_20 : Callable Try.prog 20 := ⟨Try.f20, Try.func20, by kernel_rfl, by kernel_rfl⟩
theorem call17_18 : Callable Try.prog 18 := ⟨Try.f18, Try.func18, by kernel_rfl, by kernel_rfl⟩
theorem call17_29 : Callable Try.prog 29 := ⟨Try.f29, Try.func29, by kernel_rfl, by kernel_rfl⟩
theorem ext17Ok : ExtOk Try.prog ext17 := ⟨⟨call17_20, con20⟩, ⟨call17_18, con18⟩, ⟨call17_29, con29⟩, trivial⟩

noncomputable def b17 : Code := bodyOf Try.f17
theorem hb17 : Try.f17.body = some b17 := by kernel_rfl
def sig17 : List AT := [AT.v (Ty.sl (Ty.cons Ty.str (Ty.cons Ty.str (Ty.cons Ty.str Ty.unit)))), AT.v (Ty.cons Ty.str (Ty.cons Ty.str (Ty.cons Ty.str Ty.unit)))]
def tys17 : List Ty := [Ty.sl (Ty.cons Ty.str (Ty.cons Ty.str (Ty.cons Ty.str Ty.unit)))]
def kds17 : List RK := []
def oks17 : List AT := owns sig17
def P17 (x0 : List (ByteArray × ByteArray × ByteArray × Unit)) (x1 : ByteArray × ByteArray × ByteArray × Unit) : Prop := ((P20 x0) ∧ ((P18 (g20_0 x0) x1) ∧ (if (g18_1 (g20_0 x0) x1) = true then ((0 ≤ g18_0 (g20_0 x0) x1) ∧ (g18_0 (g20_0 x0) x1 < (↑(List.length (g20_0 x0)) : Int)) ∧ True) else ((P29 (g20_0 x0) (g18_0 (g20_0 x0) x1) [x1]) ∧ True))))
def g17_0 (x0 : List (ByteArray × ByteArray × ByteArray × Unit)) (x1 : ByteArray × ByteArray × ByteArray × Unit) : List (ByteArray × ByteArray × ByteArray × Unit) := (if (g18_1 (g20_0 x0) x1) = true then List.set (g20_0 x0) (Int.toNat (g18_0 (g20_0 x0) x1)) x1 else g29_0 (g20_0 x0) (g18_0 (g20_0 x0) x1) [x1])
theorem p17_0 (x0 : List (ByteArray × ByteArray × ByteArray × Unit)) (x1 : ByteArray × ByteArray × ByteArray × Unit) : runF tab ext17 false 27 [] 2000 [] oks17 kds17 tys17 Try.f17.results [true] [.code b17] (entE 0 0 sig17 (x0, x1, ())) (entL sig17 (x0, x1, ())) = some ([Dyn.mk (Ty.sl (Ty.cons Ty.str (Ty.cons Ty.str (Ty.cons Ty.str Ty.unit)))) (List.set (g20_0 x0) (Int.toNat (g18_0 (g20_0 x0) x1)) x1)], [], [P20 x0, P18 (g20_0 x0) x1, g18_1 (g20_0 x0) x1 = Bool.true, 0 ≤ g18_0 (g20_0 x0) x1, g18_0 (g20_0 x0) x1 < (↑(List.length (g20_0 x0)) : Int)]) := by kernel_rfl
theorem p17_1 (x0 : List (ByteArray × ByteArray × ByteArray × Unit)) (x1 : ByteArray × ByteArray × ByteArray × Unit) : runF tab ext17 false 27 [] 2000 [] oks17 kds17 tys17 Try.f17.results [false] [.code b17] (entE 0 0 sig17 (x0, x1, ())) (entL sig17 (x0, x1, ())) = some ([Dyn.mk (Ty.sl (Ty.cons Ty.str (Ty.cons Ty.str (Ty.cons Ty.str Ty.unit)))) (g29_0 (g20_0 x0) (g18_0 (g20_0 x0) x1) [x1])], [], [P20 x0, P18 (g20_0 x0) x1, g18_1 (g20_0 x0) x1 = Bool.false, P29 (g20_0 x0) (g18_0 (g20_0 x0) x1) [x1]]) := by kernel_rfl
theorem at17 (x0 : List (ByteArray × ByteArray × ByteArray × Unit)) (x1 : ByteArray × ByteArray × ByteArray × Unit) (h : P17 x0 x1) (K : Ctx) (q : Nat → Value) : AtV Try.prog 17 (PostR kds17 oks17 [⟨Ty.sl (Ty.cons Ty.str (Ty.cons Ty.str (Ty.cons Ty.str Ty.unit))), g17_0 x0 x1⟩] [] [] q K) 27 K q [] [.code b17] (entE 0 0 sig17 (x0, x1, ())) (entL sig17 (x0, x1, ())) := by
  unfold P17 at h
  unfold g17_0
  obtain ⟨s0, h⟩ := h
  obtain ⟨s1, h⟩ := h
  by_cases b0 : (g18_1 (g20_0 x0) x1) = true
  · try simp only [if_pos b0] at h ⊢
    obtain ⟨s2, s3, h⟩ := h
    exact AtV.fin Try.func17 tabOk ext17Ok mixed (p17_0 x0 x1) ⟨s0, s1, b0, s2, s3, trivial⟩
  · try simp only [if_neg b0] at h ⊢
    replace b0 := Bool.eq_false_iff.2 b0
    obtain ⟨s2, h⟩ := h
    exact AtV.fin Try.func17 tabOk ext17Ok mixed (p17_1 x0 x1) ⟨s0, s1, b0, s2, trivial⟩

def S17 : Am.Spec := { sig := sig17, pre := fun ⟨x0, x1, _⟩ => P17 x0 x1, res := fun ⟨x0, x1, _⟩ => [⟨Ty.sl (Ty.cons Ty.str (Ty.cons Ty.str (Ty.cons Ty.str Ty.unit))), g17_0 x0 x1⟩], kds := kds17 }
theorem con17 : Contract Try.prog 17 S17 := contract_of Try.func17 hb17 (Nat.le_of_ble_eq_true (by kernel_rfl)) (fun ⟨x0, x1, _⟩ h _ K q => at17 x0 x1 h K q)


theorem bsb17 (p : Nat → Bool) : ∀ (m i j : Nat), i ≤ j → i ≤ bsearch p m i j ∧ bsearch p m i j ≤ j
  | 0, i, j, h => ⟨Nat.le_refl _, h⟩
  | m + 1, i, j, h => by
    simp only [bsearch]
    split
    · split
      · have := bsb17 p m ((i + j) / 2 + 1) j (by omega); omega
      · have := bsb17 p m i ((i + j) / 2) (by omega); omega
    · omega

theorem atk17 (x0 : List (ByteArray × ByteArray × ByteArray × Unit)) (x1 : (ByteArray × ByteArray × ByteArray × Unit)) : 0 ≤ g18_0 x0 x1 ∧ g18_0 x0 x1 ≤ x0.length ∧ (g18_1 x0 x1 = true → g18_0 x0 x1 < x0.length) := by
  have := bsb17 (p30c26 x0 x1) (x0.length + 1) 0 x0.length (by omega)
  unfold g18_0 g18_1 g30c26_0 g30c26_1 f30c26
  unfold k30c26 at *
  refine ⟨by omega, by omega, fun h => ?_⟩
  split at h
  · omega
  · cases h

theorem pre17 (x0 : List (ByteArray × ByteArray × ByteArray × Unit)) (x1 : (ByteArray × ByteArray × ByteArray × Unit)) (hl : x0.length ≤ 1048576) : P17 x0 x1 := by
  obtain ⟨a1, a2, a3⟩ := atk17 x0 x1
  have p1 : P20 x0 := hl
  have p2 : P18 x0 x1 := ⟨(show x0.length ≤ 4611686018427387903 from by omega), trivial⟩
  unfold P17
  refine ⟨p1, p2, ?_⟩
  by_cases h : g18_1 (g20_0 x0) x1 = true
  · rw [if_pos h]
    exact ⟨a1, a3 h, trivial⟩
  · rw [if_neg h]
    exact ⟨⟨a1, a2, rfl, hl⟩, trivial⟩

theorem len17 (x0 : List (ByteArray × ByteArray × ByteArray × Unit)) (x1 : (ByteArray × ByteArray × ByteArray × Unit)) : (g17_0 x0 x1).length ≤ x0.length + 1 := by
  unfold g17_0
  by_cases h : g18_1 (g20_0 x0) x1 = true
  · rw [if_pos h]; simp [g20_0]
  · rw [if_neg h]
    unfold g29_0 g20_0
    simp only [List.length_append, List.length_take, List.length_drop, List.length_singleton]
    omega

end
end Go.Proofs.Ytohojjcoikkmcaa

/- Function 6 (impl.PutBlock): its runs between cut points. Written by a program of this repo (gen). -/
set_option linter.unusedVariables false
set_option linter.unusedSimpArgs false
set_option maxRecDepth 100000
namespace Go.Proofs.Ytohojjcoikkmcaa
open Go Go.Am Go.Proofs
noncomputable section
def ext6 : Ext := [(15, S15), (16, S16), (17, S17)]
theorem call6_15 : Callable Try.prog 15 := ⟨Try.f15, Try.func15, by kernel_rfl, by kernel_rfl⟩
theorem call6_16 : Callable Try.prog 16 := ⟨Try.f16, Try.func16, by kernel_rfl, by kernel_rfl⟩
theorem call6_17 : Callable Try.prog 17 := ⟨Try.f17, Try.func17, by kernel_rfl, by kernel_rfl⟩
theorem ext6Ok : ExtOk Try.prog ext6 := ⟨⟨call6_15, con15⟩, ⟨call6_16, con16⟩, ⟨call6_17, con17⟩, trivial⟩

noncomputable def b6 : Code := bodyOf Try.f6
theorem hb6 : Try.f6.body = some b6 := by kernel_rfl
def sig6 : List AT := [AT.v (Ty.sl (Ty.cons Ty.str (Ty.cons Ty.str (Ty.cons Ty.str Ty.unit)))), AT.v (Ty.cons Ty.str (Ty.cons Ty.str (Ty.cons Ty.str Ty.unit)))]
def tys6 : List Ty := [Ty.sl (Ty.cons Ty.str (Ty.cons Ty.str (Ty.cons Ty.str Ty.unit))), Ty.int IntKind.i64]
def kds6 : List RK := []
def oks6 : List AT := owns sig6
def P6 (x0 : List (ByteArray × ByteArray × ByteArray × Unit)) (x1 : ByteArray × ByteArray × ByteArray × Unit) : Prop := (if (!g15_0 x0) = true then True else ((P16 x1) ∧ (if (!g16_0 x1) = true then True else ((P17 x0 x1) ∧ True))))
def g6_0 (x0 : List (ByteArray × ByteArray × ByteArray × Unit)) (x1 : ByteArray × ByteArray × ByteArray × Unit) : List (ByteArray × ByteArray × ByteArray × Unit) := (if (!g15_0 x0) = true then [] else (if (!g16_0 x1) = true then [] else (if (Decidable.decide ((↑(List.length (g17_0 x0 x1)) : Int) > 32)) = true then [] else g17_0 x0 x1)))
def g6_1 (x0 : List (ByteArray × ByteArray × ByteArray × Unit)) (x1 : ByteArray × ByteArray × ByteArray × Unit) : Int := (if (!g15_0 x0) = true then 1 else (if (!g16_0 x1) = true then 1 else (if (Decidable.decide ((↑(List.length (g17_0 x0 x1)) : Int) > 32)) = true then 5 else 0)))
theorem p6_0 (x0 : List (ByteArray × ByteArray × ByteArray × Unit)) (x1 : ByteArray × ByteArray × ByteArray × Unit) : runF tab ext6 false 22 [] 2000 [] oks6 kds6 tys6 Try.f6.results [true, true] [.code b6] (entE 0 0 sig6 (x0, x1, ())) (entL sig6 (x0, x1, ())) = some ([Dyn.mk (Ty.sl (Ty.cons Ty.str (Ty.cons Ty.str (Ty.cons Ty.str Ty.unit)))) [], Dyn.mk (Ty.int IntKind.i64) 1], [], [True, (!g15_0 x0) = Bool.true, Bool.true = Bool.true]) := by kernel_rfl
theorem p6_1 (x0 : List (ByteArray × ByteArray × ByteArray × Unit)) (x1 : ByteArray × ByteArray × ByteArray × Unit) : runF tab ext6 false 22 [] 2000 [] oks6 kds6 tys6 Try.f6.results [false, true] [.code b6] (entE 0 0 sig6 (x0, x1, ())) (entL sig6 (x0, x1, ())) = some ([Dyn.mk (Ty.sl (Ty.cons Ty.str (Ty.cons Ty.str (Ty.cons Ty.str Ty.unit)))) [], Dyn.mk (Ty.int IntKind.i64) 1], [], [True, (!g15_0 x0) = Bool.false, P16 x1, (!g16_0 x1) = Bool.true]) := by kernel_rfl
theorem p6_2 (x0 : List (ByteArray × ByteArray × ByteArray × Unit)) (x1 : ByteArray × ByteArray × ByteArray × Unit) : runF tab ext6 false 22 [] 2000 [] oks6 kds6 tys6 Try.f6.results [false, false, true] [.code b6] (entE 0 0 sig6 (x0, x1, ())) (entL sig6 (x0, x1, ())) = some ([Dyn.mk (Ty.sl (Ty.cons Ty.str (Ty.cons Ty.str (Ty.cons Ty.str Ty.unit)))) [], Dyn.mk (Ty.int IntKind.i64) 5], [], [True, (!g15_0 x0) = Bool.false, P16 x1, (!g16_0 x1) = Bool.false, P17 x0 x1, Decidable.decide ((↑(List.length (g17_0 x0 x1)) : Int) > 32) = Bool.true]) := by kernel_rfl
theorem p6_3 (x0 : List (ByteArray × ByteArray × ByteArray × Unit)) (x1 : ByteArray × ByteArray × ByteArray × Unit) : runF tab ext6 false 22 [] 2000 [] oks6 kds6 tys6 Try.f6.results [false, false, false] [.code b6] (entE 0 0 sig6 (x0, x1, ())) (entL sig6 (x0, x1, ())) = some ([Dyn.mk (Ty.sl (Ty.cons Ty.str (Ty.cons Ty.str (Ty.cons Ty.str Ty.unit)))) (g17_0 x0 x1), Dyn.mk (Ty.int IntKind.i64) 0], [], [True, (!g15_0 x0) = Bool.false, P16 x1, (!g16_0 x1) = Bool.false, P17 x0 x1, Decidable.decide ((↑(List.length (g17_0 x0 x1)) : Int) > 32) = Bool.false]) := by kernel_rfl
theorem at6 (x0 : List (ByteArray × ByteArray × ByteArray × Unit)) (x1 : ByteArray × ByteArray × ByteArray × Unit) (h : P6 x0 x1) (K : Ctx) (q : Nat → Value) : AtV Try.prog 6 (PostR kds6 oks6 [⟨Ty.sl (Ty.cons Ty.str (Ty.cons Ty.str (Ty.cons Ty.str Ty.unit))), g6_0 x0 x1⟩, ⟨Ty.int IntKind.i64, g6_1 x0 x1⟩] [] [] q K) 22 K q [] [.code b6] (entE 0 0 sig6 (x0, x1, ())) (entL sig6 (x0, x1, ())) := by
  unfold P6 at h
  unfold g6_0 g6_1
  by_cases b0 : (!g15_0 x0) = true
  · try simp only [if_pos b0] at h ⊢
    exact AtV.fin Try.func6 tabOk ext6Ok mixed (p6_0 x0 x1) ⟨trivial, b0, rfl, trivial⟩
  · try simp only [if_neg b0] at h ⊢
    replace b0 := Bool.eq_false_iff.2 b0
    obtain ⟨s0, h⟩ := h
    by_cases b1 : (!g16_0 x1) = true
    · try simp only [if_pos b1] at h ⊢
      exact AtV.fin Try.func6 tabOk ext6Ok mixed (p6_1 x0 x1) ⟨trivial, b0, s0, b1, trivial⟩
    · try simp only [if_neg b1] at h ⊢
      replace b1 := Bool.eq_false_iff.2 b1
      obtain ⟨s1, h⟩ := h
      by_cases b2 : (Decidable.decide ((↑(List.length (g17_0 x0 x1)) : Int) > 32)) = true
      · try simp only [if_pos b2] at h ⊢
        exact AtV.fin Try.func6 tabOk ext6Ok mixed (p6_2 x0 x1) ⟨trivial, b0, s0, b1, s1, b2, trivial⟩
      · try simp only [if_neg b2] at h ⊢
        replace b2 := Bool.eq_false_iff.2 b2
        exact AtV.fin Try.func6 tabOk ext6Ok mixed (p6_3 x0 x1) ⟨trivial, b0, s0, b1, s1, b2, trivial⟩

def S6 : Am.Spec := { sig := sig6, pre := fun ⟨x0, x1, _⟩ => P6 x0 x1, res := fun ⟨x0, x1, _⟩ => [⟨Ty.sl (Ty.cons Ty.str (Ty.cons Ty.str (Ty.cons Ty.str Ty.unit))), g6_0 x0 x1⟩, ⟨Ty.int IntKind.i64, g6_1 x0 x1⟩], kds := kds6 }
theorem con6 : Contract Try.prog 6 S6 := contract_of Try.func6 hb6 (Nat.le_of_ble_eq_true (by kernel_rfl)) (fun ⟨x0, x1, _⟩ h _ K q => at6 x0 x1 h K q)


end
end Go.Proofs.Ytohojjcoikkmcaa

/- Function 7 (impl.BlockNamed): its runs between cut points. Written by a program of this repo (gen). -/
set_option linter.unusedVariables false
set_option linter.unusedSimpArgs false
set_option maxRecDepth 100000
namespace Go.Proofs.Ytohojjcoikkmcaa
open Go Go.Am Go.Proofs
noncomputable section
def ext7 : Ext := [(15, S15), (18, S18)]
theorem call7_15 : Callable Try.prog 15 := ⟨Try.f15, Try.func15, by kernel_rfl, by kernel_rfl⟩
theorem call7_18 : Callable Try.prog 18 := ⟨Try.f18, Try.func18, by kernel_rfl, by kernel_rfl⟩
theorem ext7Ok : ExtOk Try.prog ext7 := ⟨⟨call7_15, con15⟩, ⟨call7_18, con18⟩, trivial⟩

noncomputable def b7 : Code := bodyOf Try.f7
theorem hb7 : Try.f7.body = some b7 := by kernel_rfl
def sig7 : List AT := [AT.v (Ty.sl (Ty.cons Ty.str (Ty.cons Ty.str (Ty.cons Ty.str Ty.unit)))), AT.v (Ty.str), AT.v (Ty.str)]
def tys7 : List Ty := [Ty.str, Ty.int IntKind.i64]
def kds7 : List RK := []
def oks7 : List AT := owns sig7
def P7 (x0 : List (ByteArray × ByteArray × ByteArray × Unit)) (x1 : ByteArray) (x2 : ByteArray) : Prop := (if (!g15_0 x0) = true then True else ((P18 x0 (x1, x2, ByteArray.empty, ())) ∧ (if (!g18_1 x0 (x1, x2, ByteArray.empty, ())) = true then True else ((0 ≤ g18_0 x0 (x1, x2, ByteArray.empty, ())) ∧ (g18_0 x0 (x1, x2, ByteArray.empty, ()) < (↑(List.length x0) : Int)) ∧ True))))
def g7_0 (x0 : List (ByteArray × ByteArray × ByteArray × Unit)) (x1 : ByteArray) (x2 : ByteArray) : ByteArray := (if (!g15_0 x0) = true then ByteArray.mk #[] else (if (!g18_1 x0 (x1, x2, ByteArray.empty, ())) = true then ByteArray.mk #[] else Prod.fst (Prod.snd (Prod.snd (List.getD x0 (Int.toNat (g18_0 x0 (x1, x2, ByteArray.empty, ()))) (ByteArray.empty, ByteArray.empty, ByteArray.empty, ()))))))
def g7_1 (x0 : List (ByteArray × ByteArray × ByteArray × Unit)) (x1 : ByteArray) (x2 : ByteArray) : Int := (if (!g15_0 x0) = true then 1 else (if (!g18_1 x0 (x1, x2, ByteArray.empty, ())) = true then 3 else 0))
theorem p7_0 (x0 : List (ByteArray × ByteArray × ByteArray × Unit)) (x1 : ByteArray) (x2 : ByteArray) : runF tab ext7 false 28 [] 2000 [] oks7 kds7 tys7 Try.f7.results [true] [.code b7] (entE 0 0 sig7 (x0, x1, x2, ())) (entL sig7 (x0, x1, x2, ())) = some ([Dyn.mk Ty.str (ByteArray.mk #[]), Dyn.mk (Ty.int IntKind.i64) 1], [], [True, (!g15_0 x0) = Bool.true]) := by kernel_rfl
theorem p7_1 (x0 : List (ByteArray × ByteArray × ByteArray × Unit)) (x1 : ByteArray) (x2 : ByteArray) : runF tab ext7 false 28 [] 2000 [] oks7 kds7 tys7 Try.f7.results [false, true] [.code b7] (entE 0 0 sig7 (x0, x1, x2, ())) (entL sig7 (x0, x1, x2, ())) = some ([Dyn.mk Ty.str (ByteArray.mk #[]), Dyn.mk (Ty.int IntKind.i64) 3], [], [True, (!g15_0 x0) = Bool.false, P18 x0 (x1, x2, ByteArray.empty, ()), (!g18_1 x0 (x1, x2, ByteArray.empty, ())) = Bool.true]) := by kernel_rfl
theorem p7_2 (x0 : List (ByteArray × ByteArray × ByteArray × Unit)) (x1 : ByteArray) (x2 : ByteArray) : runF tab ext7 false 28 [] 2000 [] oks7 kds7 tys7 Try.f7.results [false, false] [.code b7] (entE 0 0 sig7 (x0, x1, x2, ())) (entL sig7 (x0, x1, x2, ())) = some ([Dyn.mk Ty.str (Prod.fst (Prod.snd (Prod.snd (List.getD x0 (Int.toNat (g18_0 x0 (x1, x2, ByteArray.empty, ()))) (ByteArray.empty, ByteArray.empty, ByteArray.empty, ()))))), Dyn.mk (Ty.int IntKind.i64) 0], [], [True, (!g15_0 x0) = Bool.false, P18 x0 (x1, x2, ByteArray.empty, ()), (!g18_1 x0 (x1, x2, ByteArray.empty, ())) = Bool.false, 0 ≤ g18_0 x0 (x1, x2, ByteArray.empty, ()), g18_0 x0 (x1, x2, ByteArray.empty, ()) < (↑(List.length x0) : Int)]) := by kernel_rfl
theorem at7 (x0 : List (ByteArray × ByteArray × ByteArray × Unit)) (x1 : ByteArray) (x2 : ByteArray) (h : P7 x0 x1 x2) (K : Ctx) (q : Nat → Value) : AtV Try.prog 7 (PostR kds7 oks7 [⟨Ty.str, g7_0 x0 x1 x2⟩, ⟨Ty.int IntKind.i64, g7_1 x0 x1 x2⟩] [] [] q K) 28 K q [] [.code b7] (entE 0 0 sig7 (x0, x1, x2, ())) (entL sig7 (x0, x1, x2, ())) := by
  unfold P7 at h
  unfold g7_0 g7_1
  by_cases b0 : (!g15_0 x0) = true
  · try simp only [if_pos b0] at h ⊢
    exact AtV.fin Try.func7 tabOk ext7Ok mixed (p7_0 x0 x1 x2) ⟨trivial, b0, trivial⟩
  · try simp only [if_neg b0] at h ⊢
    replace b0 := Bool.eq_false_iff.2 b0
    obtain ⟨s0, h⟩ := h
    by_cases b1 : (!g18_1 x0 (x1, x2, ByteArray.empty, ())) = true
    · try simp only [if_pos b1] at h ⊢
      exact AtV.fin Try.func7 tabOk ext7Ok mixed (p7_1 x0 x1 x2) ⟨trivial, b0, s0, b1, trivial⟩
    · try simp only [if_neg b1] at h ⊢
      replace b1 := Bool.eq_false_iff.2 b1
      obtain ⟨s1, s2, h⟩ := h
      exact AtV.fin Try.func7 tabOk ext7Ok mixed (p7_2 x0 x1 x2) ⟨trivial, b0, s0, b1, s1, s2, trivial⟩

def S7 : Am.Spec := { sig := sig7, pre := fun ⟨x0, x1, x2, _⟩ => P7 x0 x1 x2, res := fun ⟨x0, x1, x2, _⟩ => [⟨Ty.str, g7_0 x0 x1 x2⟩, ⟨Ty.int IntKind.i64, g7_1 x0 x1 x2⟩], kds := kds7 }
theorem con7 : Contract Try.prog 7 S7 := contract_of Try.func7 hb7 (Nat.le_of_ble_eq_true (by kernel_rfl)) (fun ⟨x0, x1, x2, _⟩ h _ K q => at7 x0 x1 x2 h K q)


end
end Go.Proofs.Ytohojjcoikkmcaa

/- Function 19 (slices.Delete[[]impl.Block,impl.Block]): its contract, off what is known of the library. -/
set_option linter.unusedVariables false
set_option linter.unusedSimpArgs false
set_option maxRecDepth 100000
namespace Go.Proofs.Ytohojjcoikkmcaa
open Go Go.Am Go.Proofs

open Go.RowKit in
set_option maxHeartbeats 8000000 in
theorem run19 (w : World) (xs : List (ByteArray × ByteArray × ByteArray × Unit)) (b off cap : Nat) (cur : Array Value) (ty : TypeId) (fz : Nat × Nat) (i j : Nat) (hA : OwnAt w (Ty.cons Ty.str (Ty.cons Ty.str (Ty.cons Ty.str Ty.unit))) xs b off cap cur ty fz) (hij : i < j) (hj : j ≤ xs.length) :
      Calls Try.prog 19 #[.slice (some ⟨b, off, none⟩) xs.length cap, .int .i64 i, .int .i64 j] w fun r w' => r = .returned (.slice (some ⟨b, off, none⟩) (xs.length - (j - i)) cap) ∧
        ∃ q zs, zs.length = (j - i) * Ty.size (Ty.cons Ty.str (Ty.cons Ty.str (Ty.cons Ty.str Ty.unit))) ∧ w' = ((w.drewN q).setCells b (off + i * Ty.size (Ty.cons Ty.str (Ty.cons Ty.str (Ty.cons Ty.str Ty.unit)))) (fcs (Ty.cons Ty.str (Ty.cons Ty.str (Ty.cons Ty.str Ty.unit))) (xs.drop j))).setCells b (off + (xs.length - (j - i)) * Ty.size (Ty.cons Ty.str (Ty.cons Ty.str (Ty.cons Ty.str Ty.unit)))) zs := by
  have mixed := mixed
  have hsz : Ty.size (Ty.cons Ty.str (Ty.cons Ty.str (Ty.cons Ty.str Ty.unit))) = 3 := rfl
  have hinfo : TIOk Try.prog 24 (tabGet tab 24) := tabOk 24
  obtain ⟨_, _, ⟨_, ⟨i0, hi0, hz1, z, hz0, hzs, hzv⟩⟩, hby⟩ := hinfo
  have hz1 : i0.size = 3 := hz1
  have hlen := hA.len
  have hcapm := hA.capm
  have hd : (fcs (Ty.cons Ty.str (Ty.cons Ty.str (Ty.cons Ty.str Ty.unit))) (xs.drop j)).length = (xs.length - j) * 3 := by
    have := fcs_length (t := (Ty.cons Ty.str (Ty.cons Ty.str (Ty.cons Ty.str Ty.unit)))) rfl (xs := xs.drop j) (fun x hx => hA.wf x (List.mem_of_mem_drop hx))
    rw [this, List.length_drop]; rfl
  obtain ⟨news, hnews⟩ : ∃ news, news = fcs (Ty.cons Ty.str (Ty.cons Ty.str (Ty.cons Ty.str Ty.unit))) (xs.drop j) := ⟨_, rfl⟩
  have hle : xs.length * 3 ≤ cap * 3 := Nat.mul_le_mul_right _ (by omega)
  have s1 : Hid (news.length = (xs.length - j) * 3) := by rw [hnews]; exact hd
  have s2 : Hid (∀ u ∈ news, u.oneCell' = true) := by rw [hnews]; exact fcells_ones rfl _
  have A0 : Hid (∀ k, k < cap * 3 → (w.cell? ⟨b, off + k, none⟩).isSome = true ∧ w.frozen? ⟨b, off + k, none⟩ = false) := fun k hk => ⟨hA.some' k hk, hA.unfrozen k hk⟩
  have hsrc0 : ∀ (k : Nat) (u : Value), news[k]? = some u → w.cell? ⟨b, off + j * 3 + k, none⟩ = some u := fun k u hk => by
    rw [hnews] at hk
    have := hA.cell _ _ (fcs_drop rfl hA.wf j hj k u hk)
    rwa [Nat.add_assoc]
  obtain ⟨A, hAd, hsrc⟩ : ∃ A : Addr, (if cap = j then some (⟨b, off, none⟩ : Addr) else some ⟨b, off + j * 3, none⟩) = some A ∧ Hid (∀ (t : Nat) (u : Value), news[t]? = some u → w.drew.cell? (A.add t) = some u) := by
    by_cases h : cap = j
    · refine ⟨⟨b, off, none⟩, by simp [h], fun t u hu => ?_⟩
      have h0 : news.length = 0 := by have hnj : xs.length - j = 0 := by omega
                                      rw [s1.out, hnj, Nat.zero_mul]
      rw [List.length_eq_zero_iff.1 h0] at hu
      simp at hu
    · exact ⟨⟨b, off + j * 3, none⟩, by simp [h], fun t u hu => by rw [Addr.add_lit]; exact hsrc0 t u hu⟩
  have s3 : Hid (∀ t, t < news.length → (w.drew.cell? ⟨b, off + i * 3 + t, none⟩).isSome = true ∧ w.drew.frozen? ⟨b, off + i * 3 + t, none⟩ = false) := fun t ht => by
    rw [s1.out] at ht
    rw [Nat.add_assoc]
    exact A0.out _ (by omega)
  obtain ⟨W1, hW1⟩ : ∃ W1, W1 = w.drew.setCells b (off + i * 3) news := ⟨_, rfl⟩
  obtain ⟨zs, hzz⟩ : ∃ zs, zs = (Builtin.zeroCells z.cells (xs.length - (i + (xs.length - j)))).toList := ⟨_, rfl⟩
  have hzl : zs.length = (xs.length - (i + (xs.length - j))) * 3 := by
    have e : z.cells = (dcells (Ty.cons Ty.str (Ty.cons Ty.str (Ty.cons Ty.str Ty.unit)))).toArray := Array.toList_inj.1 (by rw [hzs])
    rw [hzz, e, zeroCells_k]
    simp [dcells]
  have hz1c : ∀ v ∈ zs, v.oneCell' = true := by
    have e : z.cells = (dcells (Ty.cons Ty.str (Ty.cons Ty.str (Ty.cons Ty.str Ty.unit)))).toArray := Array.toList_inj.1 (by rw [hzs])
    rw [hzz, e, zeroCells_k]
    intro v hv
    obtain ⟨l, hl, hv⟩ := List.mem_flatten.1 hv
    rw [List.eq_of_mem_replicate hl] at hv
    exact dcells_one _ v hv
  have v23 : ∀ w, (zeroValue 27).run Try.prog w = .ok z w := fun w => by simp [zeroValue, typeInfo, hi0, hz0]
  have hcl : ∀ ty, (Builtin.clear_ #[24] ty #[.slice (some ⟨b, off + (i + (xs.length - j)) * 3, none⟩) (xs.length - (i + (xs.length - j))) (cap - (i + (xs.length - j)))]).run Try.prog W1 = .ok (.tuple #[]) (W1.setCells b (off + (i + (xs.length - j)) * 3) zs) := fun ty =>
    run_clear_k W1 24 27 ty z Try.underlying24 v23 b (off + (i + (xs.length - j)) * 3) _ _ (by omega) zs hzz.symm hz1c
      (fun t ht => by rw [hW1]; exact isSome_put b news _ _ _ (by rw [Nat.add_assoc]; exact (A0.out _ (by rw [hzl] at ht; omega)).1))
      (fun t ht => by rw [hW1, World.frozen?_setCells, Nat.add_assoc]; exact (A0.out _ (by rw [hzl] at ht; omega)).2)
  have X : Aside (W1 = w.drew.setCells b (off + i * 3) news) := hW1
  have hW : Hid (W1 = w.drew.setCells b (off + i * 3) news) := hW1
  have hic : i ≤ cap := by omega
  have hjc : j ≤ cap := by omega
  have hne : ¬ ((i : Int) = (j : Int)) := by omega
  have N : Aside (news = fcs (Ty.cons Ty.str (Ty.cons Ty.str (Ty.cons Ty.str Ty.unit))) (xs.drop j)) := hnews
  clear hW1 hsrc0 hd hzv hzs hz0 hby hA v23 hzz hnews hsz
  go_enter Try.func19, Try.ntmps19
  go_wp2_with fail
  go_region_law_o (refine step_append_room rfl (.tmp 22) (.tmp 25) 24 rfl 27 i0 3 Try.underlying24 hi0 hz1 b off i cap (by simp [Act.eval, Act.put]) A (xs.length - j) (cap - j) news (by simp [Act.eval, Act.put]) s1.out hsrc.out s2.out (by omega) s3.out ?_; rw [← hW.out])
  go_wp2
  go_ret
  have e1 : xs.length - (i + (xs.length - j)) = j - i := by omega
  have e2 : i + (xs.length - j) = xs.length - (j - i) := by omega
  refine ⟨by first | (rw [e2]; done) | (rw [e2]; rfl), 1, zs, by rw [hzl, e1]; rfl, ?_⟩
  rw [← N.out, e2, X.out]
  rfl

def sig19 : List AT := [AT.own (Ty.cons Ty.str (Ty.cons Ty.str (Ty.cons Ty.str Ty.unit))), AT.v (Ty.int .i64), AT.v (Ty.int .i64)]
def g19_0 (x0 : List (ByteArray × ByteArray × ByteArray × Unit)) (x1 x2 : Int) : List (ByteArray × ByteArray × ByteArray × Unit) := x0.take x1.toNat ++ x0.drop x2.toNat
def P19 (x0 : List (ByteArray × ByteArray × ByteArray × Unit)) (x1 x2 : Int) : Prop := 0 ≤ x1 ∧ x1 < x2 ∧ x2 ≤ x0.length
def S19 : Am.Spec := { sig := sig19, pre := fun ⟨x0, x1, x2, _⟩ => P19 x0 x1 x2, upd := fun _ => [none], res := fun ⟨x0, x1, x2, _⟩ => [⟨Ty.sl (Ty.cons Ty.str (Ty.cons Ty.str (Ty.cons Ty.str Ty.unit))), g19_0 x0 x1 x2⟩] }
theorem con19 : Contract Try.prog 19 S19 := delete_contract (t := (Ty.cons Ty.str (Ty.cons Ty.str (Ty.cons Ty.str Ty.unit)))) rfl run19

end Go.Proofs.Ytohojjcoikkmcaa

/- Function 8 (impl.DropBlock): its runs between cut points. Written by a program of this repo (gen). -/
set_option linter.unusedVariables false
set_option linter.unusedSimpArgs false
set_option maxRecDepth 100000
namespace Go.Proofs.Ytohojjcoikkmcaa
open Go Go.Am Go.Proofs
noncomputable section
def ext8 : Ext := [(15, S15), (18, S18), (20, S20), (19, S19)]
theorem call8_15 : Callable Try.prog 15 := ⟨Try.f15, Try.func15, by kernel_rfl, by kernel_rfl⟩
theorem call8_18 : Callable Try.prog 18 := ⟨Try.f18, Try.func18, by kernel_rfl, by kernel_rfl⟩
theorem call8_20 : Callable Try.prog 20 := ⟨Try.f20, Try.func20, by kernel_rfl, by kernel_rfl⟩
theorem call8_19 : Callable Try.prog 19 := ⟨Try.f19, Try.func19, by kernel_rfl, by kernel_rfl⟩
theorem ext8Ok : ExtOk Try.prog ext8 := ⟨⟨call8_15, con15⟩, ⟨call8_18, con18⟩, ⟨call8_20, con20⟩, ⟨call8_19, con19⟩, trivial⟩

noncomputable def b8 : Code := bodyOf Try.f8
theorem hb8 : Try.f8.body = some b8 := by kernel_rfl
def sig8 : List AT := [AT.v (Ty.sl (Ty.cons Ty.str (Ty.cons Ty.str (Ty.cons Ty.str Ty.unit)))), AT.v (Ty.str), AT.v (Ty.str)]
def tys8 : List Ty := [Ty.sl (Ty.cons Ty.str (Ty.cons Ty.str (Ty.cons Ty.str Ty.unit))), Ty.int IntKind.i64]
def kds8 : List RK := []
def oks8 : List AT := owns sig8
def P8 (x0 : List (ByteArray × ByteArray × ByteArray × Unit)) (x1 : ByteArray) (x2 : ByteArray) : Prop := (if (!g15_0 x0) = true then True else ((P18 x0 (x1, x2, ByteArray.empty, ())) ∧ (if (!g18_1 x0 (x1, x2, ByteArray.empty, ())) = true then True else ((P20 x0) ∧ ((InR IntKind.i64 (g18_0 x0 (x1, x2, ByteArray.empty, ()) + 1)) ∧ ((P19 (g20_0 x0) (g18_0 x0 (x1, x2, ByteArray.empty, ())) (g18_0 x0 (x1, x2, ByteArray.empty, ()) + 1)) ∧ True))))))
def g8_0 (x0 : List (ByteArray × ByteArray × ByteArray × Unit)) (x1 : ByteArray) (x2 : ByteArray) : List (ByteArray × ByteArray × ByteArray × Unit) := (if (!g15_0 x0) = true then [] else (if (!g18_1 x0 (x1, x2, ByteArray.empty, ())) = true then [] else g19_0 (g20_0 x0) (g18_0 x0 (x1, x2, ByteArray.empty, ())) (g18_0 x0 (x1, x2, ByteArray.empty, ()) + 1)))
def g8_1 (x0 : List (ByteArray × ByteArray × ByteArray × Unit)) (x1 : ByteArray) (x2 : ByteArray) : Int := (if (!g15_0 x0) = true then 1 else (if (!g18_1 x0 (x1, x2, ByteArray.empty, ())) = true then 3 else 0))
theorem p8_0 (x0 : List (ByteArray × ByteArray × ByteArray × Unit)) (x1 : ByteArray) (x2 : ByteArray) : runF tab ext8 false 29 [] 2000 [] oks8 kds8 tys8 Try.f8.results [true] [.code b8] (entE 0 0 sig8 (x0, x1, x2, ())) (entL sig8 (x0, x1, x2, ())) = some ([Dyn.mk (Ty.sl (Ty.cons Ty.str (Ty.cons Ty.str (Ty.cons Ty.str Ty.unit)))) [], Dyn.mk (Ty.int IntKind.i64) 1], [], [True, (!g15_0 x0) = Bool.true]) := by kernel_rfl
theorem p8_1 (x0 : List (ByteArray × ByteArray × ByteArray × Unit)) (x1 : ByteArray) (x2 : ByteArray) : runF tab ext8 false 29 [] 2000 [] oks8 kds8 tys8 Try.f8.results [false, true] [.code b8] (entE 0 0 sig8 (x0, x1, x2, ())) (entL sig8 (x0, x1, x2, ())) = some ([Dyn.mk (Ty.sl (Ty.cons Ty.str (Ty.cons Ty.str (Ty.cons Ty.str Ty.unit)))) [], Dyn.mk (Ty.int IntKind.i64) 3], [], [True, (!g15_0 x0) = Bool.false, P18 x0 (x1, x2, ByteArray.empty, ()), (!g18_1 x0 (x1, x2, ByteArray.empty, ())) = Bool.true]) := by kernel_rfl
theorem p8_2 (x0 : List (ByteArray × ByteArray × ByteArray × Unit)) (x1 : ByteArray) (x2 : ByteArray) : runF tab ext8 false 29 [] 2000 [] oks8 kds8 tys8 Try.f8.results [false, false] [.code b8] (entE 0 0 sig8 (x0, x1, x2, ())) (entL sig8 (x0, x1, x2, ())) = some ([Dyn.mk (Ty.sl (Ty.cons Ty.str (Ty.cons Ty.str (Ty.cons Ty.str Ty.unit)))) (g19_0 (g20_0 x0) (g18_0 x0 (x1, x2, ByteArray.empty, ())) (g18_0 x0 (x1, x2, ByteArray.empty, ()) + 1)), Dyn.mk (Ty.int IntKind.i64) 0], [], [True, (!g15_0 x0) = Bool.false, P18 x0 (x1, x2, ByteArray.empty, ()), (!g18_1 x0 (x1, x2, ByteArray.empty, ())) = Bool.false, P20 x0, InR IntKind.i64 (g18_0 x0 (x1, x2, ByteArray.empty, ()) + 1), P19 (g20_0 x0) (g18_0 x0 (x1, x2, ByteArray.empty, ())) (g18_0 x0 (x1, x2, ByteArray.empty, ()) + 1)]) := by kernel_rfl
theorem at8 (x0 : List (ByteArray × ByteArray × ByteArray × Unit)) (x1 : ByteArray) (x2 : ByteArray) (h : P8 x0 x1 x2) (K : Ctx) (q : Nat → Value) : AtV Try.prog 8 (PostR kds8 oks8 [⟨Ty.sl (Ty.cons Ty.str (Ty.cons Ty.str (Ty.cons Ty.str Ty.unit))), g8_0 x0 x1 x2⟩, ⟨Ty.int IntKind.i64, g8_1 x0 x1 x2⟩] [] [] q K) 29 K q [] [.code b8] (entE 0 0 sig8 (x0, x1, x2, ())) (entL sig8 (x0, x1, x2, ())) := by
  unfold P8 at h
  unfold g8_0 g8_1
  by_cases b0 : (!g15_0 x0) = true
  · try simp only [if_pos b0] at h ⊢
    exact AtV.fin Try.func8 tabOk ext8Ok mixed (p8_0 x0 x1 x2) ⟨trivial, b0, trivial⟩
  · try simp only [if_neg b0] at h ⊢
    replace b0 := Bool.eq_false_iff.2 b0
    obtain ⟨s0, h⟩ := h
    by_cases b1 : (!g18_1 x0 (x1, x2, ByteArray.empty, ())) = true
    · try simp only [if_pos b1] at h ⊢
      exact AtV.fin Try.func8 tabOk ext8Ok mixed (p8_1 x0 x1 x2) ⟨trivial, b0, s0, b1, trivial⟩
    · try simp only [if_neg b1] at h ⊢
      replace b1 := Bool.eq_false_iff.2 b1
      obtain ⟨s1, h⟩ := h
      obtain ⟨s2, h⟩ := h
      obtain ⟨s3, h⟩ := h
      exact AtV.fin Try.func8 tabOk ext8Ok mixed (p8_2 x0 x1 x2) ⟨trivial, b0, s0, b1, s1, s2, s3, trivial⟩

def S8 : Am.Spec := { sig := sig8, pre := fun ⟨x0, x1, x2, _⟩ => P8 x0 x1 x2, res := fun ⟨x0, x1, x2, _⟩ => [⟨Ty.sl (Ty.cons Ty.str (Ty.cons Ty.str (Ty.cons Ty.str Ty.unit))), g8_0 x0 x1 x2⟩, ⟨Ty.int IntKind.i64, g8_1 x0 x1 x2⟩], kds := kds8 }
theorem con8 : Contract Try.prog 8 S8 := contract_of Try.func8 hb8 (Nat.le_of_ble_eq_true (by kernel_rfl)) (fun ⟨x0, x1, x2, _⟩ h _ K q => at8 x0 x1 x2 h K q)


end
end Go.Proofs.Ytohojjcoikkmcaa

/- Function 9 (impl.MergeBlocks): its runs between cut points. Written by a program of this repo (gen). -/
set_option linter.unusedVariables false
set_option linter.unusedSimpArgs false
set_option maxRecDepth 100000
namespace Go.Proofs.Ytohojjcoikkmcaa
open Go Go.Am Go.Proofs
noncomputable section
def ext9 : Ext := [(15, S15), (20, S20), (17, S17)]
theorem call9_15 : Callable Try.prog 15 := ⟨Try.f15, Try.func15, by kernel_rfl, by kernel_rfl⟩
theorem call9_20 : Callable Try.prog 20 := ⟨Try.f20, Try.func20, by kernel_rfl, by kernel_rfl⟩
theorem call9_17 : Callable Try.prog 17 := ⟨Try.f17, Try.func17, by kernel_rfl, by kernel_rfl⟩
theorem ext9Ok : ExtOk Try.prog ext9 := ⟨⟨call9_15, con15⟩, ⟨call9_20, con20⟩, ⟨call9_17, con17⟩, trivial⟩

noncomputable def b9 : Code := bodyOf Try.f9
theorem hb9 : Try.f9.body = some b9 := by kernel_rfl
def sig9 : List AT := [AT.v (Ty.sl (Ty.cons Ty.str (Ty.cons Ty.str (Ty.cons Ty.str Ty.unit)))), AT.v (Ty.sl (Ty.cons Ty.str (Ty.cons Ty.str (Ty.cons Ty.str Ty.unit))))]
def tys9 : List Ty := [Ty.sl (Ty.cons Ty.str (Ty.cons Ty.str (Ty.cons Ty.str Ty.unit))), Ty.int IntKind.i64]
def kds9 : List RK := []
def oks9 : List AT := owns sig9
def E9_5 (v21 : Int) (h0 : List (ByteArray × ByteArray × ByteArray × Unit)) (x1 : List (ByteArray × ByteArray × ByteArray × Unit)) : Env := [(6, PV.a (Atom.osl 0 Option.none)), (19, PV.a (Atom.sl (Ty.cons Ty.str (Ty.cons Ty.str (Ty.cons Ty.str Ty.unit))) x1)), (20, PV.a (Atom.val (Value.int IntKind.i64 (↑(List.length x1) : Int)))), (21, PV.a (Atom.val (Value.int IntKind.i64 v21)))]
def L9_5 (v21 : Int) (h0 : List (ByteArray × ByteArray × ByteArray × Unit)) (x1 : List (ByteArray × ByteArray × ByteArray × Unit)) : Heap := [Option.some (Arr.mk (Ty.cons Ty.str (Ty.cons Ty.str (Ty.cons Ty.str Ty.unit))) h0 Bool.false Option.none Option.none)]
mutual
def R9 : Nat → List (ByteArray × ByteArray × ByteArray × Unit) → List (ByteArray × ByteArray × ByteArray × Unit) → List Dyn → Prop
  | 0, _, _, _ => False
  | n + 1, x0, x1, ds => (if (!g15_0 x0) = true then (ds = [Dyn.mk (Ty.sl (Ty.cons Ty.str (Ty.cons Ty.str (Ty.cons Ty.str Ty.unit)))) [], Dyn.mk (Ty.int IntKind.i64) 1]) else (if (!g15_0 x1) = true then (ds = [Dyn.mk (Ty.sl (Ty.cons Ty.str (Ty.cons Ty.str (Ty.cons Ty.str Ty.unit)))) [], Dyn.mk (Ty.int IntKind.i64) 1]) else ((P20 x0) ∧ (R9_5 n (0) (g20_0 x0) (x1) ds))))
def R9_5 : Nat → Int → List (ByteArray × ByteArray × ByteArray × Unit) → List (ByteArray × ByteArray × ByteArray × Unit) → List Dyn → Prop
  | 0, _, _, _, _ => False
  | n + 1, v21, h0, x1, ds => (if (Decidable.decide (v21 < (↑(List.length x1) : Int))) = true then ((0 ≤ v21) ∧ (v21 < (↑(List.length x1) : Int)) ∧ ((P17 h0 (List.getD x1 (Int.toNat v21) (ByteArray.empty, ByteArray.empty, ByteArray.empty, ()))) ∧ ((InR IntKind.i64 (v21 + 1)) ∧ (R9_5 n (v21 + 1) (g17_0 h0 (List.getD x1 (Int.toNat v21) (ByteArray.empty, ByteArray.empty, ByteArray.empty, ()))) (x1) ds)))) else (if (Decidable.decide ((↑(List.length h0) : Int) > 32)) = true then (ds = [Dyn.mk (Ty.sl (Ty.cons Ty.str (Ty.cons Ty.str (Ty.cons Ty.str Ty.unit)))) [], Dyn.mk (Ty.int IntKind.i64) 5]) else (ds = [Dyn.mk (Ty.sl (Ty.cons Ty.str (Ty.cons Ty.str (Ty.cons Ty.str Ty.unit)))) h0, Dyn.mk (Ty.int IntKind.i64) 0])))
end
theorem p9_0 (x0 : List (ByteArray × ByteArray × ByteArray × Unit)) (x1 : List (ByteArray × ByteArray × ByteArray × Unit)) : runF tab ext9 false 33 [] 2000 [] oks9 kds9 tys9 Try.f9.results [true, true] [.code b9] (entE 0 0 sig9 (x0, x1, ())) (entL sig9 (x0, x1, ())) = some ([Dyn.mk (Ty.sl (Ty.cons Ty.str (Ty.cons Ty.str (Ty.cons Ty.str Ty.unit)))) [], Dyn.mk (Ty.int IntKind.i64) 1], [], [True, (!g15_0 x0) = Bool.true, Bool.true = Bool.true]) := by kernel_rfl
theorem p9_1 (x0 : List (ByteArray × ByteArray × ByteArray × Unit)) (x1 : List (ByteArray × ByteArray × ByteArray × Unit)) : runF tab ext9 false 33 [] 2000 [] oks9 kds9 tys9 Try.f9.results [false, true] [.code b9] (entE 0 0 sig9 (x0, x1, ())) (entL sig9 (x0, x1, ())) = some ([Dyn.mk (Ty.sl (Ty.cons Ty.str (Ty.cons Ty.str (Ty.cons Ty.str Ty.unit)))) [], Dyn.mk (Ty.int IntKind.i64) 1], [], [True, (!g15_0 x0) = Bool.false, True, (!g15_0 x1) = Bool.true]) := by kernel_rfl
theorem p9_2 (x0 : List (ByteArray × ByteArray × ByteArray × Unit)) (x1 : List (ByteArray × ByteArray × ByteArray × Unit)) : Am.runN tab ext9 false 33 [] 2000 [] [] [6, 19, 20, 21] [0] [false, false] [.code b9] (entE 0 0 sig9 (x0, x1, ())) (entL sig9 (x0, x1, ())) = some (cutAt b9 5, E9_5 (0) (g20_0 x0) (x1), L9_5 (0) (g20_0 x0) (x1), [True, (!g15_0 x0) = Bool.false, True, (!g15_0 x1) = Bool.false, P20 x0]) := by kernel_rfl
theorem p9_3 (v21 : Int) (h0 : List (ByteArray × ByteArray × ByteArray × Unit)) (x1 : List (ByteArray × ByteArray × ByteArray × Unit)) : Am.runN tab ext9 false 33 [] 2000 [] [] [6, 19, 20, 21] [2] [true] (cutAt b9 5) (E9_5 v21 h0 x1) (L9_5 v21 h0 x1) = some (cutAt b9 5, E9_5 (v21 + 1) (g17_0 h0 (List.getD x1 (Int.toNat v21) (ByteArray.empty, ByteArray.empty, ByteArray.empty, ()))) (x1), L9_5 (v21 + 1) (g17_0 h0 (List.getD x1 (Int.toNat v21) (ByteArray.empty, ByteArray.empty, ByteArray.empty, ()))) (x1), [Decidable.decide (v21 < (↑(List.length x1) : Int)) = Bool.true, 0 ≤ v21, v21 < (↑(List.length x1) : Int), P17 h0 (List.getD x1 (Int.toNat v21) (ByteArray.empty, ByteArray.empty, ByteArray.empty, ())), InR IntKind.i64 (v21 + 1)]) := by kernel_rfl
theorem p9_4 (v21 : Int) (h0 : List (ByteArray × ByteArray × ByteArray × Unit)) (x1 : List (ByteArray × ByteArray × ByteArray × Unit)) : runF tab ext9 false 33 [] 2000 [] oks9 kds9 tys9 Try.f9.results [false, true] (cutAt b9 5) (E9_5 v21 h0 x1) (L9_5 v21 h0 x1) = some ([Dyn.mk (Ty.sl (Ty.cons Ty.str (Ty.cons Ty.str (Ty.cons Ty.str Ty.unit)))) [], Dyn.mk (Ty.int IntKind.i64) 5], [], [Decidable.decide (v21 < (↑(List.length x1) : Int)) = Bool.false, Decidable.decide ((↑(List.length h0) : Int) > 32) = Bool.true]) := by kernel_rfl
theorem p9_5 (v21 : Int) (h0 : List (ByteArray × ByteArray × ByteArray × Unit)) (x1 : List (ByteArray × ByteArray × ByteArray × Unit)) : runF tab ext9 false 33 [] 2000 [] oks9 kds9 tys9 Try.f9.results [false, false] (cutAt b9 5) (E9_5 v21 h0 x1) (L9_5 v21 h0 x1) = some ([Dyn.mk (Ty.sl (Ty.cons Ty.str (Ty.cons Ty.str (Ty.cons Ty.str Ty.unit)))) h0, Dyn.mk (Ty.int IntKind.i64) 0], [], [Decidable.decide (v21 < (↑(List.length x1) : Int)) = Bool.false, Decidable.decide ((↑(List.length h0) : Int) > 32) = Bool.false]) := by kernel_rfl
theorem snd9 : ∀ n, (∀ (x0 : List (ByteArray × ByteArray × ByteArray × Unit)) (x1 : List (ByteArray × ByteArray × ByteArray × Unit)) ds, R9 n x0 x1 ds → ∀ K q, AtV Try.prog 9 (PostR kds9 oks9 ds [] [] q K) 33 K q [] [.code b9] (entE 0 0 sig9 (x0, x1, ())) (entL sig9 (x0, x1, ()))) ∧ (∀ (v21 : Int) (h0 : List (ByteArray × ByteArray × ByteArray × Unit)) (x1 : List (ByteArray × ByteArray × ByteArray × Unit)) ds, R9_5 n v21 h0 x1 ds → ∀ K q, AtV Try.prog 9 (PostR kds9 oks9 ds [] [] q K) 33 K q [] (cutAt b9 5) (E9_5 v21 h0 x1) (L9_5 v21 h0 x1)) := by
  intro n
  induction n with
  | zero => exact ⟨fun _ _ _ h => by simp only [R9] at h, fun _ _ _ _ h => by simp only [R9_5] at h⟩
  | succ n ih =>
  obtain ⟨ih, ih5⟩ := ih
  refine ⟨?_, ?_⟩
  · intro x0 x1 ds h K q
    rw [R9] at h
    by_cases b0 : (!g15_0 x0) = true
    · rw [if_pos b0] at h
      subst h
      exact AtV.fin Try.func9 tabOk ext9Ok mixed (p9_0 x0 x1) ⟨trivial, b0, rfl, trivial⟩
    · rw [if_neg b0] at h
      replace b0 := Bool.eq_false_iff.2 b0
      by_cases b1 : (!g15_0 x1) = true
      · rw [if_pos b1] at h
        subst h
        exact AtV.fin Try.func9 tabOk ext9Ok mixed (p9_1 x0 x1) ⟨trivial, b0, trivial, b1, trivial⟩
      · rw [if_neg b1] at h
        replace b1 := Bool.eq_false_iff.2 b1
        obtain ⟨s0, h⟩ := h
        exact AtV.runN tabOk ext9Ok mixed (p9_2 x0 x1) ⟨trivial, b0, trivial, b1, s0, trivial⟩ (ih5 _ _ _ _ h K q)

  · intro v21 h0 x1 ds h K q
    rw [R9_5] at h
    by_cases b0 : (Decidable.decide (v21 < (↑(List.length x1) : Int))) = true
    · rw [if_pos b0] at h
      obtain ⟨s0, s1, h⟩ := h
      obtain ⟨s2, h⟩ := h
      obtain ⟨s3, h⟩ := h
      exact AtV.runN tabOk ext9Ok mixed (p9_3 v21 h0 x1) ⟨b0, s0, s1, s2, s3, trivial⟩ (ih5 _ _ _ _ h K q)
    · rw [if_neg b0] at h
      replace b0 := Bool.eq_false_iff.2 b0
      by_cases b1 : (Decidable.decide ((↑(List.length h0) : Int) > 32)) = true
      · rw [if_pos b1] at h
        subst h
        exact AtV.fin Try.func9 tabOk ext9Ok mixed (p9_4 v21 h0 x1) ⟨b0, b1, trivial⟩
      · rw [if_neg b1] at h
        replace b1 := Bool.eq_false_iff.2 b1
        subst h
        exact AtV.fin Try.func9 tabOk ext9Ok mixed (p9_5 v21 h0 x1) ⟨b0, b1, trivial⟩



def all9 (x0 x1 : List (ByteArray × ByteArray × ByteArray × Unit)) : List (ByteArray × ByteArray × ByteArray × Unit) := x1.foldl (fun h t => g17_0 h t) x0
def g9_0 (x0 x1 : List (ByteArray × ByteArray × ByteArray × Unit)) : List (ByteArray × ByteArray × ByteArray × Unit) := if (g15_0 x0 && g15_0 x1) = true then (if (all9 x0 x1).length > 32 then [] else all9 x0 x1) else []
def g9_1 (x0 x1 : List (ByteArray × ByteArray × ByteArray × Unit)) : Int := if (g15_0 x0 && g15_0 x1) = true then (if (all9 x0 x1).length > 32 then 5 else 0) else 1
def P9 (x0 x1 : List (ByteArray × ByteArray × ByteArray × Unit)) : Prop := x0.length + x1.length ≤ 1048576

theorem top9 (x0 x1 : List (ByteArray × ByteArray × ByteArray × Unit)) (hp : P9 x0 x1) : ∃ n, R9 n x0 x1 [⟨.sl (.cons .str (.cons .str (.cons .str .unit))), g9_0 x0 x1⟩, ⟨.int .i64, g9_1 x0 x1⟩] := by
  have hl : x0.length + x1.length ≤ 1048576 := hp
  have hm : x1.length ≤ maxLen := by unfold maxLen; omega
  unfold g9_0 g9_1
  refine ⟨x1.length + 1 + 1, ?_⟩
  rw [R9]
  cases h0 : g15_0 x0 with
  | false => simp
  | true =>
    cases h1 : g15_0 x1 with
    | false => simp
    | true =>
      simp only [Bool.not_true, Bool.false_eq_true, if_false, Bool.and_true, if_true]
      refine ⟨(show x0.length ≤ 1048576 from by omega), ?_⟩
      refine loop_fold (β := List (ByteArray × ByteArray × ByteArray × Unit)) (δ := List Dyn) (b := x0) x1 (ByteArray.empty, ByteArray.empty, ByteArray.empty, ()) (fun h t => g17_0 h t) (fun h => [(⟨.sl (.cons .str (.cons .str (.cons .str .unit))), if h.length > 32 then [] else h⟩ : Dyn), ⟨.int .i64, (if h.length > 32 then (5 : Int) else 0)⟩]) (fun n h => h.length ≤ x0.length + n) (fun n i h ds => R9_5 n i h x1 ds) (by omega) (fun n h hs => ?_) (fun n i h hi hs => ⟨?_, fun ds hr => ?_⟩)
      · show R9_5 (n + 1) (x1.length : Int) h x1 _
        rw [R9_5, if_neg (by simp)]
        by_cases hc : h.length > 32
        · rw [if_pos (by simp only [decide_eq_true_eq]; omega), if_pos hc, if_pos hc]
        · rw [if_neg (by simp only [decide_eq_true_eq]; omega), if_neg hc, if_neg hc]
      · have := len17 h (x1.getD i (ByteArray.empty, ByteArray.empty, ByteArray.empty, ()))
        show (g17_0 h (x1.getD i (ByteArray.empty, ByteArray.empty, ByteArray.empty, ()))).length ≤ x0.length + (i + 1)
        omega
      · have hup := inR_up hm hi
        have q : P17 h (x1.getD i (ByteArray.empty, ByteArray.empty, ByteArray.empty, ())) := pre17 h _ (by omega)
        show R9_5 (n + 1) (i : Int) h x1 ds
        rw [R9_5, if_pos (by simp only [decide_eq_true_eq]; omega)]
        simp only [Int.toNat_natCast]
        exact ⟨by omega, by omega, q, hup, hr⟩

def S9 : Am.Spec := { sig := sig9, pre := fun ⟨x0, x1, _⟩ => P9 x0 x1, res := fun ⟨x0, x1, _⟩ => [⟨.sl (.cons .str (.cons .str (.cons .str .unit))), g9_0 x0 x1⟩, ⟨.int .i64, g9_1 x0 x1⟩] }
theorem con9 : Contract Try.prog 9 S9 := contract_of Try.func9 hb9 (Nat.le_of_ble_eq_true (by kernel_rfl)) (fun ⟨x0, x1, _⟩ h hwf K q =>
  let ⟨n, hn⟩ := top9 x0 x1 h
  (snd9 n).1 x0 x1 _ hn K q)

end
end Go.Proofs.Ytohojjcoikkmcaa

/- Function 10 (impl.BlocksOfKind): its runs between cut points. Written by a program of this repo (gen). -/
set_option linter.unusedVariables false
set_option linter.unusedSimpArgs false
set_option maxRecDepth 100000
namespace Go.Proofs.Ytohojjcoikkmcaa
open Go Go.Am Go.Proofs
noncomputable section
def ext10 : Ext := [(15, S15)]
theorem call10_15 : Callable Try.prog 15 := ⟨Try.f15, Try.func15, by kernel_rfl, by kernel_rfl⟩
theorem ext10Ok : ExtOk Try.prog ext10 := ⟨⟨call10_15, con15⟩, trivial⟩

noncomputable def b10 : Code := bodyOf Try.f10
theorem hb10 : Try.f10.body = some b10 := by kernel_rfl
def sig10 : List AT := [AT.v (Ty.sl (Ty.cons Ty.str (Ty.cons Ty.str (Ty.cons Ty.str Ty.unit)))), AT.v (Ty.str)]
def tys10 : List Ty := [Ty.sl Ty.str, Ty.int IntKind.i64]
def kds10 : List RK := []
def oks10 : List AT := owns sig10
def E10_5 (v14 : Int) (h0 : List ByteArray) (x1 : ByteArray) (x0 : List (ByteArray × ByteArray × ByteArray × Unit)) : Env := [(1, PV.a (Atom.val (Value.string x1))), (6, PV.a (Atom.osl 0 Option.none)), (12, PV.a (Atom.sl (Ty.cons Ty.str (Ty.cons Ty.str (Ty.cons Ty.str Ty.unit))) x0)), (13, PV.a (Atom.val (Value.int IntKind.i64 (↑(List.length x0) : Int)))), (14, PV.a (Atom.val (Value.int IntKind.i64 v14)))]
def L10_5 (v14 : Int) (h0 : List ByteArray) (x1 : ByteArray) (x0 : List (ByteArray × ByteArray × ByteArray × Unit)) : Heap := [Option.some (Arr.mk Ty.str h0 Bool.false Option.none Option.none)]
mutual
def R10 : Nat → List (ByteArray × ByteArray × ByteArray × Unit) → ByteArray → List Dyn → Prop
  | 0, _, _, _ => False
  | n + 1, x0, x1, ds => (if (!g15_0 x0) = true then (ds = [Dyn.mk (Ty.sl Ty.str) [], Dyn.mk (Ty.int IntKind.i64) 1]) else (R10_5 n (0) ([]) (x1) (x0) ds))
def R10_5 : Nat → Int → List ByteArray → ByteArray → List (ByteArray × ByteArray × ByteArray × Unit) → List Dyn → Prop
  | 0, _, _, _, _, _ => False
  | n + 1, v14, h0, x1, x0, ds => (if (Decidable.decide (v14 < (↑(List.length x0) : Int))) = true then ((0 ≤ v14) ∧ (v14 < (↑(List.length x0) : Int)) ∧ (if (ByteArray.toList (Prod.fst (List.getD x0 (Int.toNat v14) (ByteArray.empty, ByteArray.empty, ByteArray.empty, ()))) == ByteArray.toList x1) = true then (((List.length h0 + 1) * 16 ≤ 140737488355328) ∧ ((InR IntKind.i64 (v14 + 1)) ∧ (R10_5 n (v14 + 1) (h0 ++ [Prod.fst (Prod.snd (List.getD x0 (Int.toNat v14) (ByteArray.empty, ByteArray.empty, ByteArray.empty, ())))]) (x1) (x0) ds))) else ((InR IntKind.i64 (v14 + 1)) ∧ (R10_5 n (v14 + 1) (h0) (x1) (x0) ds)))) else (ds = [Dyn.mk (Ty.sl Ty.str) h0, Dyn.mk (Ty.int IntKind.i64) 0]))
end
theorem p10_0 (x0 : List (ByteArray × ByteArray × ByteArray × Unit)) (x1 : ByteArray) : runF tab ext10 false 29 [] 2000 [] oks10 kds10 tys10 Try.f10.results [true] [.code b10] (entE 0 0 sig10 (x0, x1, ())) (entL sig10 (x0, x1, ())) = some ([Dyn.mk (Ty.sl Ty.str) [], Dyn.mk (Ty.int IntKind.i64) 1], [], [True, (!g15_0 x0) = Bool.true]) := by kernel_rfl
theorem p10_1 (x0 : List (ByteArray × ByteArray × ByteArray × Unit)) (x1 : ByteArray) : Am.runN tab ext10 false 29 [] 2000 [] [(6, Ty.str)] [1, 6, 12, 13, 14] [0] [false] [.code b10] (entE 0 0 sig10 (x0, x1, ())) (entL sig10 (x0, x1, ())) = some (cutAt b10 5, E10_5 (0) ([]) (x1) (x0), L10_5 (0) ([]) (x1) (x0), [True, (!g15_0 x0) = Bool.false]) := by kernel_rfl
theorem p10_2 (v14 : Int) (h0 : List ByteArray) (x1 : ByteArray) (x0 : List (ByteArray × ByteArray × ByteArray × Unit)) : Am.runN tab ext10 false 29 [] 2000 [] [(6, Ty.str)] [1, 6, 12, 13, 14] [0] [true, true] (cutAt b10 5) (E10_5 v14 h0 x1 x0) (L10_5 v14 h0 x1 x0) = some (cutAt b10 5, E10_5 (v14 + 1) (h0 ++ [Prod.fst (Prod.snd (List.getD x0 (Int.toNat v14) (ByteArray.empty, ByteArray.empty, ByteArray.empty, ())))]) (x1) (x0), L10_5 (v14 + 1) (h0 ++ [Prod.fst (Prod.snd (List.getD x0 (Int.toNat v14) (ByteArray.empty, ByteArray.empty, ByteArray.empty, ())))]) (x1) (x0), [Decidable.decide (v14 < (↑(List.length x0) : Int)) = Bool.true, 0 ≤ v14, v14 < (↑(List.length x0) : Int), (ByteArray.toList (Prod.fst (List.getD x0 (Int.toNat v14) (ByteArray.empty, ByteArray.empty, ByteArray.empty, ()))) == ByteArray.toList x1) = Bool.true, (List.length h0 + 1) * 16 ≤ 140737488355328, InR IntKind.i64 (v14 + 1)]) := by kernel_rfl
theorem p10_3 (v14 : Int) (h0 : List ByteArray) (x1 : ByteArray) (x0 : List (ByteArray × ByteArray × ByteArray × Unit)) : Am.runN tab ext10 false 29 [] 2000 [] [(6, Ty.str)] [1, 6, 12, 13, 14] [0] [true, false] (cutAt b10 5) (E10_5 v14 h0 x1 x0) (L10_5 v14 h0 x1 x0) = some (cutAt b10 5, E10_5 (v14 + 1) (h0) (x1) (x0), L10_5 (v14 + 1) (h0) (x1) (x0), [Decidable.decide (v14 < (↑(List.length x0) : Int)) = Bool.true, 0 ≤ v14, v14 < (↑(List.length x0) : Int), (ByteArray.toList (Prod.fst (List.getD x0 (Int.toNat v14) (ByteArray.empty, ByteArray.empty, ByteArray.empty, ()))) == ByteArray.toList x1) = Bool.false, InR IntKind.i64 (v14 + 1)]) := by kernel_rfl
theorem p10_4 (v14 : Int) (h0 : List ByteArray) (x1 : ByteArray) (x0 : List (ByteArray × ByteArray × ByteArray × Unit)) : runF tab ext10 false 29 [] 2000 [] oks10 kds10 tys10 Try.f10.results [false] (cutAt b10 5) (E10_5 v14 h0 x1 x0) (L10_5 v14 h0 x1 x0) = some ([Dyn.mk (Ty.sl Ty.str) h0, Dyn.mk (Ty.int IntKind.i64) 0], [], [Decidable.decide (v14 < (↑(List.length x0) : Int)) = Bool.false]) := by kernel_rfl
theorem snd10 : ∀ n, (∀ (x0 : List (ByteArray × ByteArray × ByteArray × Unit)) (x1 : ByteArray) ds, R10 n x0 x1 ds → ∀ K q, AtV Try.prog 10 (PostR kds10 oks10 ds [] [] q K) 29 K q [] [.code b10] (entE 0 0 sig10 (x0, x1, ())) (entL sig10 (x0, x1, ()))) ∧ (∀ (v14 : Int) (h0 : List ByteArray) (x1 : ByteArray) (x0 : List (ByteArray × ByteArray × ByteArray × Unit)) ds, R10_5 n v14 h0 x1 x0 ds → ∀ K q, AtV Try.prog 10 (PostR kds10 oks10 ds [] [] q K) 29 K q [] (cutAt b10 5) (E10_5 v14 h0 x1 x0) (L10_5 v14 h0 x1 x0)) := by
  intro n
  induction n with
  | zero => exact ⟨fun _ _ _ h => by simp only [R10] at h, fun _ _ _ _ _ h => by simp only [R10_5] at h⟩
  | succ n ih =>
  obtain ⟨ih, ih5⟩ := ih
  refine ⟨?_, ?_⟩
  · intro x0 x1 ds h K q
    rw [R10] at h
    by_cases b0 : (!g15_0 x0) = true
    · rw [if_pos b0] at h
      subst h
      exact AtV.fin Try.func10 tabOk ext10Ok mixed (p10_0 x0 x1) ⟨trivial, b0, trivial⟩
    · rw [if_neg b0] at h
      replace b0 := Bool.eq_false_iff.2 b0
      exact AtV.runN tabOk ext10Ok mixed (p10_1 x0 x1) ⟨trivial, b0, trivial⟩ (ih5 _ _ _ _ _ h K q)

  · intro v14 h0 x1 x0 ds h K q
    rw [R10_5] at h
    by_cases b0 : (Decidable.decide (v14 < (↑(List.length x0) : Int))) = true
    · rw [if_pos b0] at h
      obtain ⟨s0, s1, h⟩ := h
      by_cases b1 : (ByteArray.toList (Prod.fst (List.getD x0 (Int.toNat v14) (ByteArray.empty, ByteArray.empty, ByteArray.empty, ()))) == ByteArray.toList x1) = true
      · rw [if_pos b1] at h
        obtain ⟨s2, h⟩ := h
        obtain ⟨s3, h⟩ := h
        exact AtV.runN tabOk ext10Ok mixed (p10_2 v14 h0 x1 x0) ⟨b0, s0, s1, b1, s2, s3, trivial⟩ (ih5 _ _ _ _ _ h K q)
      · rw [if_neg b1] at h
        replace b1 := Bool.eq_false_iff.2 b1
        obtain ⟨s2, h⟩ := h
        exact AtV.runN tabOk ext10Ok mixed (p10_3 v14 h0 x1 x0) ⟨b0, s0, s1, b1, s2, trivial⟩ (ih5 _ _ _ _ _ h K q)
    · rw [if_neg b0] at h
      replace b0 := Bool.eq_false_iff.2 b0
      subst h
      exact AtV.fin Try.func10 tabOk ext10Ok mixed (p10_4 v14 h0 x1 x0) ⟨b0, trivial⟩



def names10 (x0 : List (ByteArray × ByteArray × ByteArray × Unit)) (x1 : ByteArray) : List ByteArray := (x0.filter fun b => ByteArray.toList b.1 == ByteArray.toList x1).map fun b => b.2.1
def g10_0 (x0 : List (ByteArray × ByteArray × ByteArray × Unit)) (x1 : ByteArray) : List ByteArray := if g15_0 x0 = true then names10 x0 x1 else []
def g10_1 (x0 : List (ByteArray × ByteArray × ByteArray × Unit)) (x1 : ByteArray) : Int := if g15_0 x0 = true then 0 else 1
def P10 (x0 : List (ByteArray × ByteArray × ByteArray × Unit)) (x1 : ByteArray) : Prop := True

theorem top10 (x0 : List (ByteArray × ByteArray × ByteArray × Unit)) (x1 : ByteArray) : R10 (x0.length + 1 + 1) x0 x1 [⟨.sl .str, g10_0 x0 x1⟩, ⟨.int .i64, g10_1 x0 x1⟩] := by
  rw [R10]
  unfold g10_0 g10_1
  cases hok : g15_0 x0 with
  | false => rw [if_pos (by simp)]; rfl
  | true =>
    rw [if_neg (by simp)]
    have hlen : x0.length ≤ 32 := by
      unfold g15_0 at hok
      simp only [Bool.and_eq_true, decide_eq_true_eq] at hok
      exact hok.2
    have hm : x0.length ≤ maxLen := by unfold maxLen; omega
    have key := loop_fold (b := []) x0 (ByteArray.empty, ByteArray.empty, ByteArray.empty, ()) (fun (h : List ByteArray) b => if (ByteArray.toList b.1 == ByteArray.toList x1) = true then h ++ [b.2.1] else h) (fun h => [(⟨.sl .str, h⟩ : Dyn), ⟨.int .i64, (0 : Int)⟩]) (fun i h => h.length ≤ i) (fun n i h ds => R10_5 n i h x1 x0 ds) (by simp) (fun n h _ => ?_) (fun n i h hi hl => ?_)
    · rw [foldl_filter] at key
      simpa [names10] using key
    · show R10_5 (n + 1) x0.length h x1 x0 _
      rw [R10_5, if_neg (by simp)]
    · by_cases he : (ByteArray.toList (x0.getD i (ByteArray.empty, ByteArray.empty, ByteArray.empty, ())).1 == ByteArray.toList x1) = true
      · rw [if_pos he]
        refine ⟨len_up hl, fun ds hr => ?_⟩
        rw [R10_5, if_pos (by simp; omega)]
        simp only [Int.toNat_natCast]
        refine ⟨by omega, by omega, ?_⟩
        rw [if_pos he]
        exact ⟨by omega, inR_up hm hi, hr⟩
      · rw [if_neg he]
        refine ⟨by omega, fun ds hr => ?_⟩
        rw [R10_5, if_pos (by simp; omega)]
        simp only [Int.toNat_natCast]
        refine ⟨by omega, by omega, ?_⟩
        rw [if_neg he]
        exact ⟨inR_up hm hi, hr⟩

def S10 : Am.Spec := { sig := sig10, pre := fun ⟨x0, x1, _⟩ => P10 x0 x1, res := fun ⟨x0, x1, _⟩ => [⟨.sl .str, g10_0 x0 x1⟩, ⟨.int .i64, g10_1 x0 x1⟩] }
theorem con10 : Contract Try.prog 10 S10 := contract_of Try.func10 hb10 (Nat.le_of_ble_eq_true (by kernel_rfl)) (fun ⟨x0, x1, _⟩ h hwf K q =>
  (snd10 _).1 x0 x1 _ (top10 x0 x1) K q)

end
end Go.Proofs.Ytohojjcoikkmcaa

/- Function 21 (spec.l29Same): its runs between cut points. Written by a program of this repo (gen). -/
set_option linter.unusedVariables false
set_option linter.unusedSimpArgs false
set_option maxRecDepth 100000
namespace Go.Proofs.Ytohojjcoikkmcaa
open Go Go.Am Go.Proofs
noncomputable section
def ext21 : Ext := []
theorem ext21Ok : ExtOk Try.prog ext21 := trivial

noncomputable def b21 : Code := bodyOf Try.f21
theorem hb21 : Try.f21.body = some b21 := by kernel_rfl
def sig21 : List AT := [AT.v (Ty.sl (Ty.cons Ty.str (Ty.cons Ty.str (Ty.cons Ty.str Ty.unit)))), AT.v (Ty.sl (Ty.cons Ty.str (Ty.cons Ty.str (Ty.cons Ty.str Ty.unit))))]
def tys21 : List Ty := [Ty.bool]
def kds21 : List RK := []
def oks21 : List AT := owns sig21
def E21_4 (v5 : Int) (x0 : List (ByteArray × ByteArray × ByteArray × Unit)) (x1 : List (ByteArray × ByteArray × ByteArray × Unit)) : Env := [(0, PV.a (Atom.sl (Ty.cons Ty.str (Ty.cons Ty.str (Ty.cons Ty.str Ty.unit))) x0)), (1, PV.a (Atom.sl (Ty.cons Ty.str (Ty.cons Ty.str (Ty.cons Ty.str Ty.unit))) x1)), (5, PV.a (Atom.val (Value.int IntKind.i64 v5)))]
def L21_4 (v5 : Int) (x0 : List (ByteArray × ByteArray × ByteArray × Unit)) (x1 : List (ByteArray × ByteArray × ByteArray × Unit)) : Heap := []
mutual
def R21 : Nat → List (ByteArray × ByteArray × ByteArray × Unit) → List (ByteArray × ByteArray × ByteArray × Unit) → List Dyn → Prop
  | 0, _, _, _ => False
  | n + 1, x0, x1, ds => (if ((↑(List.length x0) : Int) != (↑(List.length x1) : Int)) = true then (ds = [Dyn.mk Ty.bool Bool.false]) else (R21_4 n (0) (x0) (x1) ds))
def R21_4 : Nat → Int → List (ByteArray × ByteArray × ByteArray × Unit) → List (ByteArray × ByteArray × ByteArray × Unit) → List Dyn → Prop
  | 0, _, _, _, _ => False
  | n + 1, v5, x0, x1, ds => (if (Decidable.decide (v5 < (↑(List.length x0) : Int))) = true then ((0 ≤ v5) ∧ (v5 < (↑(List.length x0) : Int)) ∧ ((0 ≤ v5) ∧ (v5 < (↑(List.length x1) : Int)) ∧ (if (!eqD (Ty.cons Ty.str (Ty.cons Ty.str (Ty.cons Ty.str Ty.unit))) (List.getD x0 (Int.toNat v5) (ByteArray.empty, ByteArray.empty, ByteArray.empty, ())) (List.getD x1 (Int.toNat v5) (ByteArray.empty, ByteArray.empty, ByteArray.empty, ()))) = true then (ds = [Dyn.mk Ty.bool Bool.false]) else ((InR IntKind.i64 (v5 + 1)) ∧ (R21_4 n (v5 + 1) (x0) (x1) ds))))) else (ds = [Dyn.mk Ty.bool Bool.true]))
end
theorem p21_0 (x0 : List (ByteArray × ByteArray × ByteArray × Unit)) (x1 : List (ByteArray × ByteArray × ByteArray × Unit)) : runF tab ext21 false 26 [] 2000 [] oks21 kds21 tys21 Try.f21.results [true] [.code b21] (entE 0 0 sig21 (x0, x1, ())) (entL sig21 (x0, x1, ())) = some ([Dyn.mk Ty.bool Bool.false], [], [((↑(List.length x0) : Int) != (↑(List.length x1) : Int)) = Bool.true]) := by kernel_rfl
theorem p21_1 (x0 : List (ByteArray × ByteArray × ByteArray × Unit)) (x1 : List (ByteArray × ByteArray × ByteArray × Unit)) : Am.runN tab ext21 false 26 [] 2000 [] [] [0, 1, 5] [] [false] [.code b21] (entE 0 0 sig21 (x0, x1, ())) (entL sig21 (x0, x1, ())) = some (cutAt b21 4, E21_4 (0) (x0) (x1), L21_4 (0) (x0) (x1), [((↑(List.length x0) : Int) != (↑(List.length x1) : Int)) = Bool.false]) := by kernel_rfl
theorem p21_2 (v5 : Int) (x0 : List (ByteArray × ByteArray × ByteArray × Unit)) (x1 : List (ByteArray × ByteArray × ByteArray × Unit)) : runF tab ext21 false 26 [] 2000 [] oks21 kds21 tys21 Try.f21.results [true, true] (cutAt b21 4) (E21_4 v5 x0 x1) (L21_4 v5 x0 x1) = some ([Dyn.mk Ty.bool Bool.false], [], [Decidable.decide (v5 < (↑(List.length x0) : Int)) = Bool.true, 0 ≤ v5, v5 < (↑(List.length x0) : Int), 0 ≤ v5, v5 < (↑(List.length x1) : Int), (!eqD (Ty.cons Ty.str (Ty.cons Ty.str (Ty.cons Ty.str Ty.unit))) (List.getD x0 (Int.toNat v5) (ByteArray.empty, ByteArray.empty, ByteArray.empty, ())) (List.getD x1 (Int.toNat v5) (ByteArray.empty, ByteArray.empty, ByteArray.empty, ()))) = Bool.true]) := by kernel_rfl
theorem p21_3 (v5 : Int) (x0 : List (ByteArray × ByteArray × ByteArray × Unit)) (x1 : List (ByteArray × ByteArray × ByteArray × Unit)) : Am.runN tab ext21 false 26 [] 2000 [] [] [0, 1, 5] [] [true, false] (cutAt b21 4) (E21_4 v5 x0 x1) (L21_4 v5 x0 x1) = some (cutAt b21 4, E21_4 (v5 + 1) (x0) (x1), L21_4 (v5 + 1) (x0) (x1), [Decidable.decide (v5 < (↑(List.length x0) : Int)) = Bool.true, 0 ≤ v5, v5 < (↑(List.length x0) : Int), 0 ≤ v5, v5 < (↑(List.length x1) : Int), (!eqD (Ty.cons Ty.str (Ty.cons Ty.str (Ty.cons Ty.str Ty.unit))) (List.getD x0 (Int.toNat v5) (ByteArray.empty, ByteArray.empty, ByteArray.empty, ())) (List.getD x1 (Int.toNat v5) (ByteArray.empty, ByteArray.empty, ByteArray.empty, ()))) = Bool.false, InR IntKind.i64 (v5 + 1)]) := by kernel_rfl
theorem p21_4 (v5 : Int) (x0 : List (ByteArray × ByteArray × ByteArray × Unit)) (x1 : List (ByteArray × ByteArray × ByteArray × Unit)) : runF tab ext21 false 26 [] 2000 [] oks21 kds21 tys21 Try.f21.results [false] (cutAt b21 4) (E21_4 v5 x0 x1) (L21_4 v5 x0 x1) = some ([Dyn.mk Ty.bool Bool.true], [], [Decidable.decide (v5 < (↑(List.length x0) : Int)) = Bool.false]) := by kernel_rfl
theorem snd21 : ∀ n, (∀ (x0 : List (ByteArray × ByteArray × ByteArray × Unit)) (x1 : List (ByteArray × ByteArray × ByteArray × Unit)) ds, R21 n x0 x1 ds → ∀ K q, AtV Try.prog 21 (PostR kds21 oks21 ds [] [] q K) 26 K q [] [.code b21] (entE 0 0 sig21 (x0, x1, ())) (entL sig21 (x0, x1, ()))) ∧ (∀ (v5 : Int) (x0 : List (ByteArray × ByteArray × ByteArray × Unit)) (x1 : List (ByteArray × ByteArray × ByteArray × Unit)) ds, R21_4 n v5 x0 x1 ds → ∀ K q, AtV Try.prog 21 (PostR kds21 oks21 ds [] [] q K) 26 K q [] (cutAt b21 4) (E21_4 v5 x0 x1) (L21_4 v5 x0 x1)) := by
  intro n
  induction n with
  | zero => exact ⟨fun _ _ _ h => by simp only [R21] at h, fun _ _ _ _ h => by simp only [R21_4] at h⟩
  | succ n ih =>
  obtain ⟨ih, ih4⟩ := ih
  refine ⟨?_, ?_⟩
  · intro x0 x1 ds h K q
    rw [R21] at h
    by_cases b0 : ((↑(List.length x0) : Int) != (↑(List.length x1) : Int)) = true
    · rw [if_pos b0] at h
      subst h
      exact AtV.fin Try.func21 tabOk ext21Ok mixed (p21_0 x0 x1) ⟨b0, trivial⟩
    · rw [if_neg b0] at h
      replace b0 := Bool.eq_false_iff.2 b0
      exact AtV.runN tabOk ext21Ok mixed (p21_1 x0 x1) ⟨b0, trivial⟩ (ih4 _ _ _ _ h K q)

  · intro v5 x0 x1 ds h K q
    rw [R21_4] at h
    by_cases b0 : (Decidable.decide (v5 < (↑(List.length x0) : Int))) = true
    · rw [if_pos b0] at h
      obtain ⟨s0, s1, h⟩ := h
      obtain ⟨s2, s3, h⟩ := h
      by_cases b1 : (!eqD (Ty.cons Ty.str (Ty.cons Ty.str (Ty.cons Ty.str Ty.unit))) (List.getD x0 (Int.toNat v5) (ByteArray.empty, ByteArray.empty, ByteArray.empty, ())) (List.getD x1 (Int.toNat v5) (ByteArray.empty, ByteArray.empty, ByteArray.empty, ()))) = true
      · rw [if_pos b1] at h
        subst h
        exact AtV.fin Try.func21 tabOk ext21Ok mixed (p21_2 v5 x0 x1) ⟨b0, s0, s1, s2, s3, b1, trivial⟩
      · rw [if_neg b1] at h
        replace b1 := Bool.eq_false_iff.2 b1
        obtain ⟨s4, h⟩ := h
        exact AtV.runN tabOk ext21Ok mixed (p21_3 v5 x0 x1) ⟨b0, s0, s1, s2, s3, b1, s4, trivial⟩ (ih4 _ _ _ _ h K q)
    · rw [if_neg b0] at h
      replace b0 := Bool.eq_false_iff.2 b0
      subst h
      exact AtV.fin Try.func21 tabOk ext21Ok mixed (p21_4 v5 x0 x1) ⟨b0, trivial⟩



theorem eq21 (x0 x1 : List (ByteArray × ByteArray × ByteArray × Unit)) (hl : x0.length = x1.length) (hm : x0.length ≤ maxLen) : ∀ k i : Nat, i + k = x0.length → R21_4 (k + 1) (i : Int) x0 x1 [⟨.bool, decide (x0.drop i = x1.drop i)⟩] := by
  intro k
  induction k with
  | zero =>
    intro i hi
    have h1 : ¬ (i : Int) < (x0.length : Int) := by omega
    rw [R21_4, if_neg (by simpa using h1), drop_end x0 i (by omega), drop_end x1 i (by omega)]
    simp
  | succ k ih =>
    intro i hi
    have h1 : (i : Int) < (x0.length : Int) := by omega
    rw [R21_4, if_pos (by simpa using h1)]
    refine ⟨by omega, h1, by omega, by omega, ?_⟩
    simp only [Int.toNat_natCast]
    rw [drop_get x0 i (ByteArray.empty, ByteArray.empty, ByteArray.empty, ()) (by omega), drop_get x1 i (ByteArray.empty, ByteArray.empty, ByteArray.empty, ()) (by omega)]
    by_cases he : x0.getD i (ByteArray.empty, ByteArray.empty, ByteArray.empty, ()) = x1.getD i (ByteArray.empty, ByteArray.empty, ByteArray.empty, ())
    · have hd := (eqD_eq (t := (.cons .str (.cons .str (.cons .str .unit)))) rfl).2 he
      rw [if_neg (by rw [hd]; simp)]
      refine ⟨inR_up hm (by omega), ?_⟩
      have := ih (i + 1) (by omega)
      simp only [he, List.cons.injEq, true_and]
      exact this
    · have hd : eqD (.cons .str (.cons .str (.cons .str .unit))) (x0.getD i (ByteArray.empty, ByteArray.empty, ByteArray.empty, ())) (x1.getD i (ByteArray.empty, ByteArray.empty, ByteArray.empty, ())) = false :=
        Bool.eq_false_iff.2 fun h => he ((eqD_eq (t := (.cons .str (.cons .str (.cons .str .unit)))) rfl).1 h)
      rw [if_pos (by rw [hd]; rfl)]
      simp only [he, List.cons.injEq, false_and, decide_false]

def g21_0 (x0 x1 : List (ByteArray × ByteArray × ByteArray × Unit)) : Bool := decide (x0 = x1)
def P21 (x0 x1 : List (ByteArray × ByteArray × ByteArray × Unit)) : Prop := True
def S21 : Am.Spec := { sig := sig21, pre := fun ⟨x0, x1, _⟩ => P21 x0 x1, res := fun ⟨x0, x1, _⟩ => [⟨Ty.bool, g21_0 x0 x1⟩] }
theorem con21 : Contract Try.prog 21 S21 := contract_of Try.func21 hb21 (Nat.le_of_ble_eq_true (by kernel_rfl)) (fun ⟨x0, x1, _⟩ h hwf K q => by
  refine (snd21 (x0.length + 2)).1 x0 x1 _ ?_ K q
  show R21 (x0.length + 1 + 1) x0 x1 [⟨Ty.bool, decide (x0 = x1)⟩]
  rw [R21]
  by_cases hl : x0.length = x1.length
  · rw [if_neg (by simp [hl])]
    have := eq21 x0 x1 hl hwf.1.1 x0.length 0 (by omega)
    simpa using this
  · rw [if_pos (by simp; omega)]
    have : x0 ≠ x1 := fun h => hl (by rw [h])
    simp [this])

end
end Go.Proofs.Ytohojjcoikkmcaa

/- Function 11 (spec.SameBlocks): its runs between cut points. Written by a program of this repo (gen). -/
set_option linter.unusedVariables false
set_option linter.unusedSimpArgs false
set_option maxRecDepth 100000
namespace Go.Proofs.Ytohojjcoikkmcaa
open Go Go.Am Go.Proofs
noncomputable section
def ext11 : Ext := [(21, S21)]
theorem call11_21 : Callable Try.prog 21 := ⟨Try.f21, Try.func21, by kernel_rfl, by kernel_rfl⟩
theorem ext11Ok : ExtOk Try.prog ext11 := ⟨⟨call11_21, con21⟩, trivial⟩

noncomputable def b11 : Code := bodyOf Try.f11
theorem hb11 : Try.f11.body = some b11 := by kernel_rfl
def sig11 : List AT := [AT.v (Ty.sl (Ty.cons Ty.str (Ty.cons Ty.str (Ty.cons Ty.str Ty.unit)))), AT.v (Ty.sl (Ty.cons Ty.str (Ty.cons Ty.str (Ty.cons Ty.str Ty.unit))))]
def tys11 : List Ty := [Ty.bool]
def kds11 : List RK := []
def oks11 : List AT := owns sig11
def P11 (x0 : List (ByteArray × ByteArray × ByteArray × Unit)) (x1 : List (ByteArray × ByteArray × ByteArray × Unit)) : Prop := True
def g11_0 (x0 : List (ByteArray × ByteArray × ByteArray × Unit)) (x1 : List (ByteArray × ByteArray × ByteArray × Unit)) : Bool := g21_0 x0 x1
theorem p11_0 (x0 : List (ByteArray × ByteArray × ByteArray × Unit)) (x1 : List (ByteArray × ByteArray × ByteArray × Unit)) : runF tab ext11 false 8 [] 2000 [] oks11 kds11 tys11 Try.f11.results [] [.code b11] (entE 0 0 sig11 (x0, x1, ())) (entL sig11 (x0, x1, ())) = some ([Dyn.mk Ty.bool (g21_0 x0 x1)], [], [True]) := by kernel_rfl
theorem at11 (x0 : List (ByteArray × ByteArray × ByteArray × Unit)) (x1 : List (ByteArray × ByteArray × ByteArray × Unit)) (h : P11 x0 x1) (K : Ctx) (q : Nat → Value) : AtV Try.prog 11 (PostR kds11 oks11 [⟨Ty.bool, g11_0 x0 x1⟩] [] [] q K) 8 K q [] [.code b11] (entE 0 0 sig11 (x0, x1, ())) (entL sig11 (x0, x1, ())) := by
  unfold P11 at h
  unfold g11_0
  exact AtV.fin Try.func11 tabOk ext11Ok mixed (p11_0 x0 x1) ⟨trivial, trivial⟩

def S11 : Am.Spec := { sig := sig11, pre := fun ⟨x0, x1, _⟩ => P11 x0 x1, res := fun ⟨x0, x1, _⟩ => [⟨Ty.bool, g11_0 x0 x1⟩], kds := kds11 }
theorem con11 : Contract Try.prog 11 S11 := contract_of Try.func11 hb11 (Nat.le_of_ble_eq_true (by kernel_rfl)) (fun ⟨x0, x1, _⟩ h _ K q => at11 x0 x1 h K q)


end
end Go.Proofs.Ytohojjcoikkmcaa

/- Function 12 (spec.ValidBlocks): its runs between cut points. Written by a program of this repo (gen). -/
set_option linter.unusedVariables false
set_option linter.unusedSimpArgs false
set_option maxRecDepth 100000
namespace Go.Proofs.Ytohojjcoikkmcaa
open Go Go.Am Go.Proofs
noncomputable section
def ext12 : Ext := [(22, S22)]
theorem call12_22 : Callable Try.prog 22 := ⟨Try.f22, Try.func22, by kernel_rfl, by kernel_rfl⟩
theorem ext12Ok : ExtOk Try.prog ext12 := ⟨⟨call12_22, con22⟩, trivial⟩

noncomputable def b12 : Code := bodyOf Try.f12
theorem hb12 : Try.f12.body = some b12 := by kernel_rfl
def sig12 : List AT := [AT.v (Ty.sl (Ty.cons Ty.str (Ty.cons Ty.str (Ty.cons Ty.str Ty.unit))))]
def tys12 : List Ty := [Ty.bool]
def kds12 : List RK := []
def oks12 : List AT := owns sig12
def P12 (x0 : List (ByteArray × ByteArray × ByteArray × Unit)) : Prop := True
def g12_0 (x0 : List (ByteArray × ByteArray × ByteArray × Unit)) : Bool := g22_0 x0
theorem p12_0 (x0 : List (ByteArray × ByteArray × ByteArray × Unit)) : runF tab ext12 false 5 [] 2000 [] oks12 kds12 tys12 Try.f12.results [] [.code b12] (entE 0 0 sig12 (x0, ())) (entL sig12 (x0, ())) = some ([Dyn.mk Ty.bool (g22_0 x0)], [], [True]) := by kernel_rfl
theorem at12 (x0 : List (ByteArray × ByteArray × ByteArray × Unit)) (h : P12 x0) (K : Ctx) (q : Nat → Value) : AtV Try.prog 12 (PostR kds12 oks12 [⟨Ty.bool, g12_0 x0⟩] [] [] q K) 5 K q [] [.code b12] (entE 0 0 sig12 (x0, ())) (entL sig12 (x0, ())) := by
  unfold P12 at h
  unfold g12_0
  exact AtV.fin Try.func12 tabOk ext12Ok mixed (p12_0 x0) ⟨trivial, trivial⟩

def S12 : Am.Spec := { sig := sig12, pre := fun ⟨x0, _⟩ => P12 x0, res := fun ⟨x0, _⟩ => [⟨Ty.bool, g12_0 x0⟩], kds := kds12 }
theorem con12 : Contract Try.prog 12 S12 := contract_of Try.func12 hb12 (Nat.le_of_ble_eq_true (by kernel_rfl)) (fun ⟨x0, _⟩ h _ K q => at12 x0 h K q)


end
end Go.Proofs.Ytohojjcoikkmcaa

/- A law that says how functions of the program and of the specification hang together. -/
set_option linter.unusedVariables false
set_option linter.unusedSimpArgs false
set_option maxRecDepth 100000
namespace Go.Proofs.Ytohojjcoikkmcaa
open Go Go.Am Go.Proofs
theorem name_eq (s : ByteArray) : g27_0 s = g45_0 s := by
  have hs : ∀ c, g51_0 c = (decide (97 ≤ c) && decide (c ≤ 122)) := fun c => by
    unfold g51_0
    by_cases h1 : (97 : Int) ≤ c <;> simp [h1]
  have hd : ∀ c, g52_0 c = (decide (48 ≤ c) && decide (c ≤ 57)) := fun c => by
    unfold g52_0
    by_cases h1 : (48 : Int) ≤ c <;> simp [h1]
  unfold g27_0 g45_0
  have hl := bytesOf_length s
  by_cases h1 : 1 ≤ s.size
  · cases hb : bytesOf s with
    | nil => rw [hb] at hl; simp at hl; omega
    | cons c r =>
      have hr : allI ok27 1 r = r.all fun b => g51_0 b || g52_0 b := by
        rw [← allI_plain (fun b => g51_0 b || g52_0 b) r 1]
        refine allI_congr r 1 fun j x hj => ?_
        have : (j == 0) = false := by simp; omega
        simp only [ok27, this, hs, hd, Bool.not_false, Bool.true_and]
      have h0 : ok27 0 c = g51_0 c := by simp [ok27, hs]
      simp only [allI, hr, h0, List.all_cons, List.getD_cons_zero]
      cases g51_0 c <;> simp
  · simp [h1]


end Go.Proofs.Ytohojjcoikkmcaa

/- A law that says how functions of the program and of the specification hang together. -/
set_option linter.unusedVariables false
set_option linter.unusedSimpArgs false
set_option maxRecDepth 100000
namespace Go.Proofs.Ytohojjcoikkmcaa
open Go Go.Am Go.Proofs

theorem index_one (c : UInt8) : ∀ s : List UInt8, Lib.index s [c] = Lib.indexByte s c
  | [] => rfl
  | b :: l => by
    have e : (List.isPrefixOf [c] (b :: l)) = (b == c) := by
      simp only [List.isPrefixOf, Bool.and_true]
      exact Bool.beq_comm
    rw [Lib.index, Lib.indexByte, index_one c l, e]

theorem contains_one (s : List UInt8) (c : UInt8) : Lib.contains s [c] = s.contains c := by
  rw [Lib.contains_iff_indexByte, Lib.contains, index_one]

theorem contains_nl (s : ByteArray) : (!g28_0 s (ByteArray.mk #[10])) = (bytesOf s).all fun b => !(b == 10) := by
  unfold g28_0
  rw [show (ByteArray.mk #[10]).data.toList = [10] from rfl, contains_one]
  show (!s.data.toList.contains 10) = ((s.data.toList.map fun b => (b.toNat : Int)).all fun b => !(b == 10))
  induction s.data.toList with
  | nil => rfl
  | cons c r ih =>
    rw [List.contains_cons, Bool.not_or, ih, List.map_cons, List.all_cons]
    congr 2
    by_cases h : c = 10
    · subst h; rfl
    · have h1 : ((10 : UInt8) == c) = false := by simp; exact fun e => h e.symm
      have h2 : ((c.toNat : Int) == 10) = false := by
        rw [beq_eq_false_iff_ne]
        intro e
        exact h (UInt8.toNat_inj.1 (by show c.toNat = 10; omega))
      rw [h1, h2]

theorem block_eq (x : ByteArray × ByteArray × ByteArray × Unit) : g16_0 x = g31_0 x := by
  obtain ⟨a, b, t, u⟩ := x
  unfold g16_0 g31_0
  simp only [name_eq, ← contains_nl]
  have hc : decide ((t.size : Int) ≤ 400) = decide (t.size ≤ 400) := by
    congr 1; exact propext ⟨fun h => by omega, fun h => by omega⟩
  rw [hc]
  cases g45_0 a <;> cases g45_0 b <;> cases decide (t.size ≤ 400) <;> cases g28_0 t (ByteArray.mk #[10]) <;> rfl

end Go.Proofs.Ytohojjcoikkmcaa

/- A law that says how functions of the program and of the specification hang together. -/
set_option linter.unusedVariables false
set_option linter.unusedSimpArgs false
set_option maxRecDepth 100000
namespace Go.Proofs.Ytohojjcoikkmcaa
open Go Go.Am Go.Proofs

theorem nan (s : ByteArray) : g48_0 s = false := by simp [g48_0]

theorem cmp_str (a b : ByteArray) : g41_0 a b = if Op.bytesLess (ByteArray.toList a) (ByteArray.toList b) = true then -1 else if (ByteArray.toList a == ByteArray.toList b) = true then 0 else 1 := by
  unfold g41_0
  simp only [nan, Bool.false_eq_true, if_false]
  cases Op.bytesLess (ByteArray.toList a) (ByteArray.toList b) <;> cases (ByteArray.toList a == ByteArray.toList b) <;> rfl

theorem before_cmp (a b : ByteArray × ByteArray × ByteArray × Unit) : (!decide (g26_0 a b ≥ 0)) = g32_0 a b := by
  unfold g26_0 g32_0
  simp only [g40_0, cmp_str]
  cases Op.bytesLess (ByteArray.toList a.1) (ByteArray.toList b.1) <;> cases (ByteArray.toList a.1 == ByteArray.toList b.1) <;> cases Op.bytesLess (ByteArray.toList a.2.1) (ByteArray.toList b.2.1) <;> cases (ByteArray.toList a.2.1 == ByteArray.toList b.2.1) <;> decide


end Go.Proofs.Ytohojjcoikkmcaa

/- A law that says how functions of the program and of the specification hang together. -/
set_option linter.unusedVariables false
set_option linter.unusedSimpArgs false
set_option maxRecDepth 100000
namespace Go.Proofs.Ytohojjcoikkmcaa
open Go Go.Am Go.Proofs

theorem blocks_eq (x : List (ByteArray × ByteArray × ByteArray × Unit)) : g15_0 x = g22_0 x := by
  unfold g15_0 g22_0
  congr 1
  refine allI_congr x 0 fun j y _ => ?_
  unfold ok15 ok22
  rw [block_eq, before_cmp]

end Go.Proofs.Ytohojjcoikkmcaa

/- A law that says how functions of the program and of the specification hang together. -/
set_option linter.unusedVariables false
set_option linter.unusedSimpArgs false
set_option maxRecDepth 100000
namespace Go.Proofs.Ytohojjcoikkmcaa
open Go Go.Am Go.Proofs

theorem cmp_lt (a b : (ByteArray × ByteArray × ByteArray × Unit)) : decide (g26_0 a b < 0) = g32_0 a b := by
  rw [← before_cmp]
  by_cases h : g26_0 a b < 0
  · have : ¬ g26_0 a b ≥ 0 := by omega
    simp [h]
  · have : g26_0 a b ≥ 0 := by omega
    simp [h, this]

theorem cmp_eq (a b : (ByteArray × ByteArray × ByteArray × Unit)) : (g26_0 a b == 0) = true ↔ twins a b := by
  unfold twins g26_0
  simp only [g40_0, cmp_str]
  rw [← bytes_eq, ← bytes_eq]
  have irr : ∀ s t : ByteArray, (ByteArray.toList s == ByteArray.toList t) = true → Op.bytesLess (ByteArray.toList s) (ByteArray.toList t) = false := fun s t h => by
    rw [(bytes_eq s t).1 h]; exact bl_irrefl _
  cases h1 : (ByteArray.toList a.1 == ByteArray.toList b.1) with
  | true =>
    rw [irr _ _ h1]
    cases h2 : (ByteArray.toList a.2.1 == ByteArray.toList b.2.1) with
    | true => rw [irr _ _ h2]; decide
    | false => cases Op.bytesLess (ByteArray.toList a.2.1) (ByteArray.toList b.2.1) <;> decide
  | false => cases Op.bytesLess (ByteArray.toList a.1) (ByteArray.toList b.1) <;> simp

end Go.Proofs.Ytohojjcoikkmcaa

/- A law that says how functions of the program and of the specification hang together. -/
set_option linter.unusedVariables false
set_option linter.unusedSimpArgs false
set_option maxRecDepth 100000
namespace Go.Proofs.Ytohojjcoikkmcaa
open Go Go.Am Go.Proofs

theorem bsearch_at (p : Nat → Bool) (k N : Nat) (hk : ∀ i, i < N → p i = decide (i < k)) : ∀ (m i j : Nat), j - i < m → i ≤ k → k ≤ j → j ≤ N → bsearch p m i j = k
  | 0, i, j, h, _, _, _ => by omega
  | m + 1, i, j, h, h1, h2, h3 => by
    simp only [bsearch]
    split
    · rw [hk _ (by omega)]
      split
      · rename_i h4
        simp only [decide_eq_true_eq] at h4
        exact bsearch_at p k N hk m _ _ (by omega) (by omega) h2 h3
      · rename_i h4
        simp only [decide_eq_true_eq] at h4
        exact bsearch_at p k N hk m _ _ (by omega) h1 (by omega) (by omega)
    · omega

end Go.Proofs.Ytohojjcoikkmcaa

/- A law that says how functions of the program and of the specification hang together. -/
set_option linter.unusedVariables false
set_option linter.unusedSimpArgs false
set_option maxRecDepth 100000
namespace Go.Proofs.Ytohojjcoikkmcaa
open Go Go.Am Go.Proofs

theorem placeS (x : List (ByteArray × ByteArray × ByteArray × Unit)) (t : (ByteArray × ByteArray × ByteArray × Unit)) (hs : Srt x) :
    k30c26 x t ≤ x.length ∧
    (∀ i, i < k30c26 x t → g32_0 (x.getD i (ByteArray.empty, ByteArray.empty, ByteArray.empty, ())) t = true) ∧
    (∀ i, k30c26 x t ≤ i → i < x.length → g32_0 (x.getD i (ByteArray.empty, ByteArray.empty, ByteArray.empty, ())) t = false) := by
  have hp : ∀ i, p30c26 x t i = g32_0 (x.getD i (ByteArray.empty, ByteArray.empty, ByteArray.empty, ())) t := fun i => cmp_lt _ _
  obtain ⟨k, hk1, hk2⟩ := cut_atS (p30c26 x t) x.length (fun i j hij hj h => by
    rw [hp] at h ⊢
    exact before_trans (hs i j hij hj) h)
  have e : k30c26 x t = k := bsearch_at _ k x.length hk2 _ _ _ (by omega) (by omega) hk1 (Nat.le_refl _)
  rw [e]
  refine ⟨hk1, fun i hi => ?_, fun i hi hl => ?_⟩
  · rw [← hp, hk2 i (by omega)]; simpa using hi
  · rw [← hp, hk2 i hl]; simpa using hi


theorem put_eq (x : List (ByteArray × ByteArray × ByteArray × Unit)) (t : (ByteArray × ByteArray × ByteArray × Unit)) (hs : Srt x) : g17_0 x t = g34_0 x t ∧ Srt (g34_0 x t) := by
  obtain ⟨p1, p2, p3⟩ := placeS x t hs
  have e := put_at x t hs _ p1 p2 p3
  have eb : g18_1 x t = true ↔ k30c26 x t < x.length ∧ twins (x.getD (k30c26 x t) (ByteArray.empty, ByteArray.empty, ByteArray.empty, ())) t := by
    unfold g18_1 g30c26_1 f30c26
    by_cases h : k30c26 x t < x.length
    · rw [if_pos h, cmp_eq]; exact ⟨fun hh => ⟨h, hh⟩, fun hh => hh.2⟩
    · rw [if_neg h]; exact ⟨fun hh => (by cases hh), fun hh => absurd hh.1 h⟩
  have e0 : g18_0 x t = ((k30c26 x t : Nat) : Int) := rfl
  generalize k30c26 x t = K at *
  rw [e]
  constructor
  · show (if g18_1 x t = true then x.set (g18_0 x t).toNat t else g29_0 x (g18_0 x t) [t]) = _
    rw [e0]
    by_cases h : K < x.length ∧ twins (x.getD K (ByteArray.empty, ByteArray.empty, ByteArray.empty, ())) t
    · rw [if_pos (eb.2 h), if_pos h, Int.toNat_natCast, List.set_eq_take_append_cons_drop, if_pos h.1]
    · rw [if_neg (fun hh => h (eb.1 hh)), if_neg h]
      unfold g29_0
      rw [Int.toNat_natCast]
      rfl
  · have low : ∀ y ∈ x.take K, g32_0 y t = true := fun y hy => by
      obtain ⟨i, hi, _, rfl⟩ := mem_take_get hy
      exact p2 i hi
    split
    · rename_i h
      refine srt_join (srt_take hs K) (srt_drop hs _) low (fun y hy => ?_)
      obtain ⟨i, hi, hl, rfl⟩ := mem_drop_get hy
      exact before_right h.2 (hs K i (by omega) hl)
    · rename_i h
      refine srt_join (srt_take hs K) (srt_drop hs _) low (fun y hy => ?_)
      obtain ⟨i, hi, hl, rfl⟩ := mem_drop_get hy
      refine before_tri (p3 i hi hl) (fun ht => ?_)
      rcases Nat.lt_or_ge K i with hlt | hge
      · have := before_left ht (hs K i hlt hl)
        rw [p3 K (Nat.le_refl _) (by omega)] at this
        cases this
      · have : i = K := by omega
        subst this
        exact h ⟨hl, ht⟩

end Go.Proofs.Ytohojjcoikkmcaa

/- A law that says how functions of the program and of the specification hang together. -/
set_option linter.unusedVariables false
set_option linter.unusedSimpArgs false
set_option maxRecDepth 100000
namespace Go.Proofs.Ytohojjcoikkmcaa
open Go Go.Am Go.Proofs

theorem found {x : List (ByteArray × ByteArray × ByteArray × Unit)} {t : (ByteArray × ByteArray × ByteArray × Unit)} (hs : Srt x) {i : Nat} (hi : i < x.length) (ht : twins (x.getD i (ByteArray.empty, ByteArray.empty, ByteArray.empty, ())) t) :
    g18_1 x t = true ∧ g18_0 x t = (i : Int) := by
  obtain ⟨p1, p2, p3⟩ := placeS x t hs
  have hk : k30c26 x t = i := by
    generalize k30c26 x t = K at *
    rcases Nat.lt_trichotomy i K with h | h | h
    · have := p2 i h
      rw [before_twins ht] at this
      cases this
    · exact h.symm
    · have := before_left ht (hs K i h hi)
      rw [p3 K (Nat.le_refl _) (by omega)] at this
      cases this
  have e0 : g18_0 x t = ((k30c26 x t : Nat) : Int) := rfl
  refine ⟨?_, by rw [e0, hk]⟩
  unfold g18_1 g30c26_1 f30c26
  rw [hk, if_pos hi]
  exact (cmp_eq _ _).2 ht

theorem at_pre {x : List (ByteArray × ByteArray × ByteArray × Unit)} (h : x.length ≤ 32) (t : (ByteArray × ByteArray × ByteArray × Unit)) : P18 x t := ⟨by show x.length ≤ 4611686018427387903; omega, trivial⟩

theorem put_law {x : List (ByteArray × ByteArray × ByteArray × Unit)} {t : (ByteArray × ByteArray × ByteArray × Unit)} (h : g22_0 x = true) (h1 : x.length ≤ 31) (ht : g31_0 t = true) :
    P6 x t ∧ g6_1 x t = 0 ∧ g6_0 x t = g34_0 x t ∧ (g34_0 x t).length ≤ x.length + 1 := by
  obtain ⟨e, _⟩ := put_eq x t (ok_srt h)
  have hl := len34 x t
  unfold P6 g6_1 g6_0
  rw [blocks_eq, block_eq, h, ht, e]
  have hn : ¬ ((g34_0 x t).length : Int) > 32 := by omega
  rw [decide_eq_false hn]
  exact ⟨⟨pre16 t, pre17 x t (by omega), trivial⟩, rfl, rfl, hl⟩

theorem named_law {x : List (ByteArray × ByteArray × ByteArray × Unit)} (h : g22_0 x = true) {y : (ByteArray × ByteArray × ByteArray × Unit)} (hy : y ∈ x) :
    P7 x y.1 y.2.1 ∧ g7_1 x y.1 y.2.1 = 0 ∧ g7_0 x y.1 y.2.1 = y.2.2.1 := by
  obtain ⟨i, hi, rfl⟩ := List.mem_iff_getElem.1 hy
  have hl := (sorted x h).1
  have hg := getD_lt x i (ByteArray.empty, ByteArray.empty, ByteArray.empty, ()) hi
  obtain ⟨f1, f2⟩ := found (t := (x[i].1, x[i].2.1, ByteArray.empty, ())) (ok_srt h) hi (by rw [hg]; exact ⟨rfl, rfl⟩)
  have hp := at_pre hl (x[i].1, x[i].2.1, ByteArray.empty, ())
  unfold P7 g7_1 g7_0
  rw [blocks_eq, h, f1, f2]
  have e2 : (Int.toNat ((i : Nat) : Int)) = i := Int.toNat_natCast i
  refine ⟨⟨hp, by omega, by omega, trivial⟩, rfl, ?_⟩
  show (x.getD (Int.toNat (i : Int)) (ByteArray.empty, ByteArray.empty, ByteArray.empty, ())).2.2.1 = _
  rw [e2, hg]

theorem drop_law {x a b : List (ByteArray × ByteArray × ByteArray × Unit)} {y : (ByteArray × ByteArray × ByteArray × Unit)} (h : g22_0 x = true) (e : x = a ++ y :: b) :
    P8 x y.1 y.2.1 ∧ g8_1 x y.1 y.2.1 = 0 ∧ g8_0 x y.1 y.2.1 = a ++ b := by
  have hl := (sorted x h).1
  have hi : a.length < x.length := by rw [e]; simp
  have hg : x.getD a.length (ByteArray.empty, ByteArray.empty, ByteArray.empty, ()) = y := by rw [e]; simp [List.getD_eq_getElem?_getD]
  obtain ⟨f1, f2⟩ := found (t := (y.1, y.2.1, ByteArray.empty, ())) (ok_srt h) hi (by rw [hg]; exact ⟨rfl, rfl⟩)
  have hp := at_pre hl (y.1, y.2.1, ByteArray.empty, ())
  have pc : P20 x := (show x.length ≤ 1048576 from by omega)
  have pd : P19 x (a.length : Int) ((a.length : Int) + 1) := ⟨by omega, by omega, by omega⟩
  have r : InR .i64 ((a.length : Int) + 1) := by rw [i64_iff]; omega
  have ed : g19_0 x (a.length : Int) ((a.length : Int) + 1) = a ++ b := by
    unfold g19_0
    have e1 : ((a.length : Int) + 1).toNat = a.length + 1 := by omega
    rw [Int.toNat_natCast, e1, e]
    simp
  unfold P8 g8_1 g8_0
  rw [blocks_eq, h, f1, f2]
  simp only [Bool.not_true, Bool.false_eq_true, if_false, g20_0, ed, hp, pc, pd, r, and_self]

theorem srt_head {y : (ByteArray × ByteArray × ByteArray × Unit)} {r : List (ByteArray × ByteArray × ByteArray × Unit)} (h : Srt (y :: r)) : ∀ z ∈ r, g32_0 y z = true := fun z hz => by
  obtain ⟨i, hi, rfl⟩ := List.mem_iff_getElem.1 hz
  have := h 0 (i + 1) (by omega) (by simpa using hi)
  rw [getD_lt (y :: r) (i + 1) _ (by simpa using hi)] at this
  simpa using this

theorem srt_tail {y : (ByteArray × ByteArray × ByteArray × Unit)} {r : List (ByteArray × ByteArray × ByteArray × Unit)} (h : Srt (y :: r)) : Srt r := srt_drop h 1

theorem merge_parts : ∀ (t x : List (ByteArray × ByteArray × ByteArray × Unit)), Srt x → (∀ y ∈ x, g31_0 y = true) → (∀ y ∈ t, g31_0 y = true) →
    Srt (t.foldl (fun h y => g17_0 h y) x) ∧ (∀ y ∈ t.foldl (fun h y => g17_0 h y) x, g31_0 y = true) ∧ (t.foldl (fun h y => g17_0 h y) x).length ≤ x.length + t.length ∧
    (∀ y ∈ x, (∀ z ∈ t, ¬ twins y z) → y ∈ t.foldl (fun h y => g17_0 h y) x) ∧ (Srt t → ∀ y ∈ t, y ∈ t.foldl (fun h y => g17_0 h y) x)
  | [], x, hs, hx, _ => ⟨hs, hx, by simp, fun y hy _ => hy, fun _ y hy => by cases hy⟩
  | b :: r, x, hs, hx, ht => by
    obtain ⟨e, hs2⟩ := put_eq x b hs
    obtain ⟨a, d, ep, ha, hd, hm, _, _⟩ := put_parts x b hs
    have h1 : ∀ y ∈ g17_0 x b, g31_0 y = true := fun y hy => by
      rw [e, ep] at hy
      rcases List.mem_append.1 hy with hy | hy
      · exact hx y (ha y hy).1
      · rcases List.mem_cons.1 hy with rfl | hy
        · exact ht _ (List.mem_cons_self ..)
        · exact hx y (hd y hy).1
    have hb : b ∈ g17_0 x b := by rw [e, ep]; simp
    have hst : ∀ y ∈ x, ¬ twins y b → y ∈ g17_0 x b := fun y hy hn => by
      rw [e, ep]
      rcases List.mem_append.1 (hm y hy hn) with h | h
      · exact List.mem_append_left _ h
      · exact List.mem_append_right _ (List.mem_cons_of_mem _ h)
    have hl := len17 x b
    obtain ⟨i1, i2, i3, i4, i5⟩ := merge_parts r (g17_0 x b) (by rw [e]; exact hs2) h1 (fun y hy => ht y (List.mem_cons_of_mem _ hy))
    rw [List.foldl_cons]
    refine ⟨i1, i2, by rw [List.length_cons]; omega, fun y hy hn => i4 y (hst y hy (hn b (List.mem_cons_self ..))) (fun z hz => hn z (List.mem_cons_of_mem _ hz)), fun hsr y hy => ?_⟩
    rcases List.mem_cons.1 hy with rfl | hy
    · refine i4 _ hb fun z hz htw => ?_
      have := srt_head hsr z hz
      rw [before_twins htw] at this
      cases this
    · exact i5 (srt_tail hsr) y hy

theorem merge_law {x t : List (ByteArray × ByteArray × ByteArray × Unit)} (hx : g22_0 x = true) (ht : g22_0 t = true) (hl : x.length + t.length ≤ 32) :
    P9 x t ∧ g9_1 x t = 0 ∧ g22_0 (g9_0 x t) = true ∧ (g9_0 x t).length ≤ x.length + t.length ∧ ∀ y ∈ t, y ∈ g9_0 x t := by
  obtain ⟨m1, m2, m3, _, m5⟩ := merge_parts t x (ok_srt hx) (ok_one hx) (ok_one ht)
  have hn : ¬ (all9 x t).length > 32 := by unfold all9; omega
  unfold P9 g9_1 g9_0
  rw [blocks_eq, blocks_eq, hx, ht]
  simp only [Bool.and_true, if_true, if_neg hn]
  refine ⟨by omega, trivial, ok_of_srt m2 m1 (by omega), m3, m5 (ok_srt ht)⟩

theorem kind_law {x : List (ByteArray × ByteArray × ByteArray × Unit)} (h : g22_0 x = true) (k : ByteArray) : P10 x k ∧ g10_1 x k = 0 ∧ g10_0 x k = names10 x k := by
  unfold P10 g10_1 g10_0
  rw [blocks_eq, h]
  exact ⟨trivial, rfl, rfl⟩

theorem kind_one {a b : List (ByteArray × ByteArray × ByteArray × Unit)} {t : (ByteArray × ByteArray × ByteArray × Unit)} (ha : ∀ y ∈ a ++ b, y.1 ≠ t.1) : (names10 (a ++ t :: b) t.1).length = 1 := by
  have hn : ∀ l : List (ByteArray × ByteArray × ByteArray × Unit), (∀ y ∈ l, y.1 ≠ t.1) → (l.filter fun y => ByteArray.toList y.1 == ByteArray.toList t.1) = [] := fun l hl => by
    rw [List.filter_eq_nil_iff]
    intro y hy h
    exact hl y hy ((bytes_eq _ _).1 h)
  unfold names10
  rw [List.filter_append, List.filter_cons, if_pos ((bytes_eq _ _).2 rfl), hn a (fun y hy => ha y (List.mem_append_left _ hy)), hn b (fun y hy => ha y (List.mem_append_right _ hy))]
  rfl

end Go.Proofs.Ytohojjcoikkmcaa

/- Function 3 (laws.FnBlocks): its runs between cut points. Written by a program of this repo (gen). -/
set_option linter.unusedVariables false
set_option linter.unusedSimpArgs false
set_option maxRecDepth 100000
namespace Go.Proofs.Ytohojjcoikkmcaa
open Go Go.Am Go.Proofs
noncomputable section
def ext3 : Ext := [(4, S4), (5, S5), (6, S6), (7, S7), (8, S8), (9, S9), (10, S10), (11, S11), (12, S12)]
theorem call3_4 : Callable Try.prog 4 := ⟨Try.f4, Try.func4, by kernel_rfl, by kernel_rfl⟩
theorem call3_5 : Callable Try.prog 5 := ⟨Try.f5, Try.func5, by kernel_rfl, by kernel_rfl⟩
theorem call3_6 : Callable Try.prog 6 := ⟨Try.f6, Try.func6, by kernel_rfl, by kernel_rfl⟩
theorem call3_7 : Callable Try.prog 7 := ⟨Try.f7, Try.func7, by kernel_rfl, by kernel_rfl⟩
theorem call3_8 : Callable Try.prog 8 := ⟨Try.f8, Try.func8, by kernel_rfl, by kernel_rfl⟩
theorem call3_9 : Callable Try.prog 9 := ⟨Try.f9, Try.func9, by kernel_rfl, by kernel_rfl⟩
theorem call3_10 : Callable Try.prog 10 := ⟨Try.f10, Try.func10, by kernel_rfl, by kernel_rfl⟩
theorem call3_11 : Callable Try.prog 11 := ⟨Try.f11, Try.func11, by kernel_rfl, by kernel_rfl⟩
theorem call3_12 : Callable Try.prog 12 := ⟨Try.f12, Try.func12, by kernel_rfl, by kernel_rfl⟩
theorem ext3Ok : ExtOk Try.prog ext3 := ⟨⟨call3_4, con4⟩, ⟨call3_5, con5⟩, ⟨call3_6, con6⟩, ⟨call3_7, con7⟩, ⟨call3_8, con8⟩, ⟨call3_9, con9⟩, ⟨call3_10, con10⟩, ⟨call3_11, con11⟩, ⟨call3_12, con12⟩, trivial⟩

noncomputable def b3 : Code := bodyOf Try.f3
theorem hb3 : Try.f3.body = some b3 := by kernel_rfl
def sig3 : List AT := [AT.v (Ty.sl (Ty.int IntKind.u8)), AT.v (Ty.sl (Ty.int IntKind.u8))]
def tys3 : List Ty := [Ty.bool]
def kds3 : List RK := []
def oks3 : List AT := owns sig3
def E3_3 (x0 : List Int) (x1 : List Int) : Env := [(0, PV.a (Atom.sl (Ty.int IntKind.u8) x0)), (1, PV.a (Atom.sl (Ty.int IntKind.u8) x1))]
def L3_3 (x0 : List Int) (x1 : List Int) : Heap := []
def E3_13 (x0 : List Int) (x1 : List Int) : Env := [(5, PV.a (Atom.osl 0 Option.none)), (6, PV.a (Atom.osl 1 Option.none)), (14, PV.a (Atom.osl 2 Option.none))]
def L3_13 (x0 : List Int) (x1 : List Int) : Heap := [Option.some (Arr.mk (Ty.cons Ty.str (Ty.cons Ty.str (Ty.cons Ty.str Ty.unit))) (g5_0 x0) Bool.false Option.none Option.none), Option.some (Arr.mk (Ty.cons Ty.str (Ty.cons Ty.str (Ty.cons Ty.str Ty.unit))) (g5_0 x1) Bool.false Option.none Option.none), Option.some (Arr.mk (Ty.cons Ty.str (Ty.cons Ty.str (Ty.cons Ty.str Ty.unit))) (g9_0 (g5_0 x0) (g5_0 x1)) Bool.false Option.none Option.none)]
def E3_14 (v18 : Int) (x0 : List Int) (x1 : List Int) : Env := [(5, PV.a (Atom.osl 0 Option.none)), (6, PV.a (Atom.osl 1 Option.none)), (14, PV.a (Atom.osl 2 Option.none)), (18, PV.a (Atom.val (Value.int IntKind.i64 v18)))]
def L3_14 (v18 : Int) (x0 : List Int) (x1 : List Int) : Heap := [Option.some (Arr.mk (Ty.cons Ty.str (Ty.cons Ty.str (Ty.cons Ty.str Ty.unit))) (g5_0 x0) Bool.false Option.none Option.none), Option.some (Arr.mk (Ty.cons Ty.str (Ty.cons Ty.str (Ty.cons Ty.str Ty.unit))) (g5_0 x1) Bool.false Option.none Option.none), Option.some (Arr.mk (Ty.cons Ty.str (Ty.cons Ty.str (Ty.cons Ty.str Ty.unit))) (g9_0 (g5_0 x0) (g5_0 x1)) Bool.false Option.none Option.none)]
def E3_16 (v18 : Int) (x0 : List Int) (x1 : List Int) : Env := [(5, PV.a (Atom.osl 0 Option.none)), (6, PV.a (Atom.osl 1 Option.none)), (14, PV.a (Atom.osl 2 Option.none)), (18, PV.a (Atom.val (Value.int IntKind.i64 v18)))]
def L3_16 (v18 : Int) (x0 : List Int) (x1 : List Int) : Heap := [Option.some (Arr.mk (Ty.cons Ty.str (Ty.cons Ty.str (Ty.cons Ty.str Ty.unit))) (g5_0 x0) Bool.false Option.none Option.none), Option.some (Arr.mk (Ty.cons Ty.str (Ty.cons Ty.str (Ty.cons Ty.str Ty.unit))) (g5_0 x1) Bool.false Option.none Option.none), Option.some (Arr.mk (Ty.cons Ty.str (Ty.cons Ty.str (Ty.cons Ty.str Ty.unit))) (g9_0 (g5_0 x0) (g5_0 x1)) Bool.false Option.none Option.none)]
def E3_15 (v18 : Int) (x0 : List Int) (x1 : List Int) : Env := [(5, PV.a (Atom.osl 0 Option.none)), (6, PV.a (Atom.osl 1 Option.none)), (14, PV.a (Atom.osl 2 Option.none)), (18, PV.a (Atom.val (Value.int IntKind.i64 v18))), (118, PV.a (Atom.val (Value.string (g7_0 (g9_0 (g5_0 x0) (g5_0 x1)) (Prod.fst (List.getD (g5_0 x1) (Int.toNat v18) (ByteArray.empty, ByteArray.empty, ByteArray.empty, ()))) (Prod.fst (Prod.snd (List.getD (g5_0 x1) (Int.toNat v18) (ByteArray.empty, ByteArray.empty, ByteArray.empty, ())))))))), (119, PV.a (Atom.osl 1 Option.none)), (120, PV.a (Atom.val (Value.int IntKind.i64 v18))), (121, PV.a (Atom.optr 1 (Int.toNat v18) [])), (122, PV.a (Atom.optr 1 (Int.toNat v18) [2])), (123, PV.a (Atom.val (Value.string (Prod.fst (Prod.snd (Prod.snd (List.getD (g5_0 x1) (Int.toNat v18) (ByteArray.empty, ByteArray.empty, ByteArray.empty, ())))))))), (124, PV.a (Atom.val (Value.bool !ByteArray.toList (g7_0 (g9_0 (g5_0 x0) (g5_0 x1)) (Prod.fst (List.getD (g5_0 x1) (Int.toNat v18) (ByteArray.empty, ByteArray.empty, ByteArray.empty, ()))) (Prod.fst (Prod.snd (List.getD (g5_0 x1) (Int.toNat v18) (ByteArray.empty, ByteArray.empty, ByteArray.empty, ()))))) == ByteArray.toList (Prod.fst (Prod.snd (Prod.snd (List.getD (g5_0 x1) (Int.toNat v18) (ByteArray.empty, ByteArray.empty, ByteArray.empty, ()))))))))]
def L3_15 (v18 : Int) (x0 : List Int) (x1 : List Int) : Heap := [Option.some (Arr.mk (Ty.cons Ty.str (Ty.cons Ty.str (Ty.cons Ty.str Ty.unit))) (g5_0 x0) Bool.false Option.none Option.none), Option.some (Arr.mk (Ty.cons Ty.str (Ty.cons Ty.str (Ty.cons Ty.str Ty.unit))) (g5_0 x1) Bool.false Option.none Option.none), Option.some (Arr.mk (Ty.cons Ty.str (Ty.cons Ty.str (Ty.cons Ty.str Ty.unit))) (g9_0 (g5_0 x0) (g5_0 x1)) Bool.false Option.none Option.none)]
mutual
def R3 : Nat → List Int → List Int → List Dyn → Prop
  | 0, _, _, _ => False
  | n + 1, x0, x1, ds => (if (g4_0 x0 x1) = true then (ds = [Dyn.mk Ty.bool Bool.true]) else (R3_3 n (x0) (x1) ds))
def R3_3 : Nat → List Int → List Int → List Dyn → Prop
  | 0, _, _, _ => False
  | n + 1, x0, x1, ds => ((P5 x0) ∧ ((P5 x1) ∧ ((P6 (g5_0 x0) (ByteArray.mk #[110, 101, 119], ByteArray.mk #[120], ByteArray.mk #[116], ())) ∧ ((P7 (g6_0 (g5_0 x0) (ByteArray.mk #[110, 101, 119], ByteArray.mk #[120], ByteArray.mk #[116], ())) (ByteArray.mk #[110, 101, 119]) (ByteArray.mk #[120])) ∧ ((P8 (g6_0 (g5_0 x0) (ByteArray.mk #[110, 101, 119], ByteArray.mk #[120], ByteArray.mk #[116], ())) (ByteArray.mk #[110, 101, 119]) (ByteArray.mk #[120])) ∧ ((P9 (g5_0 x0) (g5_0 x1)) ∧ (if (g6_1 (g5_0 x0) (ByteArray.mk #[110, 101, 119], ByteArray.mk #[120], ByteArray.mk #[116], ()) != 0) = true then (ds = [Dyn.mk Ty.bool Bool.false]) else (if (g7_1 (g6_0 (g5_0 x0) (ByteArray.mk #[110, 101, 119], ByteArray.mk #[120], ByteArray.mk #[116], ())) (ByteArray.mk #[110, 101, 119]) (ByteArray.mk #[120]) != 0) = true then (ds = [Dyn.mk Ty.bool Bool.false]) else (if (!ByteArray.toList (g7_0 (g6_0 (g5_0 x0) (ByteArray.mk #[110, 101, 119], ByteArray.mk #[120], ByteArray.mk #[116], ())) (ByteArray.mk #[110, 101, 119]) (ByteArray.mk #[120])) == ByteArray.toList (ByteArray.mk #[116])) = true then (ds = [Dyn.mk Ty.bool Bool.false]) else (if (g8_1 (g6_0 (g5_0 x0) (ByteArray.mk #[110, 101, 119], ByteArray.mk #[120], ByteArray.mk #[116], ())) (ByteArray.mk #[110, 101, 119]) (ByteArray.mk #[120]) != 0) = true then (ds = [Dyn.mk Ty.bool Bool.false]) else (if (!g11_0 (g8_0 (g6_0 (g5_0 x0) (ByteArray.mk #[110, 101, 119], ByteArray.mk #[120], ByteArray.mk #[116], ())) (ByteArray.mk #[110, 101, 119]) (ByteArray.mk #[120])) (g5_0 x0)) = true then (ds = [Dyn.mk Ty.bool Bool.false]) else (if (g9_1 (g5_0 x0) (g5_0 x1) != 0) = true then (ds = [Dyn.mk Ty.bool Bool.false]) else (if (!g12_0 (g9_0 (g5_0 x0) (g5_0 x1))) = true then (ds = [Dyn.mk Ty.bool Bool.false]) else (if (g10_1 (g6_0 (g5_0 x0) (ByteArray.mk #[110, 101, 119], ByteArray.mk #[120], ByteArray.mk #[116], ())) (ByteArray.mk #[110, 101, 119]) != 0) = true then (ds = [Dyn.mk Ty.bool Bool.false]) else (if ((↑(List.length (g10_0 (g6_0 (g5_0 x0) (ByteArray.mk #[110, 101, 119], ByteArray.mk #[120], ByteArray.mk #[116], ())) (ByteArray.mk #[110, 101, 119]))) : Int) != 1) = true then (ds = [Dyn.mk Ty.bool Bool.false]) else (R3_13 n (x0) (x1) ds))))))))))))))))
def R3_13 : Nat → List Int → List Int → List Dyn → Prop
  | 0, _, _, _ => False
  | n + 1, x0, x1, ds => (R3_14 n (0) (x0) (x1) ds)
def R3_14 : Nat → Int → List Int → List Int → List Dyn → Prop
  | 0, _, _, _, _ => False
  | n + 1, v18, x0, x1, ds => (if (Decidable.decide (v18 < (↑(List.length (g5_0 x1)) : Int))) = true then (R3_16 n (v18) (x0) (x1) ds) else ((InR IntKind.i64 ((↑(List.length (g5_0 x0)) : Int) + (↑(List.length (g5_0 x1)) : Int))) ∧ (ds = [Dyn.mk Ty.bool (Decidable.decide ((↑(List.length (g9_0 (g5_0 x0) (g5_0 x1))) : Int) ≤ (↑(List.length (g5_0 x0)) : Int) + (↑(List.length (g5_0 x1)) : Int)))])))
def R3_16 : Nat → Int → List Int → List Int → List Dyn → Prop
  | 0, _, _, _, _ => False
  | n + 1, v18, x0, x1, ds => ((0 ≤ v18) ∧ (v18 < (↑(List.length (g5_0 x1)) : Int)) ∧ ((0 ≤ v18) ∧ (v18 < (↑(List.length (g5_0 x1)) : Int)) ∧ ((P7 (g9_0 (g5_0 x0) (g5_0 x1)) (Prod.fst (List.getD (g5_0 x1) (Int.toNat v18) (ByteArray.empty, ByteArray.empty, ByteArray.empty, ()))) (Prod.fst (Prod.snd (List.getD (g5_0 x1) (Int.toNat v18) (ByteArray.empty, ByteArray.empty, ByteArray.empty, ()))))) ∧ (if (g7_1 (g9_0 (g5_0 x0) (g5_0 x1)) (Prod.fst (List.getD (g5_0 x1) (Int.toNat v18) (ByteArray.empty, ByteArray.empty, ByteArray.empty, ()))) (Prod.fst (Prod.snd (List.getD (g5_0 x1) (Int.toNat v18) (ByteArray.empty, ByteArray.empty, ByteArray.empty, ())))) != 0) = true then (ds = [Dyn.mk Ty.bool Bool.false]) else ((0 ≤ v18) ∧ (v18 < (↑(List.length (g5_0 x1)) : Int)) ∧ (if (!ByteArray.toList (g7_0 (g9_0 (g5_0 x0) (g5_0 x1)) (Prod.fst (List.getD (g5_0 x1) (Int.toNat v18) (ByteArray.empty, ByteArray.empty, ByteArray.empty, ()))) (Prod.fst (Prod.snd (List.getD (g5_0 x1) (Int.toNat v18) (ByteArray.empty, ByteArray.empty, ByteArray.empty, ()))))) == ByteArray.toList (Prod.fst (Prod.snd (Prod.snd (List.getD (g5_0 x1) (Int.toNat v18) (ByteArray.empty, ByteArray.empty, ByteArray.empty, ())))))) = true then (ds = [Dyn.mk Ty.bool Bool.false]) else (R3_15 n (v18) (x0) (x1) ds)))))))
def R3_15 : Nat → Int → List Int → List Int → List Dyn → Prop
  | 0, _, _, _, _ => False
  | n + 1, v18, x0, x1, ds => ((InR IntKind.i64 (v18 + 1)) ∧ (R3_14 n (v18 + 1) (x0) (x1) ds))
end
theorem p3_0 (x0 : List Int) (x1 : List Int) : runF tab ext3 false 134 [3, 13, 16, 15] 2000 [] oks3 kds3 tys3 Try.f3.results [true] [.code b3] (entE 0 0 sig3 (x0, x1, ())) (entL sig3 (x0, x1, ())) = some ([Dyn.mk Ty.bool Bool.true], [], [True, g4_0 x0 x1 = Bool.true]) := by kernel_rfl
theorem p3_1 (x0 : List Int) (x1 : List Int) : Am.runN tab ext3 false 134 [3, 13, 16, 15] 2000 [] [] [0, 1] [] [false] [.code b3] (entE 0 0 sig3 (x0, x1, ())) (entL sig3 (x0, x1, ())) = some (cutAt b3 3, E3_3 (x0) (x1), L3_3 (x0) (x1), [True, g4_0 x0 x1 = Bool.false]) := by kernel_rfl
theorem p3_2 (x0 : List Int) (x1 : List Int) : runF tab ext3 false 134 [3, 13, 16, 15] 2000 [] oks3 kds3 tys3 Try.f3.results [true, true, true, true, true, true, true, true, true] (cutAt b3 3) (E3_3 x0 x1) (L3_3 x0 x1) = some ([Dyn.mk Ty.bool Bool.false], [], [P5 x0, P5 x1, P6 (g5_0 x0) (ByteArray.mk #[110, 101, 119], ByteArray.mk #[120], ByteArray.mk #[116], ()), P7 (g6_0 (g5_0 x0) (ByteArray.mk #[110, 101, 119], ByteArray.mk #[120], ByteArray.mk #[116], ())) (ByteArray.mk #[110, 101, 119]) (ByteArray.mk #[120]), P8 (g6_0 (g5_0 x0) (ByteArray.mk #[110, 101, 119], ByteArray.mk #[120], ByteArray.mk #[116], ())) (ByteArray.mk #[110, 101, 119]) (ByteArray.mk #[120]), P9 (g5_0 x0) (g5_0 x1), True, (g6_1 (g5_0 x0) (ByteArray.mk #[110, 101, 119], ByteArray.mk #[120], ByteArray.mk #[116], ()) != 0) = Bool.true, Bool.true = Bool.true, Bool.true = Bool.true, Bool.true = Bool.true, Bool.true = Bool.true, Bool.true = Bool.true, Bool.true = Bool.true, Bool.true = Bool.true, Bool.true = Bool.true]) := by kernel_rfl
theorem p3_3 (x0 : List Int) (x1 : List Int) : runF tab ext3 false 134 [3, 13, 16, 15] 2000 [] oks3 kds3 tys3 Try.f3.results [false, true, true, true, true, true, true, true, true] (cutAt b3 3) (E3_3 x0 x1) (L3_3 x0 x1) = some ([Dyn.mk Ty.bool Bool.false], [], [P5 x0, P5 x1, P6 (g5_0 x0) (ByteArray.mk #[110, 101, 119], ByteArray.mk #[120], ByteArray.mk #[116], ()), P7 (g6_0 (g5_0 x0) (ByteArray.mk #[110, 101, 119], ByteArray.mk #[120], ByteArray.mk #[116], ())) (ByteArray.mk #[110, 101, 119]) (ByteArray.mk #[120]), P8 (g6_0 (g5_0 x0) (ByteArray.mk #[110, 101, 119], ByteArray.mk #[120], ByteArray.mk #[116], ())) (ByteArray.mk #[110, 101, 119]) (ByteArray.mk #[120]), P9 (g5_0 x0) (g5_0 x1), True, (g6_1 (g5_0 x0) (ByteArray.mk #[110, 101, 119], ByteArray.mk #[120], ByteArray.mk #[116], ()) != 0) = Bool.false, (g7_1 (g6_0 (g5_0 x0) (ByteArray.mk #[110, 101, 119], ByteArray.mk #[120], ByteArray.mk #[116], ())) (ByteArray.mk #[110, 101, 119]) (ByteArray.mk #[120]) != 0) = Bool.true, Bool.true = Bool.true, Bool.true = Bool.true, Bool.true = Bool.true, Bool.true = Bool.true, Bool.true = Bool.true, Bool.true = Bool.true, Bool.true = Bool.true]) := by kernel_rfl
theorem p3_4 (x0 : List Int) (x1 : List Int) : runF tab ext3 false 134 [3, 13, 16, 15] 2000 [] oks3 kds3 tys3 Try.f3.results [false, false, true, true, true, true, true, true, true] (cutAt b3 3) (E3_3 x0 x1) (L3_3 x0 x1) = some ([Dyn.mk Ty.bool Bool.false], [], [P5 x0, P5 x1, P6 (g5_0 x0) (ByteArray.mk #[110, 101, 119], ByteArray.mk #[120], ByteArray.mk #[116], ()), P7 (g6_0 (g5_0 x0) (ByteArray.mk #[110, 101, 119], ByteArray.mk #[120], ByteArray.mk #[116], ())) (ByteArray.mk #[110, 101, 119]) (ByteArray.mk #[120]), P8 (g6_0 (g5_0 x0) (ByteArray.mk #[110, 101, 119], ByteArray.mk #[120], ByteArray.mk #[116], ())) (ByteArray.mk #[110, 101, 119]) (ByteArray.mk #[120]), P9 (g5_0 x0) (g5_0 x1), True, (g6_1 (g5_0 x0) (ByteArray.mk #[110, 101, 119], ByteArray.mk #[120], ByteArray.mk #[116], ()) != 0) = Bool.false, (g7_1 (g6_0 (g5_0 x0) (ByteArray.mk #[110, 101, 119], ByteArray.mk #[120], ByteArray.mk #[116], ())) (ByteArray.mk #[110, 101, 119]) (ByteArray.mk #[120]) != 0) = Bool.false, (!ByteArray.toList (g7_0 (g6_0 (g5_0 x0) (ByteArray.mk #[110, 101, 119], ByteArray.mk #[120], ByteArray.mk #[116], ())) (ByteArray.mk #[110, 101, 119]) (ByteArray.mk #[120])) == ByteArray.toList (ByteArray.mk #[116])) = Bool.true, Bool.true = Bool.true, Bool.true = Bool.true, Bool.true = Bool.true, Bool.true = Bool.true, Bool.true = Bool.true, Bool.true = Bool.true]) := by kernel_rfl
theorem p3_5 (x0 : List Int) (x1 : List Int) : runF tab ext3 false 134 [3, 13, 16, 15] 2000 [] oks3 kds3 tys3 Try.f3.results [false, false, false, true, true, true, true, true, true] (cutAt b3 3) (E3_3 x0 x1) (L3_3 x0 x1) = some ([Dyn.mk Ty.bool Bool.false], [], [P5 x0, P5 x1, P6 (g5_0 x0) (ByteArray.mk #[110, 101, 119], ByteArray.mk #[120], ByteArray.mk #[116], ()), P7 (g6_0 (g5_0 x0) (ByteArray.mk #[110, 101, 119], ByteArray.mk #[120], ByteArray.mk #[116], ())) (ByteArray.mk #[110, 101, 119]) (ByteArray.mk #[120]), P8 (g6_0 (g5_0 x0) (ByteArray.mk #[110, 101, 119], ByteArray.mk #[120], ByteArray.mk #[116], ())) (ByteArray.mk #[110, 101, 119]) (ByteArray.mk #[120]), P9 (g5_0 x0) (g5_0 x1), True, (g6_1 (g5_0 x0) (ByteArray.mk #[110, 101, 119], ByteArray.mk #[120], ByteArray.mk #[116], ()) != 0) = Bool.false, (g7_1 (g6_0 (g5_0 x0) (ByteArray.mk #[110, 101, 119], ByteArray.mk #[120], ByteArray.mk #[116], ())) (ByteArray.mk #[110, 101, 119]) (ByteArray.mk #[120]) != 0) = Bool.false, (!ByteArray.toList (g7_0 (g6_0 (g5_0 x0) (ByteArray.mk #[110, 101, 119], ByteArray.mk #[120], ByteArray.mk #[116], ())) (ByteArray.mk #[110, 101, 119]) (ByteArray.mk #[120])) == ByteArray.toList (ByteArray.mk #[116])) = Bool.false, (g8_1 (g6_0 (g5_0 x0) (ByteArray.mk #[110, 101, 119], ByteArray.mk #[120], ByteArray.mk #[116], ())) (ByteArray.mk #[110, 101, 119]) (ByteArray.mk #[120]) != 0) = Bool.true, Bool.true = Bool.true, Bool.true = Bool.true, Bool.true = Bool.true, Bool.true = Bool.true, Bool.true = Bool.true]) := by kernel_rfl
theorem p3_6 (x0 : List Int) (x1 : List Int) : runF tab ext3 false 134 [3, 13, 16, 15] 2000 [] oks3 kds3 tys3 Try.f3.results [false, false, false, false, true, true, true, true, true] (cutAt b3 3) (E3_3 x0 x1) (L3_3 x0 x1) = some ([Dyn.mk Ty.bool Bool.false], [], [P5 x0, P5 x1, P6 (g5_0 x0) (ByteArray.mk #[110, 101, 119], ByteArray.mk #[120], ByteArray.mk #[116], ()), P7 (g6_0 (g5_0 x0) (ByteArray.mk #[110, 101, 119], ByteArray.mk #[120], ByteArray.mk #[116], ())) (ByteArray.mk #[110, 101, 119]) (ByteArray.mk #[120]), P8 (g6_0 (g5_0 x0) (ByteArray.mk #[110, 101, 119], ByteArray.mk #[120], ByteArray.mk #[116], ())) (ByteArray.mk #[110, 101, 119]) (ByteArray.mk #[120]), P9 (g5_0 x0) (g5_0 x1), True, (g6_1 (g5_0 x0) (ByteArray.mk #[110, 101, 119], ByteArray.mk #[120], ByteArray.mk #[116], ()) != 0) = Bool.false, (g7_1 (g6_0 (g5_0 x0) (ByteArray.mk #[110, 101, 119], ByteArray.mk #[120], ByteArray.mk #[116], ())) (ByteArray.mk #[110, 101, 119]) (ByteArray.mk #[120]) != 0) = Bool.false, (!ByteArray.toList (g7_0 (g6_0 (g5_0 x0) (ByteArray.mk #[110, 101, 119], ByteArray.mk #[120], ByteArray.mk #[116], ())) (ByteArray.mk #[110, 101, 119]) (ByteArray.mk #[120])) == ByteArray.toList (ByteArray.mk #[116])) = Bool.false, (g8_1 (g6_0 (g5_0 x0) (ByteArray.mk #[110, 101, 119], ByteArray.mk #[120], ByteArray.mk #[116], ())) (ByteArray.mk #[110, 101, 119]) (ByteArray.mk #[120]) != 0) = Bool.false, True, (!g11_0 (g8_0 (g6_0 (g5_0 x0) (ByteArray.mk #[110, 101, 119], ByteArray.mk #[120], ByteArray.mk #[116], ())) (ByteArray.mk #[110, 101, 119]) (ByteArray.mk #[120])) (g5_0 x0)) = Bool.true, Bool.true = Bool.true, Bool.true = Bool.true, Bool.true = Bool.true, Bool.true = Bool.true]) := by kernel_rfl
theorem p3_7 (x0 : List Int) (x1 : List Int) : runF tab ext3 false 134 [3, 13, 16, 15] 2000 [] oks3 kds3 tys3 Try.f3.results [false, false, false, false, false, true, true, true, true] (cutAt b3 3) (E3_3 x0 x1) (L3_3 x0 x1) = some ([Dyn.mk Ty.bool Bool.false], [], [P5 x0, P5 x1, P6 (g5_0 x0) (ByteArray.mk #[110, 101, 119], ByteArray.mk #[120], ByteArray.mk #[116], ()), P7 (g6_0 (g5_0 x0) (ByteArray.mk #[110, 101, 119], ByteArray.mk #[120], ByteArray.mk #[116], ())) (ByteArray.mk #[110, 101, 119]) (ByteArray.mk #[120]), P8 (g6_0 (g5_0 x0) (ByteArray.mk #[110, 101, 119], ByteArray.mk #[120], ByteArray.mk #[116], ())) (ByteArray.mk #[110, 101, 119]) (ByteArray.mk #[120]), P9 (g5_0 x0) (g5_0 x1), True, (g6_1 (g5_0 x0) (ByteArray.mk #[110, 101, 119], ByteArray.mk #[120], ByteArray.mk #[116], ()) != 0) = Bool.false, (g7_1 (g6_0 (g5_0 x0) (ByteArray.mk #[110, 101, 119], ByteArray.mk #[120], ByteArray.mk #[116], ())) (ByteArray.mk #[110, 101, 119]) (ByteArray.mk #[120]) != 0) = Bool.false, (!ByteArray.toList (g7_0 (g6_0 (g5_0 x0) (ByteArray.mk #[110, 101, 119], ByteArray.mk #[120], ByteArray.mk #[116], ())) (ByteArray.mk #[110, 101, 119]) (ByteArray.mk #[120])) == ByteArray.toList (ByteArray.mk #[116])) = Bool.false, (g8_1 (g6_0 (g5_0 x0) (ByteArray.mk #[110, 101, 119], ByteArray.mk #[120], ByteArray.mk #[116], ())) (ByteArray.mk #[110, 101, 119]) (ByteArray.mk #[120]) != 0) = Bool.false, True, (!g11_0 (g8_0 (g6_0 (g5_0 x0) (ByteArray.mk #[110, 101, 119], ByteArray.mk #[120], ByteArray.mk #[116], ())) (ByteArray.mk #[110, 101, 119]) (ByteArray.mk #[120])) (g5_0 x0)) = Bool.false, (g9_1 (g5_0 x0) (g5_0 x1) != 0) = Bool.true, Bool.true = Bool.true, Bool.true = Bool.true, Bool.true = Bool.true]) := by kernel_rfl
theorem p3_8 (x0 : List Int) (x1 : List Int) : runF tab ext3 false 134 [3, 13, 16, 15] 2000 [] oks3 kds3 tys3 Try.f3.results [false, false, false, false, false, false, true, true, true] (cutAt b3 3) (E3_3 x0 x1) (L3_3 x0 x1) = some ([Dyn.mk Ty.bool Bool.false], [], [P5 x0, P5 x1, P6 (g5_0 x0) (ByteArray.mk #[110, 101, 119], ByteArray.mk #[120], ByteArray.mk #[116], ()), P7 (g6_0 (g5_0 x0) (ByteArray.mk #[110, 101, 119], ByteArray.mk #[120], ByteArray.mk #[116], ())) (ByteArray.mk #[110, 101, 119]) (ByteArray.mk #[120]), P8 (g6_0 (g5_0 x0) (ByteArray.mk #[110, 101, 119], ByteArray.mk #[120], ByteArray.mk #[116], ())) (ByteArray.mk #[110, 101, 119]) (ByteArray.mk #[120]), P9 (g5_0 x0) (g5_0 x1), True, (g6_1 (g5_0 x0) (ByteArray.mk #[110, 101, 119], ByteArray.mk #[120], ByteArray.mk #[116], ()) != 0) = Bool.false, (g7_1 (g6_0 (g5_0 x0) (ByteArray.mk #[110, 101, 119], ByteArray.mk #[120], ByteArray.mk #[116], ())) (ByteArray.mk #[110, 101, 119]) (ByteArray.mk #[120]) != 0) = Bool.false, (!ByteArray.toList (g7_0 (g6_0 (g5_0 x0) (ByteArray.mk #[110, 101, 119], ByteArray.mk #[120], ByteArray.mk #[116], ())) (ByteArray.mk #[110, 101, 119]) (ByteArray.mk #[120])) == ByteArray.toList (ByteArray.mk #[116])) = Bool.false, (g8_1 (g6_0 (g5_0 x0) (ByteArray.mk #[110, 101, 119], ByteArray.mk #[120], ByteArray.mk #[116], ())) (ByteArray.mk #[110, 101, 119]) (ByteArray.mk #[120]) != 0) = Bool.false, True, (!g11_0 (g8_0 (g6_0 (g5_0 x0) (ByteArray.mk #[110, 101, 119], ByteArray.mk #[120], ByteArray.mk #[116], ())) (ByteArray.mk #[110, 101, 119]) (ByteArray.mk #[120])) (g5_0 x0)) = Bool.false, (g9_1 (g5_0 x0) (g5_0 x1) != 0) = Bool.false, True, (!g12_0 (g9_0 (g5_0 x0) (g5_0 x1))) = Bool.true, Bool.true = Bool.true, Bool.true = Bool.true]) := by kernel_rfl
theorem p3_9 (x0 : List Int) (x1 : List Int) : runF tab ext3 false 134 [3, 13, 16, 15] 2000 [] oks3 kds3 tys3 Try.f3.results [false, false, false, false, false, false, false, true, true] (cutAt b3 3) (E3_3 x0 x1) (L3_3 x0 x1) = some ([Dyn.mk Ty.bool Bool.false], [], [P5 x0, P5 x1, P6 (g5_0 x0) (ByteArray.mk #[110, 101, 119], ByteArray.mk #[120], ByteArray.mk #[116], ()), P7 (g6_0 (g5_0 x0) (ByteArray.mk #[110, 101, 119], ByteArray.mk #[120], ByteArray.mk #[116], ())) (ByteArray.mk #[110, 101, 119]) (ByteArray.mk #[120]), P8 (g6_0 (g5_0 x0) (ByteArray.mk #[110, 101, 119], ByteArray.mk #[120], ByteArray.mk #[116], ())) (ByteArray.mk #[110, 101, 119]) (ByteArray.mk #[120]), P9 (g5_0 x0) (g5_0 x1), True, (g6_1 (g5_0 x0) (ByteArray.mk #[110, 101, 119], ByteArray.mk #[120], ByteArray.mk #[116], ()) != 0) = Bool.false, (g7_1 (g6_0 (g5_0 x0) (ByteArray.mk #[110, 101, 119], ByteArray.mk #[120], ByteArray.mk #[116], ())) (ByteArray.mk #[110, 101, 119]) (ByteArray.mk #[120]) != 0) = Bool.false, (!ByteArray.toList (g7_0 (g6_0 (g5_0 x0) (ByteArray.mk #[110, 101, 119], ByteArray.mk #[120], ByteArray.mk #[116], ())) (ByteArray.mk #[110, 101, 119]) (ByteArray.mk #[120])) == ByteArray.toList (ByteArray.mk #[116])) = Bool.false, (g8_1 (g6_0 (g5_0 x0) (ByteArray.mk #[110, 101, 119], ByteArray.mk #[120], ByteArray.mk #[116], ())) (ByteArray.mk #[110, 101, 119]) (ByteArray.mk #[120]) != 0) = Bool.false, True, (!g11_0 (g8_0 (g6_0 (g5_0 x0) (ByteArray.mk #[110, 101, 119], ByteArray.mk #[120], ByteArray.mk #[116], ())) (ByteArray.mk #[110, 101, 119]) (ByteArray.mk #[120])) (g5_0 x0)) = Bool.false, (g9_1 (g5_0 x0) (g5_0 x1) != 0) = Bool.false, True, (!g12_0 (g9_0 (g5_0 x0) (g5_0 x1))) = Bool.false, (g10_1 (g6_0 (g5_0 x0) (ByteArray.mk #[110, 101, 119], ByteArray.mk #[120], ByteArray.mk #[116], ())) (ByteArray.mk #[110, 101, 119]) != 0) = Bool.true, Bool.true = Bool.true]) := by kernel_rfl
theorem p3_10 (x0 : List Int) (x1 : List Int) : runF tab ext3 false 134 [3, 13, 16, 15] 2000 [] oks3 kds3 tys3 Try.f3.results [false, false, false, false, false, false, false, false, true] (cutAt b3 3) (E3_3 x0 x1) (L3_3 x0 x1) = some ([Dyn.mk Ty.bool Bool.false], [], [P5 x0, P5 x1, P6 (g5_0 x0) (ByteArray.mk #[110, 101, 119], ByteArray.mk #[120], ByteArray.mk #[116], ()), P7 (g6_0 (g5_0 x0) (ByteArray.mk #[110, 101, 119], ByteArray.mk #[120], ByteArray.mk #[116], ())) (ByteArray.mk #[110, 101, 119]) (ByteArray.mk #[120]), P8 (g6_0 (g5_0 x0) (ByteArray.mk #[110, 101, 119], ByteArray.mk #[120], ByteArray.mk #[116], ())) (ByteArray.mk #[110, 101, 119]) (ByteArray.mk #[120]), P9 (g5_0 x0) (g5_0 x1), True, (g6_1 (g5_0 x0) (ByteArray.mk #[110, 101, 119], ByteArray.mk #[120], ByteArray.mk #[116], ()) != 0) = Bool.false, (g7_1 (g6_0 (g5_0 x0) (ByteArray.mk #[110, 101, 119], ByteArray.mk #[120], ByteArray.mk #[116], ())) (ByteArray.mk #[110, 101, 119]) (ByteArray.mk #[120]) != 0) = Bool.false, (!ByteArray.toList (g7_0 (g6_0 (g5_0 x0) (ByteArray.mk #[110, 101, 119], ByteArray.mk #[120], ByteArray.mk #[116], ())) (ByteArray.mk #[110, 101, 119]) (ByteArray.mk #[120])) == ByteArray.toList (ByteArray.mk #[116])) = Bool.false, (g8_1 (g6_0 (g5_0 x0) (ByteArray.mk #[110, 101, 119], ByteArray.mk #[120], ByteArray.mk #[116], ())) (ByteArray.mk #[110, 101, 119]) (ByteArray.mk #[120]) != 0) = Bool.false, True, (!g11_0 (g8_0 (g6_0 (g5_0 x0) (ByteArray.mk #[110, 101, 119], ByteArray.mk #[120], ByteArray.mk #[116], ())) (ByteArray.mk #[110, 101, 119]) (ByteArray.mk #[120])) (g5_0 x0)) = Bool.false, (g9_1 (g5_0 x0) (g5_0 x1) != 0) = Bool.false, True, (!g12_0 (g9_0 (g5_0 x0) (g5_0 x1))) = Bool.false, (g10_1 (g6_0 (g5_0 x0) (ByteArray.mk #[110, 101, 119], ByteArray.mk #[120], ByteArray.mk #[116], ())) (ByteArray.mk #[110, 101, 119]) != 0) = Bool.false, ((↑(List.length (g10_0 (g6_0 (g5_0 x0) (ByteArray.mk #[110, 101, 119], ByteArray.mk #[120], ByteArray.mk #[116], ())) (ByteArray.mk #[110, 101, 119]))) : Int) != 1) = Bool.true]) := by kernel_rfl
theorem p3_11 (x0 : List Int) (x1 : List Int) : Am.runN tab ext3 false 134 [3, 13, 16, 15] 2000 [] [] [5, 6, 14] [0, 1, 5] [false, false, false, false, false, false, false, false, false] (cutAt b3 3) (E3_3 x0 x1) (L3_3 x0 x1) = some (cutAt b3 13, E3_13 (x0) (x1), L3_13 (x0) (x1), [P5 x0, P5 x1, P6 (g5_0 x0) (ByteArray.mk #[110, 101, 119], ByteArray.mk #[120], ByteArray.mk #[116], ()), P7 (g6_0 (g5_0 x0) (ByteArray.mk #[110, 101, 119], ByteArray.mk #[120], ByteArray.mk #[116], ())) (ByteArray.mk #[110, 101, 119]) (ByteArray.mk #[120]), P8 (g6_0 (g5_0 x0) (ByteArray.mk #[110, 101, 119], ByteArray.mk #[120], ByteArray.mk #[116], ())) (ByteArray.mk #[110, 101, 119]) (ByteArray.mk #[120]), P9 (g5_0 x0) (g5_0 x1), True, (g6_1 (g5_0 x0) (ByteArray.mk #[110, 101, 119], ByteArray.mk #[120], ByteArray.mk #[116], ()) != 0) = Bool.false, (g7_1 (g6_0 (g5_0 x0) (ByteArray.mk #[110, 101, 119], ByteArray.mk #[120], ByteArray.mk #[116], ())) (ByteArray.mk #[110, 101, 119]) (ByteArray.mk #[120]) != 0) = Bool.false, (!ByteArray.toList (g7_0 (g6_0 (g5_0 x0) (ByteArray.mk #[110, 101, 119], ByteArray.mk #[120], ByteArray.mk #[116], ())) (ByteArray.mk #[110, 101, 119]) (ByteArray.mk #[120])) == ByteArray.toList (ByteArray.mk #[116])) = Bool.false, (g8_1 (g6_0 (g5_0 x0) (ByteArray.mk #[110, 101, 119], ByteArray.mk #[120], ByteArray.mk #[116], ())) (ByteArray.mk #[110, 101, 119]) (ByteArray.mk #[120]) != 0) = Bool.false, True, (!g11_0 (g8_0 (g6_0 (g5_0 x0) (ByteArray.mk #[110, 101, 119], ByteArray.mk #[120], ByteArray.mk #[116], ())) (ByteArray.mk #[110, 101, 119]) (ByteArray.mk #[120])) (g5_0 x0)) = Bool.false, (g9_1 (g5_0 x0) (g5_0 x1) != 0) = Bool.false, True, (!g12_0 (g9_0 (g5_0 x0) (g5_0 x1))) = Bool.false, (g10_1 (g6_0 (g5_0 x0) (ByteArray.mk #[110, 101, 119], ByteArray.mk #[120], ByteArray.mk #[116], ())) (ByteArray.mk #[110, 101, 119]) != 0) = Bool.false, ((↑(List.length (g10_0 (g6_0 (g5_0 x0) (ByteArray.mk #[110, 101, 119], ByteArray.mk #[120], ByteArray.mk #[116], ())) (ByteArray.mk #[110, 101, 119]))) : Int) != 1) = Bool.false]) := by kernel_rfl
theorem p3_12 (x0 : List Int) (x1 : List Int) : Am.runN tab ext3 false 134 [3, 13, 16, 15] 2000 [] [] [5, 6, 14, 18] [0, 1, 2] [] (cutAt b3 13) (E3_13 x0 x1) (L3_13 x0 x1) = some (cutAt b3 14, E3_14 (0) (x0) (x1), L3_14 (0) (x0) (x1), []) := by kernel_rfl
theorem p3_13 (v18 : Int) (x0 : List Int) (x1 : List Int) : Am.runN tab ext3 false 134 [3, 13, 16, 15] 2000 [] [] [5, 6, 14, 18] [0, 1, 2] [true] (cutAt b3 14) (E3_14 v18 x0 x1) (L3_14 v18 x0 x1) = some (cutAt b3 16, E3_16 (v18) (x0) (x1), L3_16 (v18) (x0) (x1), [Decidable.decide (v18 < (↑(List.length (g5_0 x1)) : Int)) = Bool.true]) := by kernel_rfl
theorem p3_14 (v18 : Int) (x0 : List Int) (x1 : List Int) : runF tab ext3 false 134 [3, 13, 16, 15] 2000 [] oks3 kds3 tys3 Try.f3.results [false] (cutAt b3 14) (E3_14 v18 x0 x1) (L3_14 v18 x0 x1) = some ([Dyn.mk Ty.bool (Decidable.decide ((↑(List.length (g9_0 (g5_0 x0) (g5_0 x1))) : Int) ≤ (↑(List.length (g5_0 x0)) : Int) + (↑(List.length (g5_0 x1)) : Int)))], [], [Decidable.decide (v18 < (↑(List.length (g5_0 x1)) : Int)) = Bool.false, InR IntKind.i64 ((↑(List.length (g5_0 x0)) : Int) + (↑(List.length (g5_0 x1)) : Int))]) := by kernel_rfl
theorem p3_15 (v18 : Int) (x0 : List Int) (x1 : List Int) : runF tab ext3 false 134 [3, 13, 16, 15] 2000 [] oks3 kds3 tys3 Try.f3.results [true, true] (cutAt b3 16) (E3_16 v18 x0 x1) (L3_16 v18 x0 x1) = some ([Dyn.mk Ty.bool Bool.false], [], [0 ≤ v18, v18 < (↑(List.length (g5_0 x1)) : Int), 0 ≤ v18, v18 < (↑(List.length (g5_0 x1)) : Int), P7 (g9_0 (g5_0 x0) (g5_0 x1)) (Prod.fst (List.getD (g5_0 x1) (Int.toNat v18) (ByteArray.empty, ByteArray.empty, ByteArray.empty, ()))) (Prod.fst (Prod.snd (List.getD (g5_0 x1) (Int.toNat v18) (ByteArray.empty, ByteArray.empty, ByteArray.empty, ())))), (g7_1 (g9_0 (g5_0 x0) (g5_0 x1)) (Prod.fst (List.getD (g5_0 x1) (Int.toNat v18) (ByteArray.empty, ByteArray.empty, ByteArray.empty, ()))) (Prod.fst (Prod.snd (List.getD (g5_0 x1) (Int.toNat v18) (ByteArray.empty, ByteArray.empty, ByteArray.empty, ())))) != 0) = Bool.true, Bool.true = Bool.true]) := by kernel_rfl
theorem p3_16 (v18 : Int) (x0 : List Int) (x1 : List Int) : runF tab ext3 false 134 [3, 13, 16, 15] 2000 [] oks3 kds3 tys3 Try.f3.results [false, true] (cutAt b3 16) (E3_16 v18 x0 x1) (L3_16 v18 x0 x1) = some ([Dyn.mk Ty.bool Bool.false], [], [0 ≤ v18, v18 < (↑(List.length (g5_0 x1)) : Int), 0 ≤ v18, v18 < (↑(List.length (g5_0 x1)) : Int), P7 (g9_0 (g5_0 x0) (g5_0 x1)) (Prod.fst (List.getD (g5_0 x1) (Int.toNat v18) (ByteArray.empty, ByteArray.empty, ByteArray.empty, ()))) (Prod.fst (Prod.snd (List.getD (g5_0 x1) (Int.toNat v18) (ByteArray.empty, ByteArray.empty, ByteArray.empty, ())))), (g7_1 (g9_0 (g5_0 x0) (g5_0 x1)) (Prod.fst (List.getD (g5_0 x1) (Int.toNat v18) (ByteArray.empty, ByteArray.empty, ByteArray.empty, ()))) (Prod.fst (Prod.snd (List.getD (g5_0 x1) (Int.toNat v18) (ByteArray.empty, ByteArray.empty, ByteArray.empty, ())))) != 0) = Bool.false, 0 ≤ v18, v18 < (↑(List.length (g5_0 x1)) : Int), (!ByteArray.toList (g7_0 (g9_0 (g5_0 x0) (g5_0 x1)) (Prod.fst (List.getD (g5_0 x1) (Int.toNat v18) (ByteArray.empty, ByteArray.empty, ByteArray.empty, ()))) (Prod.fst (Prod.snd (List.getD (g5_0 x1) (Int.toNat v18) (ByteArray.empty, ByteArray.empty, ByteArray.empty, ()))))) == ByteArray.toList (Prod.fst (Prod.snd (Prod.snd (List.getD (g5_0 x1) (Int.toNat v18) (ByteArray.empty, ByteArray.empty, ByteArray.empty, ())))))) = Bool.true]) := by kernel_rfl
theorem p3_17 (v18 : Int) (x0 : List Int) (x1 : List Int) : Am.runN tab ext3 false 134 [3, 13, 16, 15] 2000 [] [] [5, 6, 14, 18, 118, 119, 120, 121, 122, 123, 124] [0, 1, 2] [false, false] (cutAt b3 16) (E3_16 v18 x0 x1) (L3_16 v18 x0 x1) = some (cutAt b3 15, E3_15 (v18) (x0) (x1), L3_15 (v18) (x0) (x1), [0 ≤ v18, v18 < (↑(List.length (g5_0 x1)) : Int), 0 ≤ v18, v18 < (↑(List.length (g5_0 x1)) : Int), P7 (g9_0 (g5_0 x0) (g5_0 x1)) (Prod.fst (List.getD (g5_0 x1) (Int.toNat v18) (ByteArray.empty, ByteArray.empty, ByteArray.empty, ()))) (Prod.fst (Prod.snd (List.getD (g5_0 x1) (Int.toNat v18) (ByteArray.empty, ByteArray.empty, ByteArray.empty, ())))), (g7_1 (g9_0 (g5_0 x0) (g5_0 x1)) (Prod.fst (List.getD (g5_0 x1) (Int.toNat v18) (ByteArray.empty, ByteArray.empty, ByteArray.empty, ()))) (Prod.fst (Prod.snd (List.getD (g5_0 x1) (Int.toNat v18) (ByteArray.empty, ByteArray.empty, ByteArray.empty, ())))) != 0) = Bool.false, 0 ≤ v18, v18 < (↑(List.length (g5_0 x1)) : Int), (!ByteArray.toList (g7_0 (g9_0 (g5_0 x0) (g5_0 x1)) (Prod.fst (List.getD (g5_0 x1) (Int.toNat v18) (ByteArray.empty, ByteArray.empty, ByteArray.empty, ()))) (Prod.fst (Prod.snd (List.getD (g5_0 x1) (Int.toNat v18) (ByteArray.empty, ByteArray.empty, ByteArray.empty, ()))))) == ByteArray.toList (Prod.fst (Prod.snd (Prod.snd (List.getD (g5_0 x1) (Int.toNat v18) (ByteArray.empty, ByteArray.empty, ByteArray.empty, ())))))) = Bool.false]) := by kernel_rfl
theorem p3_18 (v18 : Int) (x0 : List Int) (x1 : List Int) : Am.runN tab ext3 false 134 [3, 13, 16, 15] 2000 [] [] [5, 6, 14, 18] [0, 1, 2] [] (cutAt b3 15) (E3_15 v18 x0 x1) (L3_15 v18 x0 x1) = some (cutAt b3 14, E3_14 (v18 + 1) (x0) (x1), L3_14 (v18 + 1) (x0) (x1), [InR IntKind.i64 (v18 + 1)]) := by kernel_rfl
theorem snd3 : ∀ n, (∀ (x0 : List Int) (x1 : List Int) ds, R3 n x0 x1 ds → ∀ K q, AtV Try.prog 3 (PostR kds3 oks3 ds [] [] q K) 134 K q [] [.code b3] (entE 0 0 sig3 (x0, x1, ())) (entL sig3 (x0, x1, ()))) ∧ (∀ (x0 : List Int) (x1 : List Int) ds, R3_3 n x0 x1 ds → ∀ K q, AtV Try.prog 3 (PostR kds3 oks3 ds [] [] q K) 134 K q [] (cutAt b3 3) (E3_3 x0 x1) (L3_3 x0 x1)) ∧ (∀ (x0 : List Int) (x1 : List Int) ds, R3_13 n x0 x1 ds → ∀ K q, AtV Try.prog 3 (PostR kds3 oks3 ds [] [] q K) 134 K q [] (cutAt b3 13) (E3_13 x0 x1) (L3_13 x0 x1)) ∧ (∀ (v18 : Int) (x0 : List Int) (x1 : List Int) ds, R3_14 n v18 x0 x1 ds → ∀ K q, AtV Try.prog 3 (PostR kds3 oks3 ds [] [] q K) 134 K q [] (cutAt b3 14) (E3_14 v18 x0 x1) (L3_14 v18 x0 x1)) ∧ (∀ (v18 : Int) (x0 : List Int) (x1 : List Int) ds, R3_16 n v18 x0 x1 ds → ∀ K q, AtV Try.prog 3 (PostR kds3 oks3 ds [] [] q K) 134 K q [] (cutAt b3 16) (E3_16 v18 x0 x1) (L3_16 v18 x0 x1)) ∧ (∀ (v18 : Int) (x0 : List Int) (x1 : List Int) ds, R3_15 n v18 x0 x1 ds → ∀ K q, AtV Try.prog 3 (PostR kds3 oks3 ds [] [] q K) 134 K q [] (cutAt b3 15) (E3_15 v18 x0 x1) (L3_15 v18 x0 x1)) := by
  intro n
  induction n with
  | zero => exact ⟨fun _ _ _ h => by simp only [R3] at h, fun _ _ _ h => by simp only [R3_3] at h, fun _ _ _ h => by simp only [R3_13] at h, fun _ _ _ _ h => by simp only [R3_14] at h, fun _ _ _ _ h => by simp only [R3_16] at h, fun _ _ _ _ h => by simp only [R3_15] at h⟩
  | succ n ih =>
  obtain ⟨ih, ih3, ih13, ih14, ih16, ih15⟩ := ih
  refine ⟨?_, ?_, ?_, ?_, ?_, ?_⟩
  · intro x0 x1 ds h K q
    rw [R3] at h
    by_cases b0 : (g4_0 x0 x1) = true
    · rw [if_pos b0] at h
      subst h
      exact AtV.fin Try.func3 tabOk ext3Ok mixed (p3_0 x0 x1) ⟨trivial, b0, trivial⟩
    · rw [if_neg b0] at h
      replace b0 := Bool.eq_false_iff.2 b0
      exact AtV.runN tabOk ext3Ok mixed (p3_1 x0 x1) ⟨trivial, b0, trivial⟩ (ih3 _ _ _ h K q)

  · intro x0 x1 ds h K q
    rw [R3_3] at h
    obtain ⟨s0, h⟩ := h
    obtain ⟨s1, h⟩ := h
    obtain ⟨s2, h⟩ := h
    obtain ⟨s3, h⟩ := h
    obtain ⟨s4, h⟩ := h
    obtain ⟨s5, h⟩ := h
    by_cases b0 : (g6_1 (g5_0 x0) (ByteArray.mk #[110, 101, 119], ByteArray.mk #[120], ByteArray.mk #[116], ()) != 0) = true
    · rw [if_pos b0] at h
      subst h
      exact AtV.fin Try.func3 tabOk ext3Ok mixed (p3_2 x0 x1) ⟨s0, s1, s2, s3, s4, s5, trivial, b0, rfl, rfl, rfl, rfl, rfl, rfl, rfl, rfl, trivial⟩
    · rw [if_neg b0] at h
      replace b0 := Bool.eq_false_iff.2 b0
      by_cases b1 : (g7_1 (g6_0 (g5_0 x0) (ByteArray.mk #[110, 101, 119], ByteArray.mk #[120], ByteArray.mk #[116], ())) (ByteArray.mk #[110, 101, 119]) (ByteArray.mk #[120]) != 0) = true
      · rw [if_pos b1] at h
        subst h
        exact AtV.fin Try.func3 tabOk ext3Ok mixed (p3_3 x0 x1) ⟨s0, s1, s2, s3, s4, s5, trivial, b0, b1, rfl, rfl, rfl, rfl, rfl, rfl, rfl, trivial⟩
      · rw [if_neg b1] at h
        replace b1 := Bool.eq_false_iff.2 b1
        by_cases b2 : (!ByteArray.toList (g7_0 (g6_0 (g5_0 x0) (ByteArray.mk #[110, 101, 119], ByteArray.mk #[120], ByteArray.mk #[116], ())) (ByteArray.mk #[110, 101, 119]) (ByteArray.mk #[120])) == ByteArray.toList (ByteArray.mk #[116])) = true
        · rw [if_pos b2] at h
          subst h
          exact AtV.fin Try.func3 tabOk ext3Ok mixed (p3_4 x0 x1) ⟨s0, s1, s2, s3, s4, s5, trivial, b0, b1, b2, rfl, rfl, rfl, rfl, rfl, rfl, trivial⟩
        · rw [if_neg b2] at h
          replace b2 := Bool.eq_false_iff.2 b2
          by_cases b3 : (g8_1 (g6_0 (g5_0 x0) (ByteArray.mk #[110, 101, 119], ByteArray.mk #[120], ByteArray.mk #[116], ())) (ByteArray.mk #[110, 101, 119]) (ByteArray.mk #[120]) != 0) = true
          · rw [if_pos b3] at h
            subst h
            exact AtV.fin Try.func3 tabOk ext3Ok mixed (p3_5 x0 x1) ⟨s0, s1, s2, s3, s4, s5, trivial, b0, b1, b2, b3, rfl, rfl, rfl, rfl, rfl, trivial⟩
          · rw [if_neg b3] at h
            replace b3 := Bool.eq_false_iff.2 b3
            by_cases b4 : (!g11_0 (g8_0 (g6_0 (g5_0 x0) (ByteArray.mk #[110, 101, 119], ByteArray.mk #[120], ByteArray.mk #[116], ())) (ByteArray.mk #[110, 101, 119]) (ByteArray.mk #[120])) (g5_0 x0)) = true
            · rw [if_pos b4] at h
              subst h
              exact AtV.fin Try.func3 tabOk ext3Ok mixed (p3_6 x0 x1) ⟨s0, s1, s2, s3, s4, s5, trivial, b0, b1, b2, b3, trivial, b4, rfl, rfl, rfl, rfl, trivial⟩
            · rw [if_neg b4] at h
              replace b4 := Bool.eq_false_iff.2 b4
              by_cases b5 : (g9_1 (g5_0 x0) (g5_0 x1) != 0) = true
              · rw [if_pos b5] at h
                subst h
                exact AtV.fin Try.func3 tabOk ext3Ok mixed (p3_7 x0 x1) ⟨s0, s1, s2, s3, s4, s5, trivial, b0, b1, b2, b3, trivial, b4, b5, rfl, rfl, rfl, trivial⟩
              · rw [if_neg b5] at h
                replace b5 := Bool.eq_false_iff.2 b5
                by_cases b6 : (!g12_0 (g9_0 (g5_0 x0) (g5_0 x1))) = true
                · rw [if_pos b6] at h
                  subst h
                  exact AtV.fin Try.func3 tabOk ext3Ok mixed (p3_8 x0 x1) ⟨s0, s1, s2, s3, s4, s5, trivial, b0, b1, b2, b3, trivial, b4, b5, trivial, b6, rfl, rfl, trivial⟩
                · rw [if_neg b6] at h
                  replace b6 := Bool.eq_false_iff.2 b6
                  by_cases b7 : (g10_1 (g6_0 (g5_0 x0) (ByteArray.mk #[110, 101, 119], ByteArray.mk #[120], ByteArray.mk #[116], ())) (ByteArray.mk #[110, 101, 119]) != 0) = true
                  · rw [if_pos b7] at h
                    subst h
                    exact AtV.fin Try.func3 tabOk ext3Ok mixed (p3_9 x0 x1) ⟨s0, s1, s2, s3, s4, s5, trivial, b0, b1, b2, b3, trivial, b4, b5, trivial, b6, b7, rfl, trivial⟩
                  · rw [if_neg b7] at h
                    replace b7 := Bool.eq_false_iff.2 b7
                    by_cases b8 : ((↑(List.length (g10_0 (g6_0 (g5_0 x0) (ByteArray.mk #[110, 101, 119], ByteArray.mk #[120], ByteArray.mk #[116], ())) (ByteArray.mk #[110, 101, 119]))) : Int) != 1) = true
                    · rw [if_pos b8] at h
                      subst h
                      exact AtV.fin Try.func3 tabOk ext3Ok mixed (p3_10 x0 x1) ⟨s0, s1, s2, s3, s4, s5, trivial, b0, b1, b2, b3, trivial, b4, b5, trivial, b6, b7, b8, trivial⟩
                    · rw [if_neg b8] at h
                      replace b8 := Bool.eq_false_iff.2 b8
                      exact AtV.runN tabOk ext3Ok mixed (p3_11 x0 x1) ⟨s0, s1, s2, s3, s4, s5, trivial, b0, b1, b2, b3, trivial, b4, b5, trivial, b6, b7, b8, trivial⟩ (ih13 _ _ _ h K q)

  · intro x0 x1 ds h K q
    rw [R3_13] at h
    exact AtV.runN tabOk ext3Ok mixed (p3_12 x0 x1) trivial (ih14 _ _ _ _ h K q)

  · intro v18 x0 x1 ds h K q
    rw [R3_14] at h
    by_cases b0 : (Decidable.decide (v18 < (↑(List.length (g5_0 x1)) : Int))) = true
    · rw [if_pos b0] at h
      exact AtV.runN tabOk ext3Ok mixed (p3_13 v18 x0 x1) ⟨b0, trivial⟩ (ih16 _ _ _ _ h K q)
    · rw [if_neg b0] at h
      replace b0 := Bool.eq_false_iff.2 b0
      obtain ⟨s0, h⟩ := h
      subst h
      exact AtV.fin Try.func3 tabOk ext3Ok mixed (p3_14 v18 x0 x1) ⟨b0, s0, trivial⟩

  · intro v18 x0 x1 ds h K q
    rw [R3_16] at h
    obtain ⟨s0, s1, h⟩ := h
    obtain ⟨s2, s3, h⟩ := h
    obtain ⟨s4, h⟩ := h
    by_cases b0 : (g7_1 (g9_0 (g5_0 x0) (g5_0 x1)) (Prod.fst (List.getD (g5_0 x1) (Int.toNat v18) (ByteArray.empty, ByteArray.empty, ByteArray.empty, ()))) (Prod.fst (Prod.snd (List.getD (g5_0 x1) (Int.toNat v18) (ByteArray.empty, ByteArray.empty, ByteArray.empty, ())))) != 0) = true
    · rw [if_pos b0] at h
      subst h
      exact AtV.fin Try.func3 tabOk ext3Ok mixed (p3_15 v18 x0 x1) ⟨s0, s1, s2, s3, s4, b0, rfl, trivial⟩
    · rw [if_neg b0] at h
      replace b0 := Bool.eq_false_iff.2 b0
      obtain ⟨s5, s6, h⟩ := h
      by_cases b1 : (!ByteArray.toList (g7_0 (g9_0 (g5_0 x0) (g5_0 x1)) (Prod.fst (List.getD (g5_0 x1) (Int.toNat v18) (ByteArray.empty, ByteArray.empty, ByteArray.empty, ()))) (Prod.fst (Prod.snd (List.getD (g5_0 x1) (Int.toNat v18) (ByteArray.empty, ByteArray.empty, ByteArray.empty, ()))))) == ByteArray.toList (Prod.fst (Prod.snd (Prod.snd (List.getD (g5_0 x1) (Int.toNat v18) (ByteArray.empty, ByteArray.empty, ByteArray.empty, ())))))) = true
      · rw [if_pos b1] at h
        subst h
        exact AtV.fin Try.func3 tabOk ext3Ok mixed (p3_16 v18 x0 x1) ⟨s0, s1, s2, s3, s4, b0, s5, s6, b1, trivial⟩
      · rw [if_neg b1] at h
        replace b1 := Bool.eq_false_iff.2 b1
        exact AtV.runN tabOk ext3Ok mixed (p3_17 v18 x0 x1) ⟨s0, s1, s2, s3, s4, b0, s5, s6, b1, trivial⟩ (ih15 _ _ _ _ h K q)

  · intro v18 x0 x1 ds h K q
    rw [R3_15] at h
    obtain ⟨s0, h⟩ := h
    exact AtV.runN tabOk ext3Ok mixed (p3_18 v18 x0 x1) ⟨s0, trivial⟩ (ih14 _ _ _ _ h K q)



def g3_0 (x0 x1 : List Int) : Bool := true
def P3 (x0 x1 : List Int) : Prop := True
def kin3 : List ByteArray := [ByteArray.mk #[99, 104, 101, 99, 107], ByteArray.mk #[110, 111, 116, 101], ByteArray.mk #[102, 97, 99, 101]]

theorem drawn3 {x : List Int} (hw : Wf (.sl (.int .u8)) x) : P5 x ∧ g22_0 (g5_0 x) = true ∧ (g5_0 x).length ≤ 5 ∧ ∀ b ∈ g5_0 x, b.1 ∈ kin3 := by
  have p : P14 (x, 0, 0, ()) := (src_start hw).up (by decide)
  obtain ⟨_, a, b, c, _⟩ := q14 _ p
  exact ⟨⟨p, trivial⟩, a, b, c⟩

theorem loop3 (x0 x1 : List Int) (hx : g22_0 (g5_0 x0) = true) (ht : g22_0 (g5_0 x1) = true) (h0 : (g5_0 x0).length ≤ 5) (h1 : (g5_0 x1).length ≤ 5) :
    ∀ (k i : Nat), i + k = (g5_0 x1).length → R3_14 (3 * k + 1) (i : Int) x0 x1 [⟨.bool, true⟩] := by
  obtain ⟨_, _, mok, mlen, mem⟩ := merge_law hx ht (by omega)
  intro k
  induction k with
  | zero =>
    intro i hi
    rw [R3_14, if_neg (by simp only [decide_eq_true_eq]; omega)]
    refine ⟨by rw [i64_iff]; omega, ?_⟩
    rw [decide_eq_true (by omega)]
  | succ k ih =>
    intro i hi
    have hlt : i < (g5_0 x1).length := by omega
    have hmem := mem _ (mem_getD (g5_0 x1) i (ByteArray.empty, ByteArray.empty, ByteArray.empty, ()) hlt)
    obtain ⟨p, e1, e2⟩ := named_law mok hmem
    show R3_14 (3 * k + 1 + 1 + 1 + 1) (i : Int) x0 x1 _
    rw [R3_14, if_pos (by simp only [decide_eq_true_eq]; omega), R3_16]
    simp only [Int.toNat_natCast]
    refine ⟨by omega, by omega, by omega, by omega, p, ?_⟩
    rw [if_neg (by rw [e1]; simp)]
    refine ⟨by omega, by omega, ?_⟩
    rw [if_neg (by rw [e2]; simp), R3_15]
    exact ⟨by rw [i64_iff]; omega, ih (i + 1) (by omega)⟩

theorem top3 (x0 x1 : List Int) (w0 : Wf (.sl (.int .u8)) x0) (w1 : Wf (.sl (.int .u8)) x1) : ∃ n, R3 n x0 x1 [⟨.bool, g3_0 x0 x1⟩] := by
  unfold g3_0
  obtain ⟨p0, a0, b0, c0⟩ := drawn3 w0
  obtain ⟨p1, a1, b1, c1⟩ := drawn3 w1
  have one : g31_0 (ByteArray.mk #[110, 101, 119], ByteArray.mk #[120], ByteArray.mk #[116], ()) = true := by decide +kernel
  obtain ⟨q1, e1, e2, l1⟩ := put_law (t := (ByteArray.mk #[110, 101, 119], ByteArray.mk #[120], ByteArray.mk #[116], ())) a0 (by omega) one
  obtain ⟨a, b, ep, ha, hb, _, hs, hx⟩ := put_parts (g5_0 x0) (ByteArray.mk #[110, 101, 119], ByteArray.mk #[120], ByteArray.mk #[116], ()) (ok_srt a0)
  have hne : ∀ y ∈ g5_0 x0, y.1 ≠ ByteArray.mk #[110, 101, 119] := fun y hy h => by
    have := c0 y hy
    rw [h] at this
    have hz : ∀ z ∈ kin3, z.size ≠ 3 := by unfold kin3; decide
    exact hz _ this rfl
  have hx2 : g5_0 x0 = a ++ b := by
    rcases hx with hx | ⟨y, hy, hx⟩
    · exact hx
    · exact absurd hy.1 (hne y (by rw [hx]; simp))
  have ok2 : g22_0 (a ++ (ByteArray.mk #[110, 101, 119], ByteArray.mk #[120], ByteArray.mk #[116], ()) :: b) = true := by
    refine ok_of_srt (fun y hy => ?_) hs (by rw [← ep]; omega)
    rcases List.mem_append.1 hy with hy | hy
    · exact ok_one a0 y (ha y hy).1
    · rcases List.mem_cons.1 hy with rfl | hy
      · exact one
      · exact ok_one a0 y (hb y hy).1
  obtain ⟨n1, n2, n3⟩ := named_law (y := (ByteArray.mk #[110, 101, 119], ByteArray.mk #[120], ByteArray.mk #[116], ())) ok2 (by simp)
  obtain ⟨d1, d2, d3⟩ := drop_law (y := (ByteArray.mk #[110, 101, 119], ByteArray.mk #[120], ByteArray.mk #[116], ())) ok2 rfl
  obtain ⟨m1, m2, m3, m4, m5⟩ := merge_law a0 a1 (by omega)
  obtain ⟨k1, k2, k3⟩ := kind_law ok2 (ByteArray.mk #[110, 101, 119])
  have k4 := kind_one (a := a) (b := b) (t := (ByteArray.mk #[110, 101, 119], ByteArray.mk #[120], ByteArray.mk #[116], ())) (fun y hy => hne y (by rw [hx2]; exact hy))
  have s1 : g11_0 (a ++ b) (g5_0 x0) = true := by
    show decide (a ++ b = g5_0 x0) = true
    exact decide_eq_true hx2.symm
  have s2 : g12_0 (g9_0 (g5_0 x0) (g5_0 x1)) = true := m3
  refine ⟨3 * (g5_0 x1).length + 1 + 1 + 1 + 1, ?_⟩
  rw [R3]
  split
  · rfl
  rw [R3_3, e1, e2, ep]
  simp only [n2, n3, d2, d3, m2, s1, s2, k2, k3, k4]
  refine ⟨p0, p1, q1, n1, d1, m1, ?_⟩
  simp only [bne_self_eq_false, beq_self_eq_true, Bool.not_true, Bool.false_eq_true, if_false]
  rw [if_neg (by decide), R3_13]
  exact loop3 x0 x1 a0 a1 b0 b1 _ 0 (by omega)

def S3 : Am.Spec := { sig := sig3, pre := fun ⟨x0, x1, _⟩ => P3 x0 x1, res := fun ⟨x0, x1, _⟩ => [⟨Ty.bool, g3_0 x0 x1⟩] }
theorem con3 : Contract Try.prog 3 S3 := contract_of Try.func3 hb3 (Nat.le_of_ble_eq_true (by kernel_rfl)) (fun ⟨x0, x1, _⟩ h hwf K q =>
  let ⟨n, hn⟩ := top3 x0 x1 hwf.1 hwf.2.1
  (snd3 n).1 x0 x1 _ hn K q)

end
end Go.Proofs.Ytohojjcoikkmcaa

/- The plain law of FnBlocks. -/
set_option linter.unusedVariables false
set_option linter.unusedSimpArgs false
set_option maxRecDepth 100000
namespace Go.Proofs.Ytohojjcoikkmcaa
open Go Go.Am Go.Proofs

theorem law3 (x0 x1 : List Int) (h0 : Wf (.sl (.int .u8)) x0) (h1 : Wf (.sl (.int .u8)) x1) : P3 x0 x1 ∧ g3_0 x0 x1 = true := ⟨trivial, rfl⟩

end Go.Proofs.Ytohojjcoikkmcaa
