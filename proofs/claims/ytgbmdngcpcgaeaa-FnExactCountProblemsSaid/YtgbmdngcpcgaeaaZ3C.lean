/- Several texts in one: the functions that this law reaches, and their laws. -/
import Derived.Test.YtgbmdngcpcgaeaaZ3A
import Derived.Test.YtgbmdngcpcgaeaaZ3B
import Derived.Laws.IdiomCopy
import Derived.Laws.AppendOwn
import Derived.Test.YtgbmdngcpcgaeaaRows
import Derived.KernelRfl
import Derived.Shelf.Vars
import Derived.Lib.SliceRun
import Derived.WalkKit
import Derived.Deep.LoopGhost
import Derived.Lib.Walk
import Derived.Shelf.RegionOpenPlain

/- The abstract machine, part 40: copy and clear at elements of many cells; slices.Delete and slices.Insert: from their runs to their contracts. -/
namespace Go.Am
set_option linter.unusedVariables false
set_option linter.unusedSimpArgs false
open Go.RowKit (Below)

section
variable {P : Program}

/-- ALL IS READ BEFORE ANYTHING IS WRITTEN. -/
theorem run_copy_k (w : World) (dT sT ty elem : TypeId) (k b o dLen dCap : Nat) (a : Addr) (sLen sCap : Nat) (cs : List Value)
    (hu : P.underlying dT = some (.slice elem)) (hs : (P.info? elem).map (·.size) = some k) (hn : cs.length = Nat.min sLen dLen * k)
    (hsrc : ∀ j v, cs[j]? = some v → w.cell? (a.add j) = some v) (hc : ∀ j, j < cs.length → (w.cell? ⟨b, o + j, none⟩).isSome = true) (hf : ∀ j, j < cs.length → w.frozen? ⟨b, o + j, none⟩ = false) (h1 : ∀ v ∈ cs, v.oneCell' = true) :
    (Builtin.copy_ #[dT, sT] ty #[.slice (some ⟨b, o, none⟩) dLen dCap, .slice (some a) sLen sCap]).run P w = .ok (goInt (Nat.min sLen dLen)) (w.setCells b o cs) := by
  have hl := run_loadCells_list (P := P) w a cs hsrc
  have hst := run_storeCells_cells (P := P) b o cs 0 w (by simpa using hc) (by simpa using hf) h1
  cases hq : P.info? elem with
  | none => simp [hq] at hs
  | some i =>
    have hi : i.size = k := by simpa [hq] using hs
    simp [Builtin.copy_, run_underlying hu, Builtin.lenOf, Builtin.firstCells, sizeOf, typeInfo, hq, hi, ← hn, hl, hst]

theorem run_clear_k (w : World) (t e ty : TypeId) (z : Value) (ht : P.underlying t = some (.slice e)) (hv : ∀ w, (zeroValue e).run P w = .ok z w) (b o n c : Nat) (hn : 0 < n) (zs : List Value) (hzs : (Builtin.zeroCells z.cells n).toList = zs)
    (h1 : ∀ v ∈ zs, v.oneCell' = true) (hc : ∀ j, j < zs.length → (w.cell? ⟨b, o + j, none⟩).isSome = true) (hf : ∀ j, j < zs.length → w.frozen? ⟨b, o + j, none⟩ = false) :
    (Builtin.clear_ #[t] ty #[.slice (some ⟨b, o, none⟩) n c]).run P w = .ok (.tuple #[]) (w.setCells b o zs) := by
  have hst := run_storeCells_cells (P := P) b o zs 0 w (by simpa using hc) (by simpa using hf) h1
  simp only [Nat.add_zero] at hst
  obtain ⟨m, rfl⟩ : ∃ m, n = m + 1 := ⟨n - 1, by omega⟩
  simp [Builtin.clear_, run_underlying ht, hv, hzs, hst]

theorem zeroCells_k (t : Ty) (n : Nat) : (Builtin.zeroCells (dcells t).toArray n).toList = (List.replicate n (dcells t)).flatten := by
  have := zeros_flat (dcells t).toArray n
  unfold Builtin.zeroCells
  rw [this]
end

theorem dcells_one : ∀ (t : Ty), ∀ v ∈ dcells t, v.oneCell' = true
  | .int _, v, h => by simp [dcells] at h; subst h; rfl
  | .bool, v, h => by simp [dcells] at h; subst h; rfl
  | .str, v, h => by simp [dcells] at h; subst h; rfl
  | .sl _, v, h => by simp [dcells] at h; subst h; rfl
  | .unit, v, h => by simp [dcells] at h
  | .cons a b, v, h => by
    simp only [dcells, List.mem_append] at h
    rcases h with h | h
    · exact dcells_one a v h
    · exact dcells_one b v h

theorem isSome_put (b : Nat) : ∀ (vs : List Value) (o : Nat) (w : World) (x : Addr), (w.cell? x).isSome = true → ((w.setCells b o vs).cell? x).isSome = true
  | [], _, _, _, h => h
  | v :: r, o, w, x, h => by
    refine isSome_put b r (o + 1) _ x ?_
    obtain ⟨u, hu⟩ := Option.isSome_iff_exists.1 h
    by_cases e : (⟨b, o, none⟩ : Addr) = x
    · subst e; rw [World.cell?_setCell_same _ _ _ hu]; rfl
    · rw [World.cell?_setCell_other _ _ _ _ e, hu]; rfl

theorem setCell_block {w : World} {b o : Nat} {v : Value} {cur : Array Value} {ty : TypeId} {fz : Nat × Nat} (h : w.heap[b]? = some (.cells cur ty fz)) : (w.setCell ⟨b, o, none⟩ v).heap[b]? = some (.cells (cur.setIfInBounds o v) ty fz) ∧ (∀ k, k ≠ b → (w.setCell ⟨b, o, none⟩ v).heap[k]? = w.heap[k]?) ∧ (w.setCell ⟨b, o, none⟩ v).heap.size = w.heap.size := by
  refine ⟨?_, fun k hk => ?_, ?_⟩
  · simp [World.setCell, Array.getElem?_modify, h]
  · simp [World.setCell, Array.getElem?_modify, Ne.symm hk]
  · simp [World.setCell]

theorem setCells_block : ∀ (vs : List Value) {w : World} {b o : Nat} {cur : Array Value} {ty : TypeId} {fz : Nat × Nat}, w.heap[b]? = some (.cells cur ty fz) → o + vs.length ≤ cur.size →
    ∃ cur', (w.setCells b o vs).heap[b]? = some (.cells cur' ty fz) ∧ cur'.size = cur.size ∧ (∀ j u, vs[j]? = some u → cur'[o + j]? = some u) ∧ (∀ j, j < o ∨ o + vs.length ≤ j → cur'[j]? = cur[j]?) ∧
      (∀ k, k ≠ b → (w.setCells b o vs).heap[k]? = w.heap[k]?) ∧ (w.setCells b o vs).heap.size = w.heap.size
  | [], w, b, o, cur, ty, fz, h, _ => ⟨cur, h, rfl, fun j u hj => by simp at hj, fun _ _ => rfl, fun _ _ => rfl, rfl⟩
  | v :: r, w, b, o, cur, ty, fz, h, hl => by
    simp only [List.length_cons] at hl
    obtain ⟨e1, e2, e3⟩ := setCell_block (o := o) (v := v) h
    obtain ⟨cur', g1, g2, g3, g4, g5, g6⟩ := setCells_block r (o := o + 1) e1 (by simp; omega)
    refine ⟨cur', g1, by rw [g2]; simp, fun j u hj => ?_, fun j hj => ?_, fun k hk => by rw [World.setCells, g5 k hk, e2 k hk], by rw [World.setCells, g6, e3]⟩
    · cases j with
      | zero =>
        simp at hj
        subst hj
        rw [Nat.add_zero, g4 o (.inl (by omega)), Array.getElem?_setIfInBounds_self_of_lt (by omega)]
      | succ j =>
        have := g3 j u (by simpa using hj)
        rwa [show o + (j + 1) = o + 1 + j by omega]
    · simp only [List.length_cons] at hj
      rw [g4 j (by omega), Array.getElem?_setIfInBounds_ne (by omega)]

theorem setCells_kept (vs : List Value) {w : World} {b o : Nat} {cur : Array Value} {ty : TypeId} {fz : Nat × Nat} (h : w.heap[b]? = some (.cells cur ty fz)) (hl : o + vs.length ≤ cur.size) : Kept [b] w (w.setCells b o vs) := by
  obtain ⟨_, _, _, _, _, g5, g6⟩ := setCells_block vs h hl
  have hw : ∀ (vs : List Value) (o : Nat) (w : World), (w.setCells b o vs).os = w.os ∧ (w.setCells b o vs).tape = w.tape ∧ (w.setCells b o vs).output = w.output := by
    intro vs
    induction vs with
    | nil => intro o w; exact ⟨rfl, rfl, rfl⟩
    | cons v r ih =>
      intro o w
      obtain ⟨h1, h2, h3⟩ := ih (o + 1) (w.setCell ⟨b, o, none⟩ v)
      exact ⟨h1, h2, h3⟩
  obtain ⟨h1, h2, h3⟩ := hw vs o w
  exact ⟨h1, h2, h3, by rw [g6]; exact Nat.le_refl _, fun k hk hkb => g5 k (by simpa using hkb)⟩

theorem fcs_append (t : Ty) (xs ys : List t.den) : fcs t (xs ++ ys) = fcs t xs ++ fcs t ys := by simp [fcs]

/-- What a call of such a function knows of an owned slice that is not empty. -/
structure OwnAt (w : World) (t : Ty) (xs : List t.den) (b off cap : Nat) (cur : Array Value) (ty : TypeId) (fz : Nat × Nat) : Prop where
  wf : ∀ x ∈ xs, Wf t x
  len : xs.length ≤ cap
  capm : cap ≤ maxLen
  fit : off + cap * t.size ≤ cur.size
  blk : w.heap[b]? = some (.cells cur ty fz)
  free : FreeS t.size fz cur.size
  has : ∀ j u, (fcs t xs)[j]? = some u → cur[off + j]? = some u

theorem OwnAt.cell {w : World} {t : Ty} {xs : List t.den} {b off cap : Nat} {cur : Array Value} {ty : TypeId} {fz : Nat × Nat} (h : OwnAt w t xs b off cap cur ty fz) : ∀ j u, (fcs t xs)[j]? = some u → w.cell? ⟨b, off + j, none⟩ = some u := fun j u hj => by
  simp only [World.cell?, h.blk]
  exact h.has j u hj

theorem OwnAt.some' {w : World} {t : Ty} {xs : List t.den} {b off cap : Nat} {cur : Array Value} {ty : TypeId} {fz : Nat × Nat} (h : OwnAt w t xs b off cap cur ty fz) : ∀ j, j < cap * t.size → (w.cell? ⟨b, off + j, none⟩).isSome = true := fun j hj => by
  have := h.fit
  simp only [World.cell?, h.blk]
  rw [Array.getElem?_eq_getElem (by omega)]
  rfl

theorem OwnAt.unfrozen {w : World} {t : Ty} {xs : List t.den} {b off cap : Nat} {cur : Array Value} {ty : TypeId} {fz : Nat × Nat} (h : OwnAt w t xs b off cap cur ty fz) : ∀ j, j < cap * t.size → w.frozen? ⟨b, off + j, none⟩ = false := fun j hj => by
  have h1 := h.fit
  have h2 := h.free.1 (off + j) (by omega)
  simp only [World.frozen?, h.blk]
  rw [Bool.eq_false_iff]
  intro hh
  simp only [Bool.and_eq_true, decide_eq_true_eq] at hh
  exact h2 hh

theorem OwnAt.lt {w : World} {t : Ty} {xs : List t.den} {b off cap : Nat} {cur : Array Value} {ty : TypeId} {fz : Nat × Nat} (h : OwnAt w t xs b off cap cur ty fz) : b < w.heap.size := by
  rcases Nat.lt_or_ge b w.heap.size with h' | h'
  · exact h'
  · have := h.blk
    rw [Array.getElem?_eq_none h'] at this; cases this

theorem ownAt_of {w : World} {t : Ty} (hf : t.flat = true) {xs : List t.den} {v : Value} {bs : List Nat} (h : OwnC w (.sl t) xs [v] bs) (hne : xs ≠ []) :
    ∃ b off cap cur ty fz, v = .slice (some ⟨b, off, none⟩) xs.length cap ∧ bs = [b] ∧ OwnAt w t xs b off cap cur ty fz := by
  obtain ⟨hw, hm, hcase⟩ := own_flat hf h
  rcases hcase with ⟨ad, rfl, h1, _⟩ | ⟨b, off, cap, cur, ty, fz, h1, h2, h3, h4, h5, h6, h7, h8⟩
  · exact absurd h1 hne
  · exact ⟨b, off, cap, cur, ty, fz, h1, h7, hw, h2, h3, h4, h5, h6, h8⟩

theorem fcells_ones {t : Ty} (hf : t.flat = true) (xs : List t.den) : ∀ u ∈ fcs t xs, u.oneCell' = true := fun u hu => by
  obtain ⟨l, hl, hu⟩ := List.mem_flatten.1 hu
  obtain ⟨x, _, rfl⟩ := List.mem_map.1 hl
  exact fcells_one hf u hu

theorem fcs_drop {t : Ty} (hf : t.flat = true) {xs : List t.den} (hw : ∀ x ∈ xs, Wf t x) (j : Nat) (hj : j ≤ xs.length) : ∀ (k : Nat) (u : Value), (fcs t (xs.drop j))[k]? = some u → (fcs t xs)[j * t.size + k]? = some u := fun k u hk => by
  have h1 : fcs t xs = fcs t (xs.take j) ++ fcs t (xs.drop j) := by rw [← fcs_append, List.take_append_drop]
  have h2 : (fcs t (xs.take j)).length = j * t.size := by rw [fcs_length hf (fun x hx => hw x (List.mem_of_mem_take hx)), List.length_take, Nat.min_eq_left hj]
  rw [h1, List.getElem?_append_right (by omega), h2, Nat.add_sub_cancel_left]
  exact hk

theorem fcs_take {t : Ty} (hf : t.flat = true) {xs : List t.den} (hw : ∀ x ∈ xs, Wf t x) (j : Nat) : ∀ (k : Nat) (u : Value), (fcs t (xs.take j))[k]? = some u → (fcs t xs)[k]? = some u := fun k u hk => by
  have h1 : fcs t xs = fcs t (xs.take j) ++ fcs t (xs.drop j) := by rw [← fcs_append, List.take_append_drop]
  rw [h1, List.getElem?_append_left (List.getElem?_eq_some_iff.1 hk).1]
  exact hk

/-! ### slices.Delete -/

def deleteSpec (t : Ty) : Spec := { sig := [AT.own t, AT.v (.int .i64), AT.v (.int .i64)], pre := fun ⟨x0, x1, x2, _⟩ => 0 ≤ x1 ∧ x1 < x2 ∧ x2 ≤ x0.length, upd := fun _ => [none], res := fun ⟨x0, x1, x2, _⟩ => [⟨.sl t, x0.take x1.toNat ++ x0.drop x2.toNat⟩] }

theorem delete_contract {P : Program} {f : FuncId} {t : Ty} (hf : t.flat = true)
    (hrun : ∀ (w : World) (xs : List t.den) (b off cap : Nat) (cur : Array Value) (ty : TypeId) (fz : Nat × Nat) (i j : Nat), OwnAt w t xs b off cap cur ty fz → i < j → j ≤ xs.length →
      Calls P f #[.slice (some ⟨b, off, none⟩) xs.length cap, .int .i64 i, .int .i64 j] w fun r w' => r = .returned (.slice (some ⟨b, off, none⟩) (xs.length - (j - i)) cap) ∧
        ∃ q zs, zs.length = (j - i) * t.size ∧ w' = ((w.drewN q).setCells b (off + i * t.size) (fcs t (xs.drop j))).setCells b (off + (xs.length - (j - i)) * t.size) zs) :
    Contract P f (deleteSpec t) := by
  rintro w ⟨z0, z1, z2, u⟩ vs bss hgo hp ⟨v, s, b0, bs0, rfl, rfl, ho, v1, s1, b1, bs1, rfl, rfl, ⟨rfl, rfl, _⟩, v2, s2, b2, bs2, rfl, rfl, ⟨rfl, rfl, _⟩, rfl, rfl⟩ hn
  obtain ⟨x0, rfl⟩ : ∃ y : List t.den, y = z0 := ⟨z0, rfl⟩
  obtain ⟨x1, rfl⟩ : ∃ y : Int, y = z1 := ⟨z1, rfl⟩
  obtain ⟨x2, rfl⟩ : ∃ y : Int, y = z2 := ⟨z2, rfl⟩
  dsimp only
  have ho' : OwnC w (.sl t) x0 [v] b0 := ho
  obtain ⟨p0, p1, p2⟩ : 0 ≤ x1 ∧ x1 < x2 ∧ x2 ≤ x0.length := hp
  obtain ⟨i, rfl⟩ : ∃ i : Nat, x1 = i := ⟨x1.toNat, by omega⟩
  obtain ⟨j, rfl⟩ : ∃ j : Nat, x2 = j := ⟨x2.toNat, by omega⟩
  have hij : i < j := by omega
  have hj : j ≤ x0.length := by omega
  obtain ⟨b, off, cap, cur, ty, fz, rfl, rfl, hA⟩ := ownAt_of hf ho' (by intro e; rw [e] at hj; simp at hj; omega)
  refine (hrun w x0 b off cap cur ty fz i j hA hij hj).mono ?_
  rintro r w' ⟨rfl, q, zs, hz, rfl⟩
  have hlen := fcs_length hf hA.wf
  have hd : (fcs t (x0.drop j)).length = (x0.length - j) * t.size := by rw [fcs_length hf (fun x hx => hA.wf x (List.mem_of_mem_drop hx)), List.length_drop]
  have hfit := hA.fit
  have hle : x0.length * t.size ≤ cap * t.size := Nat.mul_le_mul_right _ hA.len
  have e1 : i * t.size + (x0.length - j) * t.size = (x0.length - (j - i)) * t.size := by rw [← Nat.add_mul]; congr 1; omega
  have e2 : (x0.length - (j - i)) * t.size + (j - i) * t.size = x0.length * t.size := by rw [← Nat.add_mul]; congr 1; omega
  have hblk : (w.drewN q).heap[b]? = some (.cells cur ty fz) := hA.blk
  have l1 : off + i * t.size + (fcs t (x0.drop j)).length ≤ cur.size := by rw [hd]; omega
  obtain ⟨c1, g1, g2, g3, g4, g5, g6⟩ := setCells_block (fcs t (x0.drop j)) hblk l1
  have l2 : off + (x0.length - (j - i)) * t.size + zs.length ≤ c1.size := by rw [hz, g2]; omega
  obtain ⟨c2, k1, k2, k3, k4, k5, k6⟩ := setCells_block zs g1 l2
  have hkept : Kept [b] w (((w.drewN q).setCells b (off + i * t.size) (fcs t (x0.drop j))).setCells b (off + (x0.length - (j - i)) * t.size) zs) :=
    ((show Kept [b] w (w.drewN q) from ⟨rfl, rfl, rfl, Nat.le_refl _, fun _ _ _ => rfl⟩).trans (setCells_kept _ hblk l1)).trans (setCells_kept _ g1 l2)
  have hti : (fcs t (x0.take i)).length = i * t.size := by rw [fcs_length hf (fun x hx => hA.wf x (List.mem_of_mem_take hx)), List.length_take, Nat.min_eq_left (by omega)]
  have hres : OwnC (((w.drewN q).setCells b (off + i * t.size) (fcs t (x0.drop j))).setCells b (off + (x0.length - (j - i)) * t.size) zs) (.sl t) (x0.take i ++ x0.drop j) [.slice (some ⟨b, off, none⟩) (x0.length - (j - i)) cap] [b] := by
    refine own_flat_mk hf (cur := c2) (ty := ty) (fz := fz) (fun x hx => ?_) (by simp only [List.length_append, List.length_take, List.length_drop]; omega) (by have := hA.len; simp only [List.length_append, List.length_take, List.length_drop]; omega) hA.capm (by rw [k2, g2]; exact hA.fit) k1 (by rw [k2, g2]; exact hA.free) (fun n u hu => ?_)
    · rcases List.mem_append.1 hx with hx | hx
      · exact hA.wf x (List.mem_of_mem_take hx)
      · exact hA.wf x (List.mem_of_mem_drop hx)
    · rw [fcs_append] at hu
      have hun := (List.getElem?_eq_some_iff.1 hu).1
      rw [List.length_append, hti, hd] at hun
      rw [k4 (off + n) (.inl (by omega))]
      by_cases hni : n < i * t.size
      · rw [List.getElem?_append_left (by omega)] at hu
        rw [g4 (off + n) (.inl (by omega))]
        exact hA.has n u (fcs_take hf hA.wf i n u hu)
      · rw [List.getElem?_append_right (by omega), hti] at hu
        have := g3 _ u hu
        rwa [show off + i * t.size + (n - i * t.size) = off + n by omega] at this
  refine ⟨[_], [[]], [[b]], rfl, by simpa using hkept, ⟨_, _, _, _, _, rfl, rfl, hres, rfl, rfl, rfl⟩, ⟨_, _, _, rfl, rfl, rfl, rfl⟩, by simp, fun d hd hg => ?_⟩
  simp at hd
  subst hd
  exact hg.2 (by simp)

end Go.Am

/- The abstract machine, part 41: slices.Insert of one element: from its runs to its contract. -/
namespace Go.Am
set_option linter.unusedVariables false
set_option linter.unusedSimpArgs false
open Go.RowKit (Below)

def insertSpec (t : Ty) : Spec := { sig := [AT.own t, AT.v (.int .i64), AT.own t], pre := fun ⟨x0, x1, x2, _⟩ => 0 ≤ x1 ∧ x1 ≤ x0.length ∧ x2.length = 1 ∧ x0.length ≤ 1048576, upd := fun _ => [none, none], res := fun ⟨x0, x1, x2, _⟩ => [⟨.sl t, x0.take x1.toNat ++ (x2 ++ x0.drop x1.toNat)⟩] }

theorem insert_contract {P : Program} {f : FuncId} {t : Ty} {e : TypeId} (hf : t.flat = true)
    (hshift : ∀ (w : World) (xs ys : List t.den) (b off cap : Nat) (cur : Array Value) (ty : TypeId) (fz : Nat × Nat) (vb voff vcap : Nat) (vcur : Array Value) (vty : TypeId) (vfz : Nat × Nat) (i : Nat), OwnAt w t xs b off cap cur ty fz → OwnAt w t ys vb voff vcap vcur vty vfz → ys.length = 1 → vb ≠ b → i < xs.length → xs.length + 1 ≤ cap →
      Calls P f #[.slice (some ⟨b, off, none⟩) xs.length cap, .int .i64 i, .slice (some ⟨vb, voff, none⟩) 1 vcap] w fun r w' => r = .returned (.slice (some ⟨b, off, none⟩) (xs.length + 1) cap) ∧
        ∃ q, w' = ((w.drewN q).setCells b (off + (i + 1) * t.size) (fcs t (xs.drop i))).setCells b (off + i * t.size) (fcs t ys))
    (hgrow : ∀ (w : World) (xs ys : List t.den) (b off cap : Nat) (cur : Array Value) (ty : TypeId) (fz : Nat × Nat) (vb voff vcap : Nat) (vcur : Array Value) (vty : TypeId) (vfz : Nat × Nat) (i : Nat), OwnAt w t xs b off cap cur ty fz → OwnAt w t ys vb voff vcap vcur vty vfz → ys.length = 1 → vb ≠ b → i < xs.length → cap < xs.length + 1 → xs.length ≤ 1048576 →
      Calls P f #[.slice (some ⟨b, off, none⟩) xs.length cap, .int .i64 i, .slice (some ⟨vb, voff, none⟩) 1 vcap] w fun r w' => ∃ v', r = .returned v' ∧ w'.ownsRow w.heap.size e t.size v' (xs.length + 1) (fcs t (xs.take i ++ (ys ++ xs.drop i))) ∧ Below w.heap.size w w')
    (hend : ∀ (w : World) (xs ys : List t.den) (b off cap : Nat) (cur : Array Value) (ty : TypeId) (fz : Nat × Nat) (vb voff vcap : Nat) (vcur : Array Value) (vty : TypeId) (vfz : Nat × Nat), OwnAt w t xs b off cap cur ty fz → OwnAt w t ys vb voff vcap vcur vty vfz → ys.length = 1 → vb ≠ b → xs.length + 1 ≤ cap →
      Calls P f #[.slice (some ⟨b, off, none⟩) xs.length cap, .int .i64 xs.length, .slice (some ⟨vb, voff, none⟩) 1 vcap] w fun r w' => r = .returned (.slice (some ⟨b, off, none⟩) (xs.length + 1) cap) ∧
        ∃ q, w' = (w.drewN q).setCells b (off + xs.length * t.size) (fcs t ys))
    (hlast : ∀ (w : World) (xs ys : List t.den) (ad : Option Addr) (cap : Nat) (vb voff vcap : Nat) (vcur : Array Value) (vty : TypeId) (vfz : Nat × Nat), (∀ x ∈ xs, Wf t x) → xs.length ≤ cap → (ad = none → xs = []) → (∀ a, ad = some a → ∀ j u, (fcs t xs)[j]? = some u → w.cell? (a.add j) = some u) → OwnAt w t ys vb voff vcap vcur vty vfz → ys.length = 1 → cap < xs.length + 1 → xs.length ≤ 1048576 →
      Calls P f #[.slice ad xs.length cap, .int .i64 xs.length, .slice (some ⟨vb, voff, none⟩) 1 vcap] w fun r w' => ∃ v', r = .returned v' ∧ w'.ownsRow w.heap.size e t.size v' (xs.length + 1) (fcs t (xs ++ ys)) ∧ Below w.heap.size w w') :
    Contract P f (insertSpec t) := by
  rintro w ⟨z0, z1, z2, u⟩ vs bss hgo hp ⟨v, s, b0, bs0, rfl, rfl, ho, v1, s1, b1, bs1, rfl, rfl, ⟨rfl, rfl, _⟩, v2, s2, b2, bs2, rfl, rfl, ho2, rfl, rfl⟩ hn
  obtain ⟨x0, rfl⟩ : ∃ y : List t.den, y = z0 := ⟨z0, rfl⟩
  obtain ⟨x1, rfl⟩ : ∃ y : Int, y = z1 := ⟨z1, rfl⟩
  obtain ⟨x2, rfl⟩ : ∃ y : List t.den, y = z2 := ⟨z2, rfl⟩
  dsimp only
  obtain ⟨p0, p1, p2, p3⟩ : 0 ≤ x1 ∧ x1 ≤ x0.length ∧ x2.length = 1 ∧ x0.length ≤ 1048576 := hp
  obtain ⟨i, rfl⟩ : ∃ i : Nat, x1 = i := ⟨x1.toNat, by omega⟩
  have hi : i ≤ x0.length := by omega
  have ho' : OwnC w (.sl t) x0 [v] b0 := ho
  have ho2' : OwnC w (.sl t) x2 [v2] b2 := ho2
  obtain ⟨vb, voff, vcap, vcur, vty, vfz, rfl, rfl, hB⟩ := ownAt_of hf ho2' (by intro e; rw [e] at p2; simp at p2)
  rw [p2]
  have hwf2 := hB.wf
  -- a row of one's own
  have fresh : ∀ (ys : List t.den) (v' : Value) (w' : World), ys.length = x0.length + 1 → (∀ y ∈ ys, Wf t y) → w'.ownsRow w.heap.size e t.size v' (x0.length + 1) (fcs t ys) → Below w.heap.size w w' →
      ∃ rs ubs rbs, Ending.returned v' = .returned (packV rs) ∧ Kept [b0, [], [vb]].flatten w w' ∧ ResRep w' [⟨.sl t, ys⟩] rs rbs ∧ UpdRep w' [none, none] (ownVals [AT.own t, AT.v (.int .i64), AT.own t] [v, .int .i64 i, .slice (some ⟨vb, voff, none⟩) 1 vcap]) ubs ∧
        (ubs.flatten ++ rbs.flatten).Nodup ∧ ∀ d ∈ ubs.flatten ++ rbs.flatten, ¬ Am.Good w [b0, [], [vb]].flatten d := fun ys v' w' hl hw h1 h2 => by
    rw [← hl] at h1
    obtain ⟨bs, g1, g2, g3⟩ := own_of_row hf hw (by rw [hl]; unfold maxLen; omega) h1
    refine ⟨[v'], [[], []], [bs], rfl, (Kept.of_below h2).of_nil, ⟨_, _, _, _, _, rfl, rfl, g1, rfl, rfl, rfl⟩, ⟨_, _, _, rfl, rfl, _, _, _, rfl, rfl, rfl, rfl⟩, by simpa using g2, fun d hd hg => ?_⟩
    simp at hd
    have := g3 d hd
    have := hg.1
    omega
  -- what was there, written anew
  have wf3 : ∀ y ∈ x0.take i ++ (x2 ++ x0.drop i), Wf t y → True := fun _ _ _ => trivial
  obtain ⟨hw0, hm0, hcase⟩ := own_flat hf ho'
  have hws : ∀ y ∈ x0.take i ++ (x2 ++ x0.drop i), Wf t y := fun y hy => by
    rcases List.mem_append.1 hy with hy | hy
    · exact hw0 y (List.mem_of_mem_take hy)
    · rcases List.mem_append.1 hy with hy | hy
      · exact hwf2 y hy
      · exact hw0 y (List.mem_of_mem_drop hy)
  have hlens : (x0.take i ++ (x2 ++ x0.drop i)).length = x0.length + 1 := by
    simp only [List.length_append, List.length_take, List.length_drop, p2]
    omega
  rcases hcase with ⟨ad, rfl, rfl, rfl⟩ | ⟨b, off, cap, cur, ty, fz, rfl, h2, h3, h4, h5, h6, rfl, h8⟩
  · have hi0 : i = 0 := by simpa using hi
    subst hi0
    have := hlast w [] x2 ad 0 vb voff vcap vcur vty vfz (fun x h => by cases h) (Nat.le_refl _) (fun _ => rfl) (fun a _ j u hj => by simp [fcs] at hj) hB p2 (by simp) (by simp)
    refine this.mono ?_
    rintro r w' ⟨v', rfl, h1, h2⟩
    exact fresh _ v' w' hlens hws (by simpa using h1) h2
  · have hA : OwnAt w t x0 b off cap cur ty fz := ⟨hw0, h2, h3, h4, h5, h6, h8⟩
    have hvb : vb ≠ b := by
      simp only [List.flatten_cons, List.flatten_nil, List.append_nil, List.nil_append, List.cons_append, List.nodup_cons, List.mem_singleton] at hn
      exact fun e => hn.1 e.symm
    have place : ∀ (w' : World) (cur' : Array Value), Kept [b] w w' → w'.heap[b]? = some (.cells cur' ty fz) → cur'.size = cur.size → x0.length + 1 ≤ cap → (∀ j u, (fcs t (x0.take i ++ (x2 ++ x0.drop i)))[j]? = some u → cur'[off + j]? = some u) →
        ∃ rs ubs rbs, Ending.returned (.slice (some ⟨b, off, none⟩) (x0.length + 1) cap) = .returned (packV rs) ∧ Kept [[b], [], [vb]].flatten w w' ∧ ResRep w' [⟨.sl t, x0.take i ++ (x2 ++ x0.drop i)⟩] rs rbs ∧ UpdRep w' [none, none] (ownVals [AT.own t, AT.v (.int .i64), AT.own t] [.slice (some ⟨b, off, none⟩) x0.length cap, .int .i64 i, .slice (some ⟨vb, voff, none⟩) 1 vcap]) ubs ∧
          (ubs.flatten ++ rbs.flatten).Nodup ∧ ∀ d ∈ ubs.flatten ++ rbs.flatten, ¬ Am.Good w [[b], [], [vb]].flatten d := fun w' cur' hk hb hs hr hc => by
      have hres := own_flat_mk (w := w') hf hws (n := x0.length + 1) (b := b) (off := off) (cap := cap) (cur := cur') (ty := ty) (fz := fz) hlens.symm (by rw [hlens]; exact hr) h3 (by rw [hs]; exact h4) hb (by rw [hs]; exact h6) hc
      refine ⟨[_], [[], []], [[b]], rfl, hk.mono (fun k hk => by simp at hk; simp [hk]), ⟨_, _, _, _, _, rfl, rfl, hres, rfl, rfl, rfl⟩, ⟨_, _, _, rfl, rfl, _, _, _, rfl, rfl, rfl, rfl⟩, by simp, fun d hd hg => ?_⟩
      simp at hd
      subst hd
      exact hg.2 (by simp)
    have hdr : ∀ q, Kept [b] w (w.drewN q) := fun q => ⟨rfl, rfl, rfl, Nat.le_refl _, fun _ _ _ => rfl⟩
    have hlen2 : (fcs t x2).length = t.size := by rw [fcs_length hf hwf2, p2, Nat.one_mul]
    by_cases hroom : x0.length + 1 ≤ cap
    · have hle : (x0.length + 1) * t.size ≤ cap * t.size := Nat.mul_le_mul_right _ hroom
      rw [Nat.add_mul, Nat.one_mul] at hle
      by_cases hin : i = x0.length
      · subst hin
        refine (hend w x0 x2 b off cap cur ty fz vb voff vcap vcur vty vfz hA hB p2 hvb hroom).mono ?_
        rintro r w' ⟨rfl, q, rfl⟩
        have l1 : off + x0.length * t.size + (fcs t x2).length ≤ cur.size := by rw [hlen2]; omega
        obtain ⟨c1, g1, g2, g3, g4, g5, g6⟩ := setCells_block (fcs t x2) (show (w.drewN q).heap[b]? = some (.cells cur ty fz) from h5) l1
        refine place _ c1 ((hdr q).trans (setCells_kept _ h5 l1)) g1 g2 hroom (fun j u hu => ?_)
        rw [List.take_length, List.drop_length, List.append_nil, fcs_append] at hu
        have hl0 := fcs_length hf hw0
        by_cases hj : j < x0.length * t.size
        · rw [List.getElem?_append_left (by omega)] at hu
          rw [g4 _ (.inl (by omega))]
          exact h8 j u hu
        · rw [List.getElem?_append_right (by omega), hl0] at hu
          have := g3 _ u hu
          rwa [show off + x0.length * t.size + (j - x0.length * t.size) = off + j by omega] at this
      · have hlt : i < x0.length := by omega
        refine (hshift w x0 x2 b off cap cur ty fz vb voff vcap vcur vty vfz i hA hB p2 hvb hlt hroom).mono ?_
        rintro r w' ⟨rfl, q, rfl⟩
        have hd : (fcs t (x0.drop i)).length = (x0.length - i) * t.size := by rw [fcs_length hf (fun x hx => hw0 x (List.mem_of_mem_drop hx)), List.length_drop]
        have hti : (fcs t (x0.take i)).length = i * t.size := by rw [fcs_length hf (fun x hx => hw0 x (List.mem_of_mem_take hx)), List.length_take, Nat.min_eq_left (by omega)]
        have e1 : (i + 1) * t.size + (x0.length - i) * t.size = x0.length * t.size + t.size := by rw [← Nat.add_mul, ← Nat.succ_mul]; congr 1; omega
        have e2 : (i + 1) * t.size = i * t.size + t.size := Nat.succ_mul _ _
        have l1 : off + (i + 1) * t.size + (fcs t (x0.drop i)).length ≤ cur.size := by rw [hd]; omega
        obtain ⟨c1, g1, g2, g3, g4, g5, g6⟩ := setCells_block (fcs t (x0.drop i)) (show (w.drewN q).heap[b]? = some (.cells cur ty fz) from h5) l1
        have l2 : off + i * t.size + (fcs t x2).length ≤ c1.size := by rw [hlen2, g2]; omega
        obtain ⟨c2, k1, k2, k3, k4, k5, k6⟩ := setCells_block (fcs t x2) g1 l2
        refine place _ c2 (((hdr q).trans (setCells_kept _ h5 l1)).trans (setCells_kept _ g1 l2)) k1 (by rw [k2, g2]) hroom (fun j u hu => ?_)
        rw [fcs_append, fcs_append] at hu
        by_cases hj : j < i * t.size
        · rw [List.getElem?_append_left (by omega)] at hu
          rw [k4 _ (.inl (by omega)), g4 _ (.inl (by omega))]
          exact h8 j u (fcs_take hf hw0 i j u hu)
        · rw [List.getElem?_append_right (by omega), hti] at hu
          by_cases hj2 : j < i * t.size + t.size
          · rw [List.getElem?_append_left (by omega)] at hu
            have := k3 _ u hu
            rwa [show off + i * t.size + (j - i * t.size) = off + j by omega] at this
          · rw [List.getElem?_append_right (by omega), hlen2] at hu
            rw [k4 _ (.inr (by rw [hlen2]; omega))]
            have := g3 _ u hu
            rwa [show off + (i + 1) * t.size + (j - i * t.size - t.size) = off + j by omega] at this
    · by_cases hin : i = x0.length
      · subst hin
        have := hlast w x0 x2 (some ⟨b, off, none⟩) cap vb voff vcap vcur vty vfz hw0 h2 (fun h => by cases h) (fun a ha j u hj => by cases ha; rw [Addr.add_lit]; exact hA.cell j u hj) hB p2 (by omega) p3
        refine this.mono ?_
        rintro r w' ⟨v', rfl, h1, h2⟩
        exact fresh _ v' w' hlens hws (by rw [Int.toNat_natCast, List.take_length, List.drop_length, List.append_nil]; exact h1) h2
      · have hlt : i < x0.length := by omega
        refine (hgrow w x0 x2 b off cap cur ty fz vb voff vcap vcur vty vfz i hA hB p2 hvb hlt (by omega) p3).mono ?_
        rintro r w' ⟨v', rfl, h1, h2⟩
        exact fresh _ v' w' hlens hws h1 h2

end Go.Am

/- The abstract machine, part 43: counts in a list. -/
namespace Go.Am
set_option linter.unusedVariables false

/-- A kind is counted. -/
def bump1 (h : List Int) (k : Int) : List Int := h.set k.toNat (h.getD k.toNat 0 + 1)
theorem bump1_length (h : List Int) (k : Int) : (bump1 h k).length = h.length := by simp [bump1]
theorem bump1_all {h : List Int} {n : Nat} (hc : ∀ c ∈ h, 0 ≤ c ∧ c ≤ n) (k : Int) : ∀ c ∈ bump1 h k, 0 ≤ c ∧ c ≤ ((n + 1 : Nat) : Int) := by
  intro c hm
  rcases List.mem_or_eq_of_mem_set hm with hm | hm
  · have := hc c hm; omega
  · by_cases hlt : k.toNat < h.length
    · have := hc _ (mem_getD h k.toNat 0 hlt); omega
    · rw [List.getD_eq_getElem?_getD, List.getElem?_eq_none (by omega)] at hm
      simp only [Option.getD_none] at hm
      omega
theorem getD_all {h : List Int} {n : Int} (hn : 0 ≤ n) (hc : ∀ c ∈ h, 0 ≤ c ∧ c ≤ n) (k : Nat) : 0 ≤ h.getD k 0 ∧ h.getD k 0 ≤ n := by
  by_cases hlt : k < h.length
  · exact hc _ (mem_getD h k 0 hlt)
  · rw [List.getD_eq_getElem?_getD, List.getElem?_eq_none (by omega)]
    exact ⟨Int.le_refl _, hn⟩


end Go.Am

/- The types of this program, as the abstract machine reads them. -/
set_option linter.unusedVariables false
set_option linter.unusedSimpArgs false
set_option maxRecDepth 100000
namespace Go.Proofs.Ytgbmdngcpcgaeaa
open Go Go.Am Go.Proofs
def tab : List TI := [TI.other,
  TI.other,
  TI.scal (Ty.int IntKind.i64),
  TI.scal (Ty.int IntKind.i64),
  TI.scal (Ty.bool),
  TI.scal (Ty.int IntKind.u8),
  TI.scal (Ty.int IntKind.u8),
  TI.struct (Ty.cons (Ty.int IntKind.i64) (Ty.cons (Ty.int IntKind.i64) (Ty.cons Ty.bool (Ty.cons (Ty.int IntKind.u8) Ty.unit)))),
  TI.struct (Ty.cons (Ty.int IntKind.i64) (Ty.cons (Ty.int IntKind.i64) (Ty.cons Ty.bool (Ty.cons (Ty.int IntKind.u8) Ty.unit)))),
  TI.scal (Ty.str),
  TI.scal (Ty.str),
  TI.scal (Ty.str),
  TI.scal (Ty.int IntKind.u64),
  TI.other,
  TI.other,
  TI.other,
  TI.other,
  TI.other,
  TI.other,
  TI.other,
  TI.other,
  TI.scal (Ty.int IntKind.i32),
  TI.slice 35 (Ty.cons (Ty.int IntKind.i64) (Ty.cons Ty.str (Ty.cons Ty.str Ty.unit))) 40,
  TI.other,
  TI.slice 2 (Ty.int IntKind.i64) 8,
  TI.other,
  TI.slice 37 (Ty.cons (Ty.int IntKind.i64) (Ty.cons Ty.str (Ty.cons Ty.str Ty.unit))) 40,
  TI.other,
  TI.other,
  TI.other,
  TI.other,
  TI.other,
  TI.other,
  TI.other,
  TI.struct (Ty.cons (Ty.int IntKind.i64) (Ty.cons Ty.str (Ty.cons Ty.str Ty.unit))),
  TI.struct (Ty.cons (Ty.int IntKind.i64) (Ty.cons Ty.str (Ty.cons Ty.str Ty.unit))),
  TI.other,
  TI.struct (Ty.cons (Ty.int IntKind.i64) (Ty.cons Ty.str (Ty.cons Ty.str Ty.unit))),
  TI.other,
  TI.other,
  TI.other,
  TI.other,
  TI.other,
  TI.other,
  TI.other,
  TI.other,
  TI.other,
  TI.slice 5 (Ty.int IntKind.u8) 1,
  TI.other,
  TI.other,
  TI.other,
  TI.other,
  TI.other,
  TI.other,
  TI.other,
  TI.scal (Ty.int IntKind.u32),
  TI.scal (Ty.int IntKind.u8),
  TI.scal (Ty.int IntKind.u8),
  TI.other,
  TI.other,
  TI.scal (Ty.int IntKind.i32),
  TI.scal (Ty.int IntKind.i32)]

theorem tabOk : TabOk Try.prog tab := tabOk_of_check (by kernel_rfl)
theorem mixed : Try.prog.follows .mixedOrders = true := by kernel_rfl
theorem ginv (W : World) (h : W.ShapedOpen Try.prog)  : GInv W := trivial
end Go.Proofs.Ytgbmdngcpcgaeaa

/- Function 13 (laws.szProblem): its runs between cut points. Written by a program of this repo (gen). -/
set_option linter.unusedVariables false
set_option linter.unusedSimpArgs false
set_option maxRecDepth 100000
namespace Go.Proofs.Ytgbmdngcpcgaeaa
open Go Go.Am Go.Proofs
def ext13 : Ext := []
theorem ext13Ok : ExtOk Try.prog ext13 := trivial
/-! Function 13. -/
noncomputable def b13 : Code := bodyOf Try.f13
theorem hb13 : Try.f13.body = some b13 := by kernel_rfl
def sig13 : List AT := [AT.v (Ty.cons (Ty.int IntKind.i64) (Ty.cons Ty.str (Ty.cons Ty.str Ty.unit))), AT.v (Ty.int IntKind.i64)]
def tys13 : List Ty := [Ty.int IntKind.i64]
def P13 (x0 : Int × ByteArray × ByteArray × Unit) (x1 : Int) : Prop := ((InR IntKind.i64 (x1 - (↑(ByteArray.size (Prod.fst (Prod.snd x0))) : Int))) ∧ (if (Decidable.decide (x1 - (↑(ByteArray.size (Prod.fst (Prod.snd x0))) : Int) < 0)) = true then True else ((InR IntKind.i64 (x1 - (↑(ByteArray.size (Prod.fst (Prod.snd x0))) : Int) - (↑(ByteArray.size (Prod.fst (Prod.snd (Prod.snd x0)))) : Int))) ∧ True)))
def g13_0 (x0 : Int × ByteArray × ByteArray × Unit) (x1 : Int) : Int := (if (Decidable.decide (x1 - (↑(ByteArray.size (Prod.fst (Prod.snd x0))) : Int) < 0)) = true then -1 else (if (Decidable.decide (x1 - (↑(ByteArray.size (Prod.fst (Prod.snd x0))) : Int) - (↑(ByteArray.size (Prod.fst (Prod.snd (Prod.snd x0)))) : Int) < 0)) = true then -1 else x1 - (↑(ByteArray.size (Prod.fst (Prod.snd x0))) : Int) - (↑(ByteArray.size (Prod.fst (Prod.snd (Prod.snd x0)))) : Int)))
theorem p13_0 (x0 : Int × ByteArray × ByteArray × Unit) (x1 : Int) : runF tab ext13 false 20 [] 2000 [] tys13 Try.f13.results [true] [.code b13] (entE 0 0 sig13 (x0, x1, ())) (entL sig13 (x0, x1, ())) = some ([Dyn.mk (Ty.int IntKind.i64) (-1)], [], [InR IntKind.i64 (x1 - (↑(ByteArray.size (Prod.fst (Prod.snd x0))) : Int)), Decidable.decide (x1 - (↑(ByteArray.size (Prod.fst (Prod.snd x0))) : Int) < 0) = Bool.true]) := by kernel_rfl
theorem p13_1 (x0 : Int × ByteArray × ByteArray × Unit) (x1 : Int) : runF tab ext13 false 20 [] 2000 [] tys13 Try.f13.results [false, true] [.code b13] (entE 0 0 sig13 (x0, x1, ())) (entL sig13 (x0, x1, ())) = some ([Dyn.mk (Ty.int IntKind.i64) (-1)], [], [InR IntKind.i64 (x1 - (↑(ByteArray.size (Prod.fst (Prod.snd x0))) : Int)), Decidable.decide (x1 - (↑(ByteArray.size (Prod.fst (Prod.snd x0))) : Int) < 0) = Bool.false, InR IntKind.i64 (x1 - (↑(ByteArray.size (Prod.fst (Prod.snd x0))) : Int) - (↑(ByteArray.size (Prod.fst (Prod.snd (Prod.snd x0)))) : Int)), Decidable.decide (x1 - (↑(ByteArray.size (Prod.fst (Prod.snd x0))) : Int) - (↑(ByteArray.size (Prod.fst (Prod.snd (Prod.snd x0)))) : Int) < 0) = Bool.true]) := by kernel_rfl
theorem p13_2 (x0 : Int × ByteArray × ByteArray × Unit) (x1 : Int) : runF tab ext13 false 20 [] 2000 [] tys13 Try.f13.results [false, false] [.code b13] (entE 0 0 sig13 (x0, x1, ())) (entL sig13 (x0, x1, ())) = some ([Dyn.mk (Ty.int IntKind.i64) (x1 - (↑(ByteArray.size (Prod.fst (Prod.snd x0))) : Int) - (↑(ByteArray.size (Prod.fst (Prod.snd (Prod.snd x0)))) : Int))], [], [InR IntKind.i64 (x1 - (↑(ByteArray.size (Prod.fst (Prod.snd x0))) : Int)), Decidable.decide (x1 - (↑(ByteArray.size (Prod.fst (Prod.snd x0))) : Int) < 0) = Bool.false, InR IntKind.i64 (x1 - (↑(ByteArray.size (Prod.fst (Prod.snd x0))) : Int) - (↑(ByteArray.size (Prod.fst (Prod.snd (Prod.snd x0)))) : Int)), Decidable.decide (x1 - (↑(ByteArray.size (Prod.fst (Prod.snd x0))) : Int) - (↑(ByteArray.size (Prod.fst (Prod.snd (Prod.snd x0)))) : Int) < 0) = Bool.false]) := by kernel_rfl
theorem at13 (x0 : Int × ByteArray × ByteArray × Unit) (x1 : Int) (h : P13 x0 x1) (w0 : World) (O : List Nat) (q : Nat → Value) : AtV Try.prog 13 (PostR [⟨Ty.int IntKind.i64, g13_0 x0 x1⟩] [] [] q w0 O) 20 w0 O q [] [.code b13] (entE 0 0 sig13 (x0, x1, ())) (entL sig13 (x0, x1, ())) := by
  unfold P13 at h
  unfold g13_0
  obtain ⟨s0, h⟩ := h
  by_cases b0 : (Decidable.decide (x1 - (↑(ByteArray.size (Prod.fst (Prod.snd x0))) : Int) < 0)) = true
  · try simp only [if_pos b0] at h ⊢
    exact AtV.fin Try.func13 tabOk ext13Ok mixed (p13_0 x0 x1) ⟨s0, b0, trivial⟩
  · try simp only [if_neg b0] at h ⊢
    replace b0 := Bool.eq_false_iff.2 b0
    obtain ⟨s1, h⟩ := h
    by_cases b1 : (Decidable.decide (x1 - (↑(ByteArray.size (Prod.fst (Prod.snd x0))) : Int) - (↑(ByteArray.size (Prod.fst (Prod.snd (Prod.snd x0)))) : Int) < 0)) = true
    · try simp only [if_pos b1] at h ⊢
      exact AtV.fin Try.func13 tabOk ext13Ok mixed (p13_1 x0 x1) ⟨s0, b0, s1, b1, trivial⟩
    · try simp only [if_neg b1] at h ⊢
      replace b1 := Bool.eq_false_iff.2 b1
      exact AtV.fin Try.func13 tabOk ext13Ok mixed (p13_2 x0 x1) ⟨s0, b0, s1, b1, trivial⟩

def S13 : Am.Spec := { sig := sig13, pre := fun ⟨x0, x1, _⟩ => P13 x0 x1, res := fun ⟨x0, x1, _⟩ => [⟨Ty.int IntKind.i64, g13_0 x0 x1⟩] }
theorem con13 : Contract Try.prog 13 S13 := contract_of Try.func13 hb13 (Nat.le_of_ble_eq_true (by kernel_rfl)) (fun ⟨x0, x1, _⟩ h _ w0 O q => at13 x0 x1 h w0 O q)


theorem sz13 (x0 : (Int × ByteArray × ByteArray × Unit)) (x1 : Int) (h : 0 ≤ x1) (hi : InR .i64 x1) (hw : Wf (.cons (.int .i64) (.cons .str (.cons .str .unit))) x0) :
    P13 x0 x1 ∧ -1 ≤ g13_0 x0 x1 ∧ g13_0 x0 x1 ≤ x1 := by
  have h1 : x0.2.1.size ≤ 9223372036854775807 := hw.2.1
  have h2 : x0.2.2.1.size ≤ 9223372036854775807 := hw.2.2.1
  rw [i64_iff] at hi
  unfold P13 g13_0
  simp only [decide_eq_true_eq, i64_iff]
  repeat' (first | apply And.intro | split)
  all_goals first | trivial | omega

end Go.Proofs.Ytgbmdngcpcgaeaa

/- Function 4 (laws.szProblemS): its runs between cut points. Written by a program of this repo (gen). -/
set_option linter.unusedVariables false
set_option linter.unusedSimpArgs false
set_option maxRecDepth 100000
namespace Go.Proofs.Ytgbmdngcpcgaeaa
open Go Go.Am Go.Proofs
def ext4 : Ext := [(13, S13)]
theorem call4_13 : Callable Try.prog 13 := ⟨Try.f13, Try.func13, by kernel_rfl, by kernel_rfl⟩
theorem ext4Ok : ExtOk Try.prog ext4 := ⟨⟨call4_13, con13⟩, trivial⟩
/-! Function 4. -/
noncomputable def b4 : Code := bodyOf Try.f4
theorem hb4 : Try.f4.body = some b4 := by kernel_rfl
def sig4 : List AT := [AT.v (Ty.sl (Ty.cons (Ty.int IntKind.i64) (Ty.cons Ty.str (Ty.cons Ty.str Ty.unit)))), AT.v (Ty.int IntKind.i64)]
def tys4 : List Ty := [Ty.int IntKind.i64]
def E4_5 (v1 : Int) (v5 : Int) (x0 : List (Int × ByteArray × ByteArray × Unit)) : Env := [(0, PV.a (Atom.sl (Ty.cons (Ty.int IntKind.i64) (Ty.cons Ty.str (Ty.cons Ty.str Ty.unit))) x0)), (1, PV.a (Atom.val (Value.int IntKind.i64 v1))), (5, PV.a (Atom.val (Value.int IntKind.i64 v5)))]
def L4_5 (v1 : Int) (v5 : Int) (x0 : List (Int × ByteArray × ByteArray × Unit)) : Heap := []
mutual
def R4 : Nat → List (Int × ByteArray × ByteArray × Unit) → Int → List Dyn → Prop
  | 0, _, _, _ => False
  | n + 1, x0, x1, ds => ((InR IntKind.i64 (x1 - (↑(List.length x0) : Int))) ∧ (if (Decidable.decide (x1 - (↑(List.length x0) : Int) < 0)) = true then (ds = [Dyn.mk (Ty.int IntKind.i64) (-1)]) else (R4_5 n (x1 - (↑(List.length x0) : Int)) (0) (x0) ds)))
def R4_5 : Nat → Int → Int → List (Int × ByteArray × ByteArray × Unit) → List Dyn → Prop
  | 0, _, _, _, _ => False
  | n + 1, v1, v5, x0, ds => (if (Decidable.decide (v5 < (↑(List.length x0) : Int))) = true then ((0 ≤ v5) ∧ (v5 < (↑(List.length x0) : Int)) ∧ ((P13 (List.getD x0 (Int.toNat v5) (0, ByteArray.empty, ByteArray.empty, ())) v1) ∧ (if (Decidable.decide (g13_0 (List.getD x0 (Int.toNat v5) (0, ByteArray.empty, ByteArray.empty, ())) v1 < 0)) = true then (ds = [Dyn.mk (Ty.int IntKind.i64) (-1)]) else ((InR IntKind.i64 (v5 + 1)) ∧ (R4_5 n (g13_0 (List.getD x0 (Int.toNat v5) (0, ByteArray.empty, ByteArray.empty, ())) v1) (v5 + 1) (x0) ds))))) else (ds = [Dyn.mk (Ty.int IntKind.i64) v1]))
end
theorem p4_0 (x0 : List (Int × ByteArray × ByteArray × Unit)) (x1 : Int) : runF tab ext4 false 27 [] 2000 [] tys4 Try.f4.results [true] [.code b4] (entE 0 0 sig4 (x0, x1, ())) (entL sig4 (x0, x1, ())) = some ([Dyn.mk (Ty.int IntKind.i64) (-1)], [], [InR IntKind.i64 (x1 - (↑(List.length x0) : Int)), Decidable.decide (x1 - (↑(List.length x0) : Int) < 0) = Bool.true]) := by kernel_rfl
theorem p4_1 (x0 : List (Int × ByteArray × ByteArray × Unit)) (x1 : Int) : Am.runN tab ext4 false 27 [] 2000 [] [] [0, 1, 5] [] [false] [.code b4] (entE 0 0 sig4 (x0, x1, ())) (entL sig4 (x0, x1, ())) = some (cutAt b4 5, E4_5 (x1 - (↑(List.length x0) : Int)) (0) (x0), L4_5 (x1 - (↑(List.length x0) : Int)) (0) (x0), [InR IntKind.i64 (x1 - (↑(List.length x0) : Int)), Decidable.decide (x1 - (↑(List.length x0) : Int) < 0) = Bool.false]) := by kernel_rfl
theorem p4_2 (v1 : Int) (v5 : Int) (x0 : List (Int × ByteArray × ByteArray × Unit)) : runF tab ext4 false 27 [] 2000 [] tys4 Try.f4.results [true, true] (cutAt b4 5) (E4_5 v1 v5 x0) (L4_5 v1 v5 x0) = some ([Dyn.mk (Ty.int IntKind.i64) (-1)], [], [Decidable.decide (v5 < (↑(List.length x0) : Int)) = Bool.true, 0 ≤ v5, v5 < (↑(List.length x0) : Int), P13 (List.getD x0 (Int.toNat v5) (0, ByteArray.empty, ByteArray.empty, ())) v1, Decidable.decide (g13_0 (List.getD x0 (Int.toNat v5) (0, ByteArray.empty, ByteArray.empty, ())) v1 < 0) = Bool.true]) := by kernel_rfl
theorem p4_3 (v1 : Int) (v5 : Int) (x0 : List (Int × ByteArray × ByteArray × Unit)) : Am.runN tab ext4 false 27 [] 2000 [] [] [0, 1, 5] [] [true, false] (cutAt b4 5) (E4_5 v1 v5 x0) (L4_5 v1 v5 x0) = some (cutAt b4 5, E4_5 (g13_0 (List.getD x0 (Int.toNat v5) (0, ByteArray.empty, ByteArray.empty, ())) v1) (v5 + 1) (x0), L4_5 (g13_0 (List.getD x0 (Int.toNat v5) (0, ByteArray.empty, ByteArray.empty, ())) v1) (v5 + 1) (x0), [Decidable.decide (v5 < (↑(List.length x0) : Int)) = Bool.true, 0 ≤ v5, v5 < (↑(List.length x0) : Int), P13 (List.getD x0 (Int.toNat v5) (0, ByteArray.empty, ByteArray.empty, ())) v1, Decidable.decide (g13_0 (List.getD x0 (Int.toNat v5) (0, ByteArray.empty, ByteArray.empty, ())) v1 < 0) = Bool.false, InR IntKind.i64 (v5 + 1)]) := by kernel_rfl
theorem p4_4 (v1 : Int) (v5 : Int) (x0 : List (Int × ByteArray × ByteArray × Unit)) : runF tab ext4 false 27 [] 2000 [] tys4 Try.f4.results [false] (cutAt b4 5) (E4_5 v1 v5 x0) (L4_5 v1 v5 x0) = some ([Dyn.mk (Ty.int IntKind.i64) v1], [], [Decidable.decide (v5 < (↑(List.length x0) : Int)) = Bool.false]) := by kernel_rfl
theorem snd4 : ∀ n, (∀ (x0 : List (Int × ByteArray × ByteArray × Unit)) (x1 : Int) ds, R4 n x0 x1 ds → ∀ w0 O q, AtV Try.prog 4 (PostR ds [] [] q w0 O) 27 w0 O q [] [.code b4] (entE 0 0 sig4 (x0, x1, ())) (entL sig4 (x0, x1, ()))) ∧ (∀ (v1 : Int) (v5 : Int) (x0 : List (Int × ByteArray × ByteArray × Unit)) ds, R4_5 n v1 v5 x0 ds → ∀ w0 O q, AtV Try.prog 4 (PostR ds [] [] q w0 O) 27 w0 O q [] (cutAt b4 5) (E4_5 v1 v5 x0) (L4_5 v1 v5 x0)) := by
  intro n
  induction n with
  | zero => exact ⟨fun _ _ _ h => by simp only [R4] at h, fun _ _ _ _ h => by simp only [R4_5] at h⟩
  | succ n ih =>
  obtain ⟨ih, ih5⟩ := ih
  refine ⟨?_, ?_⟩
  · intro x0 x1 ds h w0 O q
    rw [R4] at h
    obtain ⟨s0, h⟩ := h
    by_cases b0 : (Decidable.decide (x1 - (↑(List.length x0) : Int) < 0)) = true
    · rw [if_pos b0] at h
      subst h
      exact AtV.fin Try.func4 tabOk ext4Ok mixed (p4_0 x0 x1) ⟨s0, b0, trivial⟩
    · rw [if_neg b0] at h
      replace b0 := Bool.eq_false_iff.2 b0
      exact AtV.runN tabOk ext4Ok mixed (p4_1 x0 x1) ⟨s0, b0, trivial⟩ (ih5 _ _ _ _ h w0 O q)

  · intro v1 v5 x0 ds h w0 O q
    rw [R4_5] at h
    by_cases b0 : (Decidable.decide (v5 < (↑(List.length x0) : Int))) = true
    · rw [if_pos b0] at h
      obtain ⟨s0, s1, h⟩ := h
      obtain ⟨s2, h⟩ := h
      by_cases b1 : (Decidable.decide (g13_0 (List.getD x0 (Int.toNat v5) (0, ByteArray.empty, ByteArray.empty, ())) v1 < 0)) = true
      · rw [if_pos b1] at h
        subst h
        exact AtV.fin Try.func4 tabOk ext4Ok mixed (p4_2 v1 v5 x0) ⟨b0, s0, s1, s2, b1, trivial⟩
      · rw [if_neg b1] at h
        replace b1 := Bool.eq_false_iff.2 b1
        obtain ⟨s3, h⟩ := h
        exact AtV.runN tabOk ext4Ok mixed (p4_3 v1 v5 x0) ⟨b0, s0, s1, s2, b1, s3, trivial⟩ (ih5 _ _ _ _ h w0 O q)
    · rw [if_neg b0] at h
      replace b0 := Bool.eq_false_iff.2 b0
      subst h
      exact AtV.fin Try.func4 tabOk ext4Ok mixed (p4_4 v1 v5 x0) ⟨b0, trivial⟩



def szL4 : List (Int × ByteArray × ByteArray × Unit) → Int → Int
  | [], l => l
  | x :: r, l => if g13_0 x l < 0 then -1 else szL4 r (g13_0 x l)

theorem szL4_ok : ∀ (x0 : List (Int × ByteArray × ByteArray × Unit)) (l : Int), 0 ≤ l → InR .i64 l → (∀ x ∈ x0, Wf (.cons (.int .i64) (.cons .str (.cons .str .unit))) x) → szL4 x0 l ≤ l
  | [], l, _, _, _ => Int.le_refl _
  | x :: r, l, h, hi, hw => by
    obtain ⟨_, h2, h3⟩ := sz13 x l h hi (hw x (List.mem_cons_self ..))
    simp only [szL4]
    rw [i64_iff] at hi
    split
    · omega
    · have := szL4_ok r (g13_0 x l) (by omega) (by rw [i64_iff]; omega) (fun y hy => hw y (List.mem_cons_of_mem _ hy))
      omega

theorem run4 (x0 : List (Int × ByteArray × ByteArray × Unit)) (hm : x0.length ≤ maxLen) (hw : ∀ x ∈ x0, Wf (.cons (.int .i64) (.cons .str (.cons .str .unit))) x) : ∀ (k i : Nat) (l : Int), i + k = x0.length → 0 ≤ l → InR .i64 l →
    R4_5 (k + 1) l (i : Int) x0 [⟨.int .i64, szL4 (x0.drop i) l⟩] := by
  intro k
  induction k with
  | zero =>
    intro i l hi _ _
    rw [R4_5, if_neg (by simp; omega), drop_end x0 i (by omega)]
    rfl
  | succ k ih =>
    intro i l hi h0 hl
    rw [R4_5, if_pos (by simp; omega)]
    simp only [Int.toNat_natCast]
    have hmem : x0.getD i ((0 : Int), ByteArray.empty, ByteArray.empty, ()) ∈ x0 := by rw [getD_lt _ _ _ (by omega)]; exact List.getElem_mem _
    obtain ⟨h1, h2, h3⟩ := sz13 _ l h0 hl (hw _ hmem)
    refine ⟨by omega, by omega, h1, ?_⟩
    rw [drop_get x0 i ((0 : Int), ByteArray.empty, ByteArray.empty, ()) (by omega)]
    simp only [szL4]
    have hl' := hl
    rw [i64_iff] at hl'
    by_cases hn : g13_0 (x0.getD i ((0 : Int), ByteArray.empty, ByteArray.empty, ())) l < 0
    · rw [if_pos (by simpa using hn), if_pos hn]
    · rw [if_neg (by simpa using hn), if_neg hn]
      exact ⟨inR_up hm (by omega), ih (i + 1) _ (by omega) (by omega) (by rw [i64_iff]; omega)⟩

def g4_0 (x0 : List (Int × ByteArray × ByteArray × Unit)) (x1 : Int) : Int := if x1 - x0.length < 0 then -1 else szL4 x0 (x1 - x0.length)
def P4 (x0 : List (Int × ByteArray × ByteArray × Unit)) (x1 : Int) : Prop := 0 ≤ x1

theorem g4_le (x0 : List (Int × ByteArray × ByteArray × Unit)) (x1 : Int) (h : 0 ≤ x1) (hi : InR .i64 x1) (hw : Wf (.sl (.cons (.int .i64) (.cons .str (.cons .str .unit)))) x0) (hg : ¬ g4_0 x0 x1 < 0) : g4_0 x0 x1 ≤ x1 - x0.length := by
  unfold g4_0 at hg ⊢
  rw [i64_iff] at hi
  split
  · rename_i h1
    rw [if_pos h1] at hg
    omega
  · exact szL4_ok x0 _ (by omega) (by rw [i64_iff]; omega) hw.2

theorem top4 (x0 : List (Int × ByteArray × ByteArray × Unit)) (x1 : Int) (hw : Wf (.sl (.cons (.int .i64) (.cons .str (.cons .str .unit)))) x0) (hi : InR .i64 x1) (h : 0 ≤ x1) : R4 (x0.length + 1 + 1) x0 x1 [⟨Ty.int .i64, g4_0 x0 x1⟩] := by
  have hm : x0.length ≤ maxLen := hw.1
  have hm' : x0.length ≤ 9223372036854775807 := hm
  rw [i64_iff] at hi
  rw [R4]
  refine ⟨by rw [i64_iff]; omega, ?_⟩
  unfold g4_0
  by_cases hn : x1 - (x0.length : Int) < 0
  · rw [if_pos (by simpa using hn), if_pos hn]
  · rw [if_neg (by simpa using hn), if_neg hn]
    have := run4 x0 hm hw.2 x0.length 0 (x1 - x0.length) (by omega) (by omega) (by rw [i64_iff]; omega)
    simpa using this

def S4 : Am.Spec := { sig := sig4, pre := fun ⟨x0, x1, _⟩ => P4 x0 x1, res := fun ⟨x0, x1, _⟩ => [⟨Ty.int .i64, g4_0 x0 x1⟩] }
theorem con4 : Contract Try.prog 4 S4 := contract_of Try.func4 hb4 (Nat.le_of_ble_eq_true (by kernel_rfl)) (fun ⟨x0, x1, _⟩ h hwf w0 O q =>
  (snd4 _).1 x0 x1 _ (top4 x0 x1 hwf.1 hwf.2.1 h) w0 O q)

end Go.Proofs.Ytgbmdngcpcgaeaa

/- Function 15 (laws.toProblem): its runs between cut points. Written by a program of this repo (gen). -/
set_option linter.unusedVariables false
set_option linter.unusedSimpArgs false
set_option maxRecDepth 100000
namespace Go.Proofs.Ytgbmdngcpcgaeaa
open Go Go.Am Go.Proofs
def ext15 : Ext := []
theorem ext15Ok : ExtOk Try.prog ext15 := trivial
/-! Function 15. -/
noncomputable def b15 : Code := bodyOf Try.f15
theorem hb15 : Try.f15.body = some b15 := by kernel_rfl
def sig15 : List AT := [AT.v (Ty.cons (Ty.int IntKind.i64) (Ty.cons Ty.str (Ty.cons Ty.str Ty.unit)))]
def tys15 : List Ty := [Ty.cons (Ty.int IntKind.i64) (Ty.cons Ty.str (Ty.cons Ty.str Ty.unit))]
def P15 (x0 : Int × ByteArray × ByteArray × Unit) : Prop := True
def g15_0 (x0 : Int × ByteArray × ByteArray × Unit) : Int × ByteArray × ByteArray × Unit := (Prod.fst x0, Prod.fst (Prod.snd x0), Prod.fst (Prod.snd (Prod.snd x0)), ())
theorem p15_0 (x0 : Int × ByteArray × ByteArray × Unit) : runF tab ext15 false 14 [] 2000 [] tys15 Try.f15.results [] [.code b15] (entE 0 0 sig15 (x0, ())) (entL sig15 (x0, ())) = some ([Dyn.mk (Ty.cons (Ty.int IntKind.i64) (Ty.cons Ty.str (Ty.cons Ty.str Ty.unit))) (Prod.fst x0, Prod.fst (Prod.snd x0), Prod.fst (Prod.snd (Prod.snd x0)), ())], [], []) := by kernel_rfl
theorem at15 (x0 : Int × ByteArray × ByteArray × Unit) (h : P15 x0) (w0 : World) (O : List Nat) (q : Nat → Value) : AtV Try.prog 15 (PostR [⟨Ty.cons (Ty.int IntKind.i64) (Ty.cons Ty.str (Ty.cons Ty.str Ty.unit)), g15_0 x0⟩] [] [] q w0 O) 14 w0 O q [] [.code b15] (entE 0 0 sig15 (x0, ())) (entL sig15 (x0, ())) := by
  unfold P15 at h
  unfold g15_0
  exact AtV.fin Try.func15 tabOk ext15Ok mixed (p15_0 x0) trivial

def S15 : Am.Spec := { sig := sig15, pre := fun ⟨x0, _⟩ => P15 x0, res := fun ⟨x0, _⟩ => [⟨Ty.cons (Ty.int IntKind.i64) (Ty.cons Ty.str (Ty.cons Ty.str Ty.unit)), g15_0 x0⟩] }
theorem con15 : Contract Try.prog 15 S15 := contract_of Try.func15 hb15 (Nat.le_of_ble_eq_true (by kernel_rfl)) (fun ⟨x0, _⟩ h _ w0 O q => at15 x0 h w0 O q)


end Go.Proofs.Ytgbmdngcpcgaeaa

/- Function 6 (laws.toProblemS): its runs between cut points. Written by a program of this repo (gen). -/
set_option linter.unusedVariables false
set_option linter.unusedSimpArgs false
set_option maxRecDepth 100000
namespace Go.Proofs.Ytgbmdngcpcgaeaa
open Go Go.Am Go.Proofs
def ext6 : Ext := [(15, S15)]
theorem call6_15 : Callable Try.prog 15 := ⟨Try.f15, Try.func15, by kernel_rfl, by kernel_rfl⟩
theorem ext6Ok : ExtOk Try.prog ext6 := ⟨⟨call6_15, con15⟩, trivial⟩
/-! Function 6. -/
noncomputable def b6 : Code := bodyOf Try.f6
theorem hb6 : Try.f6.body = some b6 := by kernel_rfl
def sig6 : List AT := [AT.v (Ty.sl (Ty.cons (Ty.int IntKind.i64) (Ty.cons Ty.str (Ty.cons Ty.str Ty.unit))))]
def tys6 : List Ty := [Ty.sl (Ty.cons (Ty.int IntKind.i64) (Ty.cons Ty.str (Ty.cons Ty.str Ty.unit)))]
def E6_3 (v4 : Int) (h0 : List (Int × ByteArray × ByteArray × Unit)) (x0 : List (Int × ByteArray × ByteArray × Unit)) : Env := [(0, PV.a (Atom.sl (Ty.cons (Ty.int IntKind.i64) (Ty.cons Ty.str (Ty.cons Ty.str Ty.unit))) x0)), (3, PV.a (Atom.osl 0 Option.none)), (4, PV.a (Atom.val (Value.int IntKind.i64 v4)))]
def L6_3 (v4 : Int) (h0 : List (Int × ByteArray × ByteArray × Unit)) (x0 : List (Int × ByteArray × ByteArray × Unit)) : Heap := [Option.some (Arr.mk (Ty.cons (Ty.int IntKind.i64) (Ty.cons Ty.str (Ty.cons Ty.str Ty.unit))) h0 Bool.false)]
mutual
def R6 : Nat → List (Int × ByteArray × ByteArray × Unit) → List Dyn → Prop
  | 0, _, _ => False
  | n + 1, x0, ds => ((0 ≤ (↑(List.length x0) : Int)) ∧ ((↑(List.length x0) : Int) ≤ (↑(List.length x0) : Int)) ∧ (40 * (↑(List.length x0) : Int) ≤ 281474976710656) ∧ (R6_3 n (0) (List.replicate (Int.toNat (↑(List.length x0) : Int)) (0, ByteArray.empty, ByteArray.empty, ())) (x0) ds))
def R6_3 : Nat → Int → List (Int × ByteArray × ByteArray × Unit) → List (Int × ByteArray × ByteArray × Unit) → List Dyn → Prop
  | 0, _, _, _, _ => False
  | n + 1, v4, h0, x0, ds => (if (Decidable.decide (v4 < (↑(List.length x0) : Int))) = true then ((0 ≤ v4) ∧ (v4 < (↑(List.length x0) : Int)) ∧ ((0 ≤ v4) ∧ (v4 < (↑(List.length h0) : Int)) ∧ ((InR IntKind.i64 (v4 + 1)) ∧ (R6_3 n (v4 + 1) (List.set h0 (Int.toNat v4) (Prod.fst (List.getD x0 (Int.toNat v4) (0, ByteArray.empty, ByteArray.empty, ())), Prod.fst (Prod.snd (List.getD x0 (Int.toNat v4) (0, ByteArray.empty, ByteArray.empty, ()))), Prod.fst (Prod.snd (Prod.snd (List.getD x0 (Int.toNat v4) (0, ByteArray.empty, ByteArray.empty, ())))), ())) (x0) ds)))) else (ds = [Dyn.mk (Ty.sl (Ty.cons (Ty.int IntKind.i64) (Ty.cons Ty.str (Ty.cons Ty.str Ty.unit)))) h0]))
end
theorem p6_0 (x0 : List (Int × ByteArray × ByteArray × Unit)) : Am.runN tab ext6 false 23 [] 2000 [] [] [0, 3, 4] [0] [] [.code b6] (entE 0 0 sig6 (x0, ())) (entL sig6 (x0, ())) = some (cutAt b6 3, E6_3 (0) (List.replicate (Int.toNat (↑(List.length x0) : Int)) (0, ByteArray.empty, ByteArray.empty, ())) (x0), L6_3 (0) (List.replicate (Int.toNat (↑(List.length x0) : Int)) (0, ByteArray.empty, ByteArray.empty, ())) (x0), [0 ≤ (↑(List.length x0) : Int), (↑(List.length x0) : Int) ≤ (↑(List.length x0) : Int), 40 * (↑(List.length x0) : Int) ≤ 281474976710656]) := by kernel_rfl
theorem p6_1 (v4 : Int) (h0 : List (Int × ByteArray × ByteArray × Unit)) (x0 : List (Int × ByteArray × ByteArray × Unit)) : Am.runN tab ext6 false 23 [] 2000 [] [] [0, 3, 4] [0] [true] (cutAt b6 3) (E6_3 v4 h0 x0) (L6_3 v4 h0 x0) = some (cutAt b6 3, E6_3 (v4 + 1) (List.set h0 (Int.toNat v4) (Prod.fst (List.getD x0 (Int.toNat v4) (0, ByteArray.empty, ByteArray.empty, ())), Prod.fst (Prod.snd (List.getD x0 (Int.toNat v4) (0, ByteArray.empty, ByteArray.empty, ()))), Prod.fst (Prod.snd (Prod.snd (List.getD x0 (Int.toNat v4) (0, ByteArray.empty, ByteArray.empty, ())))), ())) (x0), L6_3 (v4 + 1) (List.set h0 (Int.toNat v4) (Prod.fst (List.getD x0 (Int.toNat v4) (0, ByteArray.empty, ByteArray.empty, ())), Prod.fst (Prod.snd (List.getD x0 (Int.toNat v4) (0, ByteArray.empty, ByteArray.empty, ()))), Prod.fst (Prod.snd (Prod.snd (List.getD x0 (Int.toNat v4) (0, ByteArray.empty, ByteArray.empty, ())))), ())) (x0), [Decidable.decide (v4 < (↑(List.length x0) : Int)) = Bool.true, 0 ≤ v4, v4 < (↑(List.length x0) : Int), True, 0 ≤ v4, v4 < (↑(List.length h0) : Int), InR IntKind.i64 (v4 + 1)]) := by kernel_rfl
theorem p6_2 (v4 : Int) (h0 : List (Int × ByteArray × ByteArray × Unit)) (x0 : List (Int × ByteArray × ByteArray × Unit)) : runF tab ext6 false 23 [] 2000 [] tys6 Try.f6.results [false] (cutAt b6 3) (E6_3 v4 h0 x0) (L6_3 v4 h0 x0) = some ([Dyn.mk (Ty.sl (Ty.cons (Ty.int IntKind.i64) (Ty.cons Ty.str (Ty.cons Ty.str Ty.unit)))) h0], [], [Decidable.decide (v4 < (↑(List.length x0) : Int)) = Bool.false]) := by kernel_rfl
theorem snd6 : ∀ n, (∀ (x0 : List (Int × ByteArray × ByteArray × Unit)) ds, R6 n x0 ds → ∀ w0 O q, AtV Try.prog 6 (PostR ds [] [] q w0 O) 23 w0 O q [] [.code b6] (entE 0 0 sig6 (x0, ())) (entL sig6 (x0, ()))) ∧ (∀ (v4 : Int) (h0 : List (Int × ByteArray × ByteArray × Unit)) (x0 : List (Int × ByteArray × ByteArray × Unit)) ds, R6_3 n v4 h0 x0 ds → ∀ w0 O q, AtV Try.prog 6 (PostR ds [] [] q w0 O) 23 w0 O q [] (cutAt b6 3) (E6_3 v4 h0 x0) (L6_3 v4 h0 x0)) := by
  intro n
  induction n with
  | zero => exact ⟨fun _ _ h => by simp only [R6] at h, fun _ _ _ _ h => by simp only [R6_3] at h⟩
  | succ n ih =>
  obtain ⟨ih, ih3⟩ := ih
  refine ⟨?_, ?_⟩
  · intro x0 ds h w0 O q
    rw [R6] at h
    obtain ⟨s0, s1, s2, h⟩ := h
    exact AtV.runN tabOk ext6Ok mixed (p6_0 x0) ⟨s0, s1, s2, trivial⟩ (ih3 _ _ _ _ h w0 O q)

  · intro v4 h0 x0 ds h w0 O q
    rw [R6_3] at h
    by_cases b0 : (Decidable.decide (v4 < (↑(List.length x0) : Int))) = true
    · rw [if_pos b0] at h
      obtain ⟨s0, s1, h⟩ := h
      obtain ⟨s2, s3, h⟩ := h
      obtain ⟨s4, h⟩ := h
      exact AtV.runN tabOk ext6Ok mixed (p6_1 v4 h0 x0) ⟨b0, s0, s1, trivial, s2, s3, s4, trivial⟩ (ih3 _ _ _ _ h w0 O q)
    · rw [if_neg b0] at h
      replace b0 := Bool.eq_false_iff.2 b0
      subst h
      exact AtV.fin Try.func6 tabOk ext6Ok mixed (p6_2 v4 h0 x0) ⟨b0, trivial⟩



theorem run6 (x0 : List (Int × ByteArray × ByteArray × Unit)) (hm : x0.length ≤ maxLen) : ∀ (k i : Nat), i + k = x0.length →
    R6_3 (k + 1) (i : Int) (x0.take i ++ List.replicate k ((0 : Int), ByteArray.empty, ByteArray.empty, ())) x0 [⟨.sl (.cons (.int .i64) (.cons .str (.cons .str .unit))), x0⟩] := by
  intro k
  induction k with
  | zero =>
    intro i hi
    rw [R6_3, if_neg (by simp; omega), List.take_of_length_le (by omega)]
    simp
  | succ k ih =>
    intro i hi
    rw [R6_3, if_pos (by simp; omega)]
    simp only [Int.toNat_natCast]
    refine ⟨by omega, by omega, by omega, by simp; omega, inR_up hm (by omega), ?_⟩
    have hs := set_step x0 ((0 : Int), ByteArray.empty, ByteArray.empty, ()) i (by omega) (k + 1) (by omega)
    have he : ∀ y : (Int × ByteArray × ByteArray × Unit), (y.1, y.2.1, y.2.2.1, ()) = y := fun _ => rfl
    rw [he, hs]
    exact ih (i + 1) (by omega)

def g6_0 (x0 : List (Int × ByteArray × ByteArray × Unit)) : List (Int × ByteArray × ByteArray × Unit) := x0
def P6 (x0 : List (Int × ByteArray × ByteArray × Unit)) : Prop := 40 * (x0.length : Int) ≤ 281474976710656
def S6 : Am.Spec := { sig := sig6, pre := fun ⟨x0, _⟩ => P6 x0, res := fun ⟨x0, _⟩ => [⟨.sl (.cons (.int .i64) (.cons .str (.cons .str .unit))), g6_0 x0⟩] }
theorem con6 : Contract Try.prog 6 S6 := contract_of Try.func6 hb6 (Nat.le_of_ble_eq_true (by kernel_rfl)) (fun ⟨x0, _⟩ h hwf w0 O q => by
  refine (snd6 (x0.length + 2)).1 x0 _ ?_ w0 O q
  show R6 (x0.length + 1 + 1) x0 [⟨.sl (.cons (.int .i64) (.cons .str (.cons .str .unit))), x0⟩]
  rw [R6]
  refine ⟨by omega, by omega, h, ?_⟩
  have := run6 x0 hwf.1.1 x0.length 0 (by omega)
  simpa using this)

end Go.Proofs.Ytgbmdngcpcgaeaa

/- Function 23 (spec.l00In): its runs between cut points. Written by a program of this repo (gen). -/
set_option linter.unusedVariables false
set_option linter.unusedSimpArgs false
set_option maxRecDepth 100000
namespace Go.Proofs.Ytgbmdngcpcgaeaa
open Go Go.Am Go.Proofs
def ext23 : Ext := []
theorem ext23Ok : ExtOk Try.prog ext23 := trivial
/-! Function 23. -/
noncomputable def b23 : Code := bodyOf Try.f23
theorem hb23 : Try.f23.body = some b23 := by kernel_rfl
def sig23 : List AT := [AT.v (Ty.int IntKind.i64), AT.v (Ty.int IntKind.i64), AT.v (Ty.int IntKind.i64)]
def tys23 : List Ty := [Ty.bool]
def P23 (x0 : Int) (x1 : Int) (x2 : Int) : Prop := True
def g23_0 (x0 : Int) (x1 : Int) (x2 : Int) : Bool := (if (Decidable.decide (x0 ≥ x1)) = true then Decidable.decide (x0 ≤ x2) else Bool.false)
theorem p23_0 (x0 : Int) (x1 : Int) (x2 : Int) : runF tab ext23 false 15 [] 2000 [] tys23 Try.f23.results [true] [.code b23] (entE 0 0 sig23 (x0, x1, x2, ())) (entL sig23 (x0, x1, x2, ())) = some ([Dyn.mk Ty.bool (Decidable.decide (x0 ≤ x2))], [], [Decidable.decide (x0 ≥ x1) = Bool.true]) := by kernel_rfl
theorem p23_1 (x0 : Int) (x1 : Int) (x2 : Int) : runF tab ext23 false 15 [] 2000 [] tys23 Try.f23.results [false] [.code b23] (entE 0 0 sig23 (x0, x1, x2, ())) (entL sig23 (x0, x1, x2, ())) = some ([Dyn.mk Ty.bool Bool.false], [], [Decidable.decide (x0 ≥ x1) = Bool.false]) := by kernel_rfl
theorem at23 (x0 : Int) (x1 : Int) (x2 : Int) (h : P23 x0 x1 x2) (w0 : World) (O : List Nat) (q : Nat → Value) : AtV Try.prog 23 (PostR [⟨Ty.bool, g23_0 x0 x1 x2⟩] [] [] q w0 O) 15 w0 O q [] [.code b23] (entE 0 0 sig23 (x0, x1, x2, ())) (entL sig23 (x0, x1, x2, ())) := by
  unfold P23 at h
  unfold g23_0
  by_cases b0 : (Decidable.decide (x0 ≥ x1)) = true
  · try simp only [if_pos b0] at h ⊢
    exact AtV.fin Try.func23 tabOk ext23Ok mixed (p23_0 x0 x1 x2) ⟨b0, trivial⟩
  · try simp only [if_neg b0] at h ⊢
    replace b0 := Bool.eq_false_iff.2 b0
    exact AtV.fin Try.func23 tabOk ext23Ok mixed (p23_1 x0 x1 x2) ⟨b0, trivial⟩

def S23 : Am.Spec := { sig := sig23, pre := fun ⟨x0, x1, x2, _⟩ => P23 x0 x1 x2, res := fun ⟨x0, x1, x2, _⟩ => [⟨Ty.bool, g23_0 x0 x1 x2⟩] }
theorem con23 : Contract Try.prog 23 S23 := contract_of Try.func23 hb23 (Nat.le_of_ble_eq_true (by kernel_rfl)) (fun ⟨x0, x1, x2, _⟩ h _ w0 O q => at23 x0 x1 x2 h w0 O q)


end Go.Proofs.Ytgbmdngcpcgaeaa

/- Function 14 (spec.l31Kind): its runs between cut points. Written by a program of this repo (gen). -/
set_option linter.unusedVariables false
set_option linter.unusedSimpArgs false
set_option maxRecDepth 100000
namespace Go.Proofs.Ytgbmdngcpcgaeaa
open Go Go.Am Go.Proofs
def ext14 : Ext := [(23, S23)]
theorem call14_23 : Callable Try.prog 23 := ⟨Try.f23, Try.func23, by kernel_rfl, by kernel_rfl⟩
theorem ext14Ok : ExtOk Try.prog ext14 := ⟨⟨call14_23, con23⟩, trivial⟩
/-! Function 14. -/
noncomputable def b14 : Code := bodyOf Try.f14
theorem hb14 : Try.f14.body = some b14 := by kernel_rfl
def sig14 : List AT := [AT.v (Ty.int IntKind.i64)]
def tys14 : List Ty := [Ty.bool]
def P14 (x0 : Int) : Prop := True
def g14_0 (x0 : Int) : Bool := g23_0 x0 1 6
theorem p14_0 (x0 : Int) : runF tab ext14 false 5 [] 2000 [] tys14 Try.f14.results [] [.code b14] (entE 0 0 sig14 (x0, ())) (entL sig14 (x0, ())) = some ([Dyn.mk Ty.bool (g23_0 x0 1 6)], [], [True]) := by kernel_rfl
theorem at14 (x0 : Int) (h : P14 x0) (w0 : World) (O : List Nat) (q : Nat → Value) : AtV Try.prog 14 (PostR [⟨Ty.bool, g14_0 x0⟩] [] [] q w0 O) 5 w0 O q [] [.code b14] (entE 0 0 sig14 (x0, ())) (entL sig14 (x0, ())) := by
  unfold P14 at h
  unfold g14_0
  exact AtV.fin Try.func14 tabOk ext14Ok mixed (p14_0 x0) ⟨trivial, trivial⟩

def S14 : Am.Spec := { sig := sig14, pre := fun ⟨x0, _⟩ => P14 x0, res := fun ⟨x0, _⟩ => [⟨Ty.bool, g14_0 x0⟩] }
theorem con14 : Contract Try.prog 14 S14 := contract_of Try.func14 hb14 (Nat.le_of_ble_eq_true (by kernel_rfl)) (fun ⟨x0, _⟩ h _ w0 O q => at14 x0 h w0 O q)


end Go.Proofs.Ytgbmdngcpcgaeaa

/- Function 5 (spec.CountProblems): its runs between cut points. Written by a program of this repo (gen). -/
set_option linter.unusedVariables false
set_option linter.unusedSimpArgs false
set_option maxRecDepth 100000
namespace Go.Proofs.Ytgbmdngcpcgaeaa
open Go Go.Am Go.Proofs
def ext5 : Ext := [(14, S14)]
theorem call5_14 : Callable Try.prog 14 := ⟨Try.f14, Try.func14, by kernel_rfl, by kernel_rfl⟩
theorem ext5Ok : ExtOk Try.prog ext5 := ⟨⟨call5_14, con14⟩, trivial⟩
/-! Function 5. -/
noncomputable def b5 : Code := bodyOf Try.f5
theorem hb5 : Try.f5.body = some b5 := by kernel_rfl
def sig5 : List AT := [AT.v (Ty.sl (Ty.cons (Ty.int IntKind.i64) (Ty.cons Ty.str (Ty.cons Ty.str Ty.unit))))]
def tys5 : List Ty := [Ty.sl (Ty.int IntKind.i64)]
def E5_3 (v4 : Int) (h0 : List Int) (x0 : List (Int × ByteArray × ByteArray × Unit)) : Env := [(0, PV.a (Atom.sl (Ty.cons (Ty.int IntKind.i64) (Ty.cons Ty.str (Ty.cons Ty.str Ty.unit))) x0)), (3, PV.a (Atom.osl 0 Option.none)), (4, PV.a (Atom.val (Value.int IntKind.i64 v4)))]
def L5_3 (v4 : Int) (h0 : List Int) (x0 : List (Int × ByteArray × ByteArray × Unit)) : Heap := [Option.some (Arr.mk (Ty.int IntKind.i64) h0 Bool.false)]
mutual
def R5 : Nat → List (Int × ByteArray × ByteArray × Unit) → List Dyn → Prop
  | 0, _, _ => False
  | n + 1, x0, ds => (R5_3 n (0) ([0, 0, 0, 0, 0, 0, 0]) (x0) ds)
def R5_3 : Nat → Int → List Int → List (Int × ByteArray × ByteArray × Unit) → List Dyn → Prop
  | 0, _, _, _, _ => False
  | n + 1, v4, h0, x0, ds => (if (Decidable.decide (v4 < (↑(List.length x0) : Int))) = true then ((0 ≤ v4) ∧ (v4 < (↑(List.length x0) : Int)) ∧ (if (g14_0 (Prod.fst (List.getD x0 (Int.toNat v4) (0, ByteArray.empty, ByteArray.empty, ())))) = true then ((0 ≤ v4) ∧ (v4 < (↑(List.length x0) : Int)) ∧ ((0 ≤ Prod.fst (List.getD x0 (Int.toNat v4) (0, ByteArray.empty, ByteArray.empty, ()))) ∧ (Prod.fst (List.getD x0 (Int.toNat v4) (0, ByteArray.empty, ByteArray.empty, ())) < (↑(List.length h0) : Int)) ∧ ((InR IntKind.i64 (List.getD h0 (Int.toNat (Prod.fst (List.getD x0 (Int.toNat v4) (0, ByteArray.empty, ByteArray.empty, ())))) 0 + 1)) ∧ ((0 ≤ Prod.fst (List.getD x0 (Int.toNat v4) (0, ByteArray.empty, ByteArray.empty, ()))) ∧ (Prod.fst (List.getD x0 (Int.toNat v4) (0, ByteArray.empty, ByteArray.empty, ())) < (↑(List.length h0) : Int)) ∧ ((0 < (↑(List.length (List.set h0 (Int.toNat (Prod.fst (List.getD x0 (Int.toNat v4) (0, ByteArray.empty, ByteArray.empty, ())))) (List.getD h0 (Int.toNat (Prod.fst (List.getD x0 (Int.toNat v4) (0, ByteArray.empty, ByteArray.empty, ())))) 0 + 1))) : Int)) ∧ ((InR IntKind.i64 (List.getD (List.set h0 (Int.toNat (Prod.fst (List.getD x0 (Int.toNat v4) (0, ByteArray.empty, ByteArray.empty, ())))) (List.getD h0 (Int.toNat (Prod.fst (List.getD x0 (Int.toNat v4) (0, ByteArray.empty, ByteArray.empty, ())))) 0 + 1)) 0 0 + 1)) ∧ ((0 < (↑(List.length (List.set h0 (Int.toNat (Prod.fst (List.getD x0 (Int.toNat v4) (0, ByteArray.empty, ByteArray.empty, ())))) (List.getD h0 (Int.toNat (Prod.fst (List.getD x0 (Int.toNat v4) (0, ByteArray.empty, ByteArray.empty, ())))) 0 + 1))) : Int)) ∧ ((InR IntKind.i64 (v4 + 1)) ∧ (R5_3 n (v4 + 1) (List.set (List.set h0 (Int.toNat (Prod.fst (List.getD x0 (Int.toNat v4) (0, ByteArray.empty, ByteArray.empty, ())))) (List.getD h0 (Int.toNat (Prod.fst (List.getD x0 (Int.toNat v4) (0, ByteArray.empty, ByteArray.empty, ())))) 0 + 1)) 0 (List.getD (List.set h0 (Int.toNat (Prod.fst (List.getD x0 (Int.toNat v4) (0, ByteArray.empty, ByteArray.empty, ())))) (List.getD h0 (Int.toNat (Prod.fst (List.getD x0 (Int.toNat v4) (0, ByteArray.empty, ByteArray.empty, ())))) 0 + 1)) 0 0 + 1)) (x0) ds))))))))) else ((InR IntKind.i64 (v4 + 1)) ∧ (R5_3 n (v4 + 1) (h0) (x0) ds)))) else (ds = [Dyn.mk (Ty.sl (Ty.int IntKind.i64)) h0]))
end
theorem p5_0 (x0 : List (Int × ByteArray × ByteArray × Unit)) : Am.runN tab ext5 false 34 [] 2000 [] [] [0, 3, 4] [0] [] [.code b5] (entE 0 0 sig5 (x0, ())) (entL sig5 (x0, ())) = some (cutAt b5 3, E5_3 (0) ([0, 0, 0, 0, 0, 0, 0]) (x0), L5_3 (0) ([0, 0, 0, 0, 0, 0, 0]) (x0), [(0 : Int) ≤ (7 : Int), (7 : Int) ≤ (7 : Int), (56 : Int) ≤ (281474976710656 : Int)]) := by kernel_rfl
theorem p5_1 (v4 : Int) (h0 : List Int) (x0 : List (Int × ByteArray × ByteArray × Unit)) : Am.runN tab ext5 false 34 [] 2000 [] [] [0, 3, 4] [0] [true, true] (cutAt b5 3) (E5_3 v4 h0 x0) (L5_3 v4 h0 x0) = some (cutAt b5 3, E5_3 (v4 + 1) (List.set (List.set h0 (Int.toNat (Prod.fst (List.getD x0 (Int.toNat v4) (0, ByteArray.empty, ByteArray.empty, ())))) (List.getD h0 (Int.toNat (Prod.fst (List.getD x0 (Int.toNat v4) (0, ByteArray.empty, ByteArray.empty, ())))) 0 + 1)) 0 (List.getD (List.set h0 (Int.toNat (Prod.fst (List.getD x0 (Int.toNat v4) (0, ByteArray.empty, ByteArray.empty, ())))) (List.getD h0 (Int.toNat (Prod.fst (List.getD x0 (Int.toNat v4) (0, ByteArray.empty, ByteArray.empty, ())))) 0 + 1)) 0 0 + 1)) (x0), L5_3 (v4 + 1) (List.set (List.set h0 (Int.toNat (Prod.fst (List.getD x0 (Int.toNat v4) (0, ByteArray.empty, ByteArray.empty, ())))) (List.getD h0 (Int.toNat (Prod.fst (List.getD x0 (Int.toNat v4) (0, ByteArray.empty, ByteArray.empty, ())))) 0 + 1)) 0 (List.getD (List.set h0 (Int.toNat (Prod.fst (List.getD x0 (Int.toNat v4) (0, ByteArray.empty, ByteArray.empty, ())))) (List.getD h0 (Int.toNat (Prod.fst (List.getD x0 (Int.toNat v4) (0, ByteArray.empty, ByteArray.empty, ())))) 0 + 1)) 0 0 + 1)) (x0), [Decidable.decide (v4 < (↑(List.length x0) : Int)) = Bool.true, 0 ≤ v4, v4 < (↑(List.length x0) : Int), True, g14_0 (Prod.fst (List.getD x0 (Int.toNat v4) (0, ByteArray.empty, ByteArray.empty, ()))) = Bool.true, 0 ≤ v4, v4 < (↑(List.length x0) : Int), 0 ≤ Prod.fst (List.getD x0 (Int.toNat v4) (0, ByteArray.empty, ByteArray.empty, ())), Prod.fst (List.getD x0 (Int.toNat v4) (0, ByteArray.empty, ByteArray.empty, ())) < (↑(List.length h0) : Int), InR IntKind.i64 (List.getD h0 (Int.toNat (Prod.fst (List.getD x0 (Int.toNat v4) (0, ByteArray.empty, ByteArray.empty, ())))) 0 + 1), 0 ≤ Prod.fst (List.getD x0 (Int.toNat v4) (0, ByteArray.empty, ByteArray.empty, ())), Prod.fst (List.getD x0 (Int.toNat v4) (0, ByteArray.empty, ByteArray.empty, ())) < (↑(List.length h0) : Int), (0 : Int) ≤ (0 : Int), 0 < (↑(List.length (List.set h0 (Int.toNat (Prod.fst (List.getD x0 (Int.toNat v4) (0, ByteArray.empty, ByteArray.empty, ())))) (List.getD h0 (Int.toNat (Prod.fst (List.getD x0 (Int.toNat v4) (0, ByteArray.empty, ByteArray.empty, ())))) 0 + 1))) : Int), InR IntKind.i64 (List.getD (List.set h0 (Int.toNat (Prod.fst (List.getD x0 (Int.toNat v4) (0, ByteArray.empty, ByteArray.empty, ())))) (List.getD h0 (Int.toNat (Prod.fst (List.getD x0 (Int.toNat v4) (0, ByteArray.empty, ByteArray.empty, ())))) 0 + 1)) 0 0 + 1), (0 : Int) ≤ (0 : Int), 0 < (↑(List.length (List.set h0 (Int.toNat (Prod.fst (List.getD x0 (Int.toNat v4) (0, ByteArray.empty, ByteArray.empty, ())))) (List.getD h0 (Int.toNat (Prod.fst (List.getD x0 (Int.toNat v4) (0, ByteArray.empty, ByteArray.empty, ())))) 0 + 1))) : Int), InR IntKind.i64 (v4 + 1)]) := by kernel_rfl
theorem p5_2 (v4 : Int) (h0 : List Int) (x0 : List (Int × ByteArray × ByteArray × Unit)) : Am.runN tab ext5 false 34 [] 2000 [] [] [0, 3, 4] [0] [true, false] (cutAt b5 3) (E5_3 v4 h0 x0) (L5_3 v4 h0 x0) = some (cutAt b5 3, E5_3 (v4 + 1) (h0) (x0), L5_3 (v4 + 1) (h0) (x0), [Decidable.decide (v4 < (↑(List.length x0) : Int)) = Bool.true, 0 ≤ v4, v4 < (↑(List.length x0) : Int), True, g14_0 (Prod.fst (List.getD x0 (Int.toNat v4) (0, ByteArray.empty, ByteArray.empty, ()))) = Bool.false, InR IntKind.i64 (v4 + 1)]) := by kernel_rfl
theorem p5_3 (v4 : Int) (h0 : List Int) (x0 : List (Int × ByteArray × ByteArray × Unit)) : runF tab ext5 false 34 [] 2000 [] tys5 Try.f5.results [false] (cutAt b5 3) (E5_3 v4 h0 x0) (L5_3 v4 h0 x0) = some ([Dyn.mk (Ty.sl (Ty.int IntKind.i64)) h0], [], [Decidable.decide (v4 < (↑(List.length x0) : Int)) = Bool.false]) := by kernel_rfl
theorem snd5 : ∀ n, (∀ (x0 : List (Int × ByteArray × ByteArray × Unit)) ds, R5 n x0 ds → ∀ w0 O q, AtV Try.prog 5 (PostR ds [] [] q w0 O) 34 w0 O q [] [.code b5] (entE 0 0 sig5 (x0, ())) (entL sig5 (x0, ()))) ∧ (∀ (v4 : Int) (h0 : List Int) (x0 : List (Int × ByteArray × ByteArray × Unit)) ds, R5_3 n v4 h0 x0 ds → ∀ w0 O q, AtV Try.prog 5 (PostR ds [] [] q w0 O) 34 w0 O q [] (cutAt b5 3) (E5_3 v4 h0 x0) (L5_3 v4 h0 x0)) := by
  intro n
  induction n with
  | zero => exact ⟨fun _ _ h => by simp only [R5] at h, fun _ _ _ _ h => by simp only [R5_3] at h⟩
  | succ n ih =>
  obtain ⟨ih, ih3⟩ := ih
  refine ⟨?_, ?_⟩
  · intro x0 ds h w0 O q
    rw [R5] at h
    exact AtV.runN tabOk ext5Ok mixed (p5_0 x0) ⟨(by decide), (by decide), (by decide), trivial⟩ (ih3 _ _ _ _ h w0 O q)

  · intro v4 h0 x0 ds h w0 O q
    rw [R5_3] at h
    by_cases b0 : (Decidable.decide (v4 < (↑(List.length x0) : Int))) = true
    · rw [if_pos b0] at h
      obtain ⟨s0, s1, h⟩ := h
      by_cases b1 : (g14_0 (Prod.fst (List.getD x0 (Int.toNat v4) (0, ByteArray.empty, ByteArray.empty, ())))) = true
      · rw [if_pos b1] at h
        obtain ⟨s2, s3, h⟩ := h
        obtain ⟨s4, s5, h⟩ := h
        obtain ⟨s6, h⟩ := h
        obtain ⟨s7, s8, h⟩ := h
        obtain ⟨s9, h⟩ := h
        obtain ⟨s10, h⟩ := h
        obtain ⟨s11, h⟩ := h
        obtain ⟨s12, h⟩ := h
        exact AtV.runN tabOk ext5Ok mixed (p5_1 v4 h0 x0) ⟨b0, s0, s1, trivial, b1, s2, s3, s4, s5, s6, s7, s8, (by decide), s9, s10, (by decide), s11, s12, trivial⟩ (ih3 _ _ _ _ h w0 O q)
      · rw [if_neg b1] at h
        replace b1 := Bool.eq_false_iff.2 b1
        obtain ⟨s2, h⟩ := h
        exact AtV.runN tabOk ext5Ok mixed (p5_2 v4 h0 x0) ⟨b0, s0, s1, trivial, b1, s2, trivial⟩ (ih3 _ _ _ _ h w0 O q)
    · rw [if_neg b0] at h
      replace b0 := Bool.eq_false_iff.2 b0
      subst h
      exact AtV.fin Try.func5 tabOk ext5Ok mixed (p5_3 v4 h0 x0) ⟨b0, trivial⟩



def step5 (h : List Int) (x : (Int × ByteArray × ByteArray × Unit)) : List Int := if g14_0 x.1 = true then bump1 (bump1 h x.1) 0 else h
def g5_0 (x0 : List (Int × ByteArray × ByteArray × Unit)) : List Int := x0.foldl step5 [0, 0, 0, 0, 0, 0, 0]
def P5 (x0 : List (Int × ByteArray × ByteArray × Unit)) : Prop := x0.length ≤ 1048576

theorem kind5 (k : Int) : g14_0 k = true ↔ 1 ≤ k ∧ k ≤ 6 := by
  unfold g14_0 g23_0
  by_cases h : 1 ≤ k
  · rw [if_pos (by simpa using h)]; simp [h]
  · rw [if_neg (by simpa using h)]; simp [h]

/-- Two counts a step. -/
def Inv5 (i : Nat) (h : List Int) : Prop := h.length = 7 ∧ ∀ c ∈ h, 0 ≤ c ∧ c ≤ ((i + i : Nat) : Int)

theorem top5 (x0 : List (Int × ByteArray × ByteArray × Unit)) (hm0 : x0.length ≤ 1048576) : R5 (x0.length + 1 + 1) x0 [⟨.sl (.int .i64), g5_0 x0⟩] := by
  have hm : x0.length ≤ maxLen := by unfold maxLen; omega
  rw [R5]
  refine loop_fold (b := [0, 0, 0, 0, 0, 0, 0]) x0 ((0 : Int), ByteArray.empty, ByteArray.empty, ()) step5 (fun h => [(⟨.sl (.int .i64), h⟩ : Dyn)]) Inv5 (fun n i h ds => R5_3 n i h x0 ds) ⟨rfl, by simp⟩ (fun n h hh => ?_) (fun n i h hi hh => ?_)
  · show R5_3 (n + 1) x0.length h x0 _
    rw [R5_3, if_neg (by simp)]
  · obtain ⟨h7, hc⟩ := hh
    show Inv5 (i + 1) (step5 h (x0.getD i ((0 : Int), ByteArray.empty, ByteArray.empty, ()))) ∧ _
    generalize hx : x0.getD i ((0 : Int), ByteArray.empty, ByteArray.empty, ()) = x
    unfold step5
    by_cases hk : g14_0 x.1 = true
    · rw [if_pos hk]
      obtain ⟨k1, k6⟩ := (kind5 _).1 hk
      have hc1 := bump1_all hc x.1
      have hc2 := bump1_all hc1 0
      refine ⟨⟨by rw [bump1_length, bump1_length]; exact h7, fun c hm' => ?_⟩, fun ds hr => ?_⟩
      · have := hc2 c hm'
        omega
      · rw [R5_3, if_pos (by simp; omega)]
        simp only [Int.toNat_natCast, hx]
        refine ⟨by omega, by omega, ?_⟩
        rw [if_pos hk]
        have b1 := getD_all (by omega) hc x.1.toNat
        have b2 := getD_all (by omega) hc1 0
        have hl1 : (h.set x.1.toNat (h.getD x.1.toNat 0 + 1)).length = 7 := by rw [List.length_set]; exact h7
        refine ⟨by omega, by omega, by omega, by rw [h7]; omega, by rw [i64_iff]; omega, by omega, by rw [h7]; omega, by rw [hl1]; omega, ?_, by rw [hl1]; omega, inR_up hm hi, hr⟩
        rw [i64_iff]
        exact ⟨by have := b2.1; unfold bump1 at this; omega, by have := b2.2; unfold bump1 at this; omega⟩
    · rw [if_neg hk]
      refine ⟨⟨h7, fun c hm' => by have := hc c hm'; omega⟩, fun ds hr => ?_⟩
      rw [R5_3, if_pos (by simp; omega)]
      simp only [Int.toNat_natCast, hx]
      refine ⟨by omega, by omega, ?_⟩
      rw [if_neg hk]
      exact ⟨inR_up hm hi, hr⟩

def S5 : Am.Spec := { sig := sig5, pre := fun ⟨x0, _⟩ => P5 x0, res := fun ⟨x0, _⟩ => [⟨.sl (.int .i64), g5_0 x0⟩] }
theorem con5 : Contract Try.prog 5 S5 := contract_of Try.func5 hb5 (Nat.le_of_ble_eq_true (by kernel_rfl)) (fun ⟨x0, _⟩ h hwf w0 O q =>
  (snd5 _).1 x0 _ (top5 x0 h) w0 O q)

end Go.Proofs.Ytgbmdngcpcgaeaa

/- Function 17 (slices.Clone[[]impl.Problem,impl.Problem]): its contract, off what is known of the library. -/
set_option linter.unusedVariables false
set_option linter.unusedSimpArgs false
set_option maxRecDepth 100000
namespace Go.Proofs.Ytgbmdngcpcgaeaa
open Go Go.Am Go.Proofs

set_option maxHeartbeats 2000000 in
theorem nil17 (w : World) : Calls Try.prog 17 #[.slice none 0 0] w fun e w' => e = .returned (.slice none 0 0) ∧ w' = w := by
  have mixed := mixed
  have q22 : ∀ (w : World) (a : Option Addr) (n c n' c' : Nat), (binOp .eql 26 (.slice a n c) (.slice none n' c')).run Try.prog w = .ok (.bool a.isNone) w := fun w a n c n' c' => Lib.run_eql_slice_nil w _ _ a n c n' c' Try.underlying26
  go_enter Try.func17, Try.ntmps17
  go_wp2
  go_ret
  exact ⟨rfl, rfl⟩

set_option maxHeartbeats 4000000 in
theorem some17 (w : World) (a : Addr) (n c : Nat) (news : List Value) (hl : news.length = n * (Ty.size (Ty.cons (Ty.int IntKind.i64) (Ty.cons Ty.str (Ty.cons Ty.str Ty.unit))))) (hn : n ≤ 1048576) (hc : ∀ (j : Nat) (u : Value), news[j]? = some u → w.cell? (a.add j) = some u) (h1 : ∀ u ∈ news, u.oneCell' = true) :
    Calls Try.prog 17 #[.slice (some a) n c] w fun r w' => ∃ v', r = .returned v' ∧ w'.ownsRow w.heap.size 37 (Ty.size (Ty.cons (Ty.int IntKind.i64) (Ty.cons Ty.str (Ty.cons Ty.str Ty.unit)))) v' n news ∧ Go.RowKit.Below w.heap.size w w' := by
  have mixed := mixed
  have q22 : ∀ (w : World) (a : Option Addr) (n c n' c' : Nat), (binOp .eql 26 (.slice a n c) (.slice none n' c')).run Try.prog w = .ok (.bool a.isNone) w := fun w a n c n' c' => Lib.run_eql_slice_nil w _ _ a n c n' c' Try.underlying26
  have hinfo : TIOk Try.prog 26 (tabGet tab 26) := tabOk 26
  obtain ⟨_, _, ⟨_, ⟨i0, hi0, hz1, z, hz0, hzs, _⟩⟩, hby⟩ := hinfo
  rw [hi0] at hby
  simp only [Option.map_some, Option.some.injEq] at hby
  have hzs' : z.cells.size = Ty.size (Ty.cons (Ty.int IntKind.i64) (Ty.cons Ty.str (Ty.cons Ty.str Ty.unit))) := by rw [← Array.length_toList, hzs]; rfl
  have A : Aside (∀ (j : Nat) (u : Value), news[j]? = some u → w.cell? (a.add j) = some u) := hc
  clear hc
  go_enter Try.func17, Try.ntmps17
  go_wp2_with (at_builtin; refine wpList_append_own _ rfl _ _ 26 rfl w.heap.size 37 i0 z (Ty.size (Ty.cons (Ty.int IntKind.i64) (Ty.cons Ty.str (Ty.cons Ty.str Ty.unit)))) i0.bytes Try.underlying26 hi0 hz0 hz1 rfl hzs' (by decide) _ _ _ rfl (World.ownsRow_made w #[] 0 (Nat.le_refl _) (Nat.zero_le _) (by simp)) a n c news rfl ?qc1 ?qc2 ?qc3 ?qc4 ?qc5 ?qc6 ?_)
  case qc1 => exact hl
  case qc2 => intro j u hj; exact Lib.cell?_alloc_some _ (A.out j u hj)
  case qc3 => exact h1
  case qc4 => unfold maxLen; omega
  case qc5 => rw [hby]; omega
  case qc6 => simp
  intro v' w1 hown hgrow hnil
  go_wp2
  go_ret
  exact ⟨v', rfl, by simpa using hown, ((Go.RowKit.Below.refl _ w).alloc (Nat.le_refl _) _).grown hgrow (by simp) (by intro k hk; simp [Value.ownBlock] at hk; omega)⟩

def sig17 : List AT := [AT.v (Ty.sl (Ty.cons (Ty.int IntKind.i64) (Ty.cons Ty.str (Ty.cons Ty.str Ty.unit))))]
def g17_0 (x0 : List (Int × ByteArray × ByteArray × Unit)) : List (Int × ByteArray × ByteArray × Unit) := x0
def P17 (x0 : List (Int × ByteArray × ByteArray × Unit)) : Prop := x0.length ≤ 1048576
def S17 : Am.Spec := { sig := sig17, pre := fun ⟨x0, _⟩ => P17 x0, res := fun ⟨x0, _⟩ => [⟨Ty.sl (Ty.cons (Ty.int IntKind.i64) (Ty.cons Ty.str (Ty.cons Ty.str Ty.unit))), g17_0 x0⟩] }
theorem con17 : Contract Try.prog 17 S17 := clone_contract (t := (Ty.cons (Ty.int IntKind.i64) (Ty.cons Ty.str (Ty.cons Ty.str Ty.unit)))) (e := 37) rfl nil17 some17

end Go.Proofs.Ytgbmdngcpcgaeaa

/- Function 20 (impl.size[impl.Problem]): its runs between cut points. Written by a program of this repo (gen). -/
set_option linter.unusedVariables false
set_option linter.unusedSimpArgs false
set_option maxRecDepth 100000
namespace Go.Proofs.Ytgbmdngcpcgaeaa
open Go Go.Am Go.Proofs
def ext20 : Ext := []
theorem ext20Ok : ExtOk Try.prog ext20 := trivial
/-! Function 20. -/
noncomputable def b20 : Code := bodyOf Try.f20
theorem hb20 : Try.f20.body = some b20 := by kernel_rfl
def sig20 : List AT := [AT.v (Ty.sl (Ty.cons (Ty.int IntKind.i64) (Ty.cons Ty.str (Ty.cons Ty.str Ty.unit))))]
def tys20 : List Ty := [Ty.int IntKind.i64]
def P20 (x0 : List (Int × ByteArray × ByteArray × Unit)) : Prop := True
def g20_0 (x0 : List (Int × ByteArray × ByteArray × Unit)) : Int := (↑(List.length x0) : Int)
theorem p20_0 (x0 : List (Int × ByteArray × ByteArray × Unit)) : runF tab ext20 false 5 [] 2000 [] tys20 Try.f20.results [] [.code b20] (entE 0 0 sig20 (x0, ())) (entL sig20 (x0, ())) = some ([Dyn.mk (Ty.int IntKind.i64) (↑(List.length x0) : Int)], [], []) := by kernel_rfl
theorem at20 (x0 : List (Int × ByteArray × ByteArray × Unit)) (h : P20 x0) (w0 : World) (O : List Nat) (q : Nat → Value) : AtV Try.prog 20 (PostR [⟨Ty.int IntKind.i64, g20_0 x0⟩] [] [] q w0 O) 5 w0 O q [] [.code b20] (entE 0 0 sig20 (x0, ())) (entL sig20 (x0, ())) := by
  unfold P20 at h
  unfold g20_0
  exact AtV.fin Try.func20 tabOk ext20Ok mixed (p20_0 x0) trivial

def S20 : Am.Spec := { sig := sig20, pre := fun ⟨x0, _⟩ => P20 x0, res := fun ⟨x0, _⟩ => [⟨Ty.int IntKind.i64, g20_0 x0⟩] }
theorem con20 : Contract Try.prog 20 S20 := contract_of Try.func20 hb20 (Nat.le_of_ble_eq_true (by kernel_rfl)) (fun ⟨x0, _⟩ h _ w0 O q => at20 x0 h w0 O q)


end Go.Proofs.Ytgbmdngcpcgaeaa

/- Function 25 (impl.within): its runs between cut points. Written by a program of this repo (gen). -/
set_option linter.unusedVariables false
set_option linter.unusedSimpArgs false
set_option maxRecDepth 100000
namespace Go.Proofs.Ytgbmdngcpcgaeaa
open Go Go.Am Go.Proofs
def ext25 : Ext := []
theorem ext25Ok : ExtOk Try.prog ext25 := trivial
/-! Function 25. -/
noncomputable def b25 : Code := bodyOf Try.f25
theorem hb25 : Try.f25.body = some b25 := by kernel_rfl
def sig25 : List AT := [AT.v (Ty.int IntKind.i64), AT.v (Ty.int IntKind.i64), AT.v (Ty.int IntKind.i64)]
def tys25 : List Ty := [Ty.bool]
def P25 (x0 : Int) (x1 : Int) (x2 : Int) : Prop := True
def g25_0 (x0 : Int) (x1 : Int) (x2 : Int) : Bool := (if (Decidable.decide (x0 ≥ x1)) = true then Decidable.decide (x0 ≤ x2) else Bool.false)
theorem p25_0 (x0 : Int) (x1 : Int) (x2 : Int) : runF tab ext25 false 15 [] 2000 [] tys25 Try.f25.results [true] [.code b25] (entE 0 0 sig25 (x0, x1, x2, ())) (entL sig25 (x0, x1, x2, ())) = some ([Dyn.mk Ty.bool (Decidable.decide (x0 ≤ x2))], [], [Decidable.decide (x0 ≥ x1) = Bool.true]) := by kernel_rfl
theorem p25_1 (x0 : Int) (x1 : Int) (x2 : Int) : runF tab ext25 false 15 [] 2000 [] tys25 Try.f25.results [false] [.code b25] (entE 0 0 sig25 (x0, x1, x2, ())) (entL sig25 (x0, x1, x2, ())) = some ([Dyn.mk Ty.bool Bool.false], [], [Decidable.decide (x0 ≥ x1) = Bool.false]) := by kernel_rfl
theorem at25 (x0 : Int) (x1 : Int) (x2 : Int) (h : P25 x0 x1 x2) (w0 : World) (O : List Nat) (q : Nat → Value) : AtV Try.prog 25 (PostR [⟨Ty.bool, g25_0 x0 x1 x2⟩] [] [] q w0 O) 15 w0 O q [] [.code b25] (entE 0 0 sig25 (x0, x1, x2, ())) (entL sig25 (x0, x1, x2, ())) := by
  unfold P25 at h
  unfold g25_0
  by_cases b0 : (Decidable.decide (x0 ≥ x1)) = true
  · try simp only [if_pos b0] at h ⊢
    exact AtV.fin Try.func25 tabOk ext25Ok mixed (p25_0 x0 x1 x2) ⟨b0, trivial⟩
  · try simp only [if_neg b0] at h ⊢
    replace b0 := Bool.eq_false_iff.2 b0
    exact AtV.fin Try.func25 tabOk ext25Ok mixed (p25_1 x0 x1 x2) ⟨b0, trivial⟩

def S25 : Am.Spec := { sig := sig25, pre := fun ⟨x0, x1, x2, _⟩ => P25 x0 x1 x2, res := fun ⟨x0, x1, x2, _⟩ => [⟨Ty.bool, g25_0 x0 x1 x2⟩] }
theorem con25 : Contract Try.prog 25 S25 := contract_of Try.func25 hb25 (Nat.le_of_ble_eq_true (by kernel_rfl)) (fun ⟨x0, x1, x2, _⟩ h _ w0 O q => at25 x0 x1 x2 h w0 O q)


end Go.Proofs.Ytgbmdngcpcgaeaa

/- Function 19 (impl.isProblem): its runs between cut points. Written by a program of this repo (gen). -/
set_option linter.unusedVariables false
set_option linter.unusedSimpArgs false
set_option maxRecDepth 100000
namespace Go.Proofs.Ytgbmdngcpcgaeaa
open Go Go.Am Go.Proofs
def ext19 : Ext := [(25, S25)]
theorem call19_25 : Callable Try.prog 25 := ⟨Try.f25, Try.func25, by kernel_rfl, by kernel_rfl⟩
theorem ext19Ok : ExtOk Try.prog ext19 := ⟨⟨call19_25, con25⟩, trivial⟩
/-! Function 19. -/
noncomputable def b19 : Code := bodyOf Try.f19
theorem hb19 : Try.f19.body = some b19 := by kernel_rfl
def sig19 : List AT := [AT.v (Ty.int IntKind.i64)]
def tys19 : List Ty := [Ty.bool]
def P19 (x0 : Int) : Prop := True
def g19_0 (x0 : Int) : Bool := g25_0 x0 1 6
theorem p19_0 (x0 : Int) : runF tab ext19 false 5 [] 2000 [] tys19 Try.f19.results [] [.code b19] (entE 0 0 sig19 (x0, ())) (entL sig19 (x0, ())) = some ([Dyn.mk Ty.bool (g25_0 x0 1 6)], [], [True]) := by kernel_rfl
theorem at19 (x0 : Int) (h : P19 x0) (w0 : World) (O : List Nat) (q : Nat → Value) : AtV Try.prog 19 (PostR [⟨Ty.bool, g19_0 x0⟩] [] [] q w0 O) 5 w0 O q [] [.code b19] (entE 0 0 sig19 (x0, ())) (entL sig19 (x0, ())) := by
  unfold P19 at h
  unfold g19_0
  exact AtV.fin Try.func19 tabOk ext19Ok mixed (p19_0 x0) ⟨trivial, trivial⟩

def S19 : Am.Spec := { sig := sig19, pre := fun ⟨x0, _⟩ => P19 x0, res := fun ⟨x0, _⟩ => [⟨Ty.bool, g19_0 x0⟩] }
theorem con19 : Contract Try.prog 19 S19 := contract_of Try.func19 hb19 (Nat.le_of_ble_eq_true (by kernel_rfl)) (fun ⟨x0, _⟩ h _ w0 O q => at19 x0 h w0 O q)


end Go.Proofs.Ytgbmdngcpcgaeaa

/- Function 18 (impl.CountProblems$1): its runs between cut points. Written by a program of this repo (gen). -/
set_option linter.unusedVariables false
set_option linter.unusedSimpArgs false
set_option maxRecDepth 100000
namespace Go.Proofs.Ytgbmdngcpcgaeaa
open Go Go.Am Go.Proofs
def ext18 : Ext := [(19, S19)]
theorem call18_19 : Callable Try.prog 19 := ⟨Try.f19, Try.func19, by kernel_rfl, by kernel_rfl⟩
theorem ext18Ok : ExtOk Try.prog ext18 := ⟨⟨call18_19, con19⟩, trivial⟩
/-! Function 18. -/
noncomputable def b18 : Code := bodyOf Try.f18
theorem hb18 : Try.f18.body = some b18 := by kernel_rfl
def sig18 : List AT := [AT.v (Ty.cons (Ty.int IntKind.i64) (Ty.cons Ty.str (Ty.cons Ty.str Ty.unit)))]
def tys18 : List Ty := [Ty.bool]
def P18 (x0 : Int × ByteArray × ByteArray × Unit) : Prop := True
def g18_0 (x0 : Int × ByteArray × ByteArray × Unit) : Bool := !g19_0 (Prod.fst x0)
theorem p18_0 (x0 : Int × ByteArray × ByteArray × Unit) : runF tab ext18 false 7 [] 2000 [] tys18 Try.f18.results [] [.code b18] (entE 0 0 sig18 (x0, ())) (entL sig18 (x0, ())) = some ([Dyn.mk Ty.bool !g19_0 (Prod.fst x0)], [], [True]) := by kernel_rfl
theorem at18 (x0 : Int × ByteArray × ByteArray × Unit) (h : P18 x0) (w0 : World) (O : List Nat) (q : Nat → Value) : AtV Try.prog 18 (PostR [⟨Ty.bool, g18_0 x0⟩] [] [] q w0 O) 7 w0 O q [] [.code b18] (entE 0 0 sig18 (x0, ())) (entL sig18 (x0, ())) := by
  unfold P18 at h
  unfold g18_0
  exact AtV.fin Try.func18 tabOk ext18Ok mixed (p18_0 x0) ⟨trivial, trivial⟩

def S18 : Am.Spec := { sig := sig18, pre := fun ⟨x0, _⟩ => P18 x0, res := fun ⟨x0, _⟩ => [⟨Ty.bool, g18_0 x0⟩] }
theorem con18 : Contract Try.prog 18 S18 := contract_of Try.func18 hb18 (Nat.le_of_ble_eq_true (by kernel_rfl)) (fun ⟨x0, _⟩ h _ w0 O q => at18 x0 h w0 O q)


end Go.Proofs.Ytgbmdngcpcgaeaa

/- Function 24 (slices.IndexFunc[[]impl.Problem,impl.Problem]): its runs between cut points. Written by a program of this repo (gen). -/
set_option linter.unusedVariables false
set_option linter.unusedSimpArgs false
set_option maxRecDepth 100000
namespace Go.Proofs.Ytgbmdngcpcgaeaa
open Go Go.Am Go.Proofs
def ext24c18 : Ext := [(18, S18)]
theorem call24c18_18 : Callable Try.prog 18 := ⟨Try.f18, Try.func18, by kernel_rfl, by kernel_rfl⟩
theorem ext24c18Ok : ExtOk Try.prog ext24c18 := ⟨⟨call24c18_18, con18⟩, trivial⟩
/-! Function 24c18. -/
noncomputable def b24c18 : Code := bodyOf Try.f24
theorem hb24c18 : Try.f24.body = some b24c18 := by kernel_rfl
def sig24c18 : List AT := [AT.v (Ty.sl (Ty.cons (Ty.int IntKind.i64) (Ty.cons Ty.str (Ty.cons Ty.str Ty.unit)))), AT.fn 18 []]
def tys24c18 : List Ty := [Ty.int IntKind.i64]
def E24c18_2 (v8 : Int) (x0 : List (Int × ByteArray × ByteArray × Unit)) : Env := [(0, PV.a (Atom.sl (Ty.cons (Ty.int IntKind.i64) (Ty.cons Ty.str (Ty.cons Ty.str Ty.unit))) x0)), (1, PV.fn 18 []), (7, PV.a (Atom.val (Value.int IntKind.i64 (↑(List.length x0) : Int)))), (8, PV.a (Atom.val (Value.int IntKind.i64 v8)))]
def L24c18_2 (v8 : Int) (x0 : List (Int × ByteArray × ByteArray × Unit)) : Heap := []
mutual
def R24c18 : Nat → List (Int × ByteArray × ByteArray × Unit) → List Dyn → Prop
  | 0, _, _ => False
  | n + 1, x0, ds => (R24c18_2 n (0) (x0) ds)
def R24c18_2 : Nat → Int → List (Int × ByteArray × ByteArray × Unit) → List Dyn → Prop
  | 0, _, _, _ => False
  | n + 1, v8, x0, ds => (if (Decidable.decide (v8 < (↑(List.length x0) : Int))) = true then ((0 ≤ v8) ∧ (v8 < (↑(List.length x0) : Int)) ∧ (if (g18_0 (List.getD x0 (Int.toNat v8) (0, ByteArray.empty, ByteArray.empty, ()))) = true then (ds = [Dyn.mk (Ty.int IntKind.i64) v8]) else ((InR IntKind.i64 (v8 + 1)) ∧ (R24c18_2 n (v8 + 1) (x0) ds)))) else (ds = [Dyn.mk (Ty.int IntKind.i64) (-1)]))
end
theorem p24c18_0 (x0 : List (Int × ByteArray × ByteArray × Unit)) : Am.runN tab ext24c18 false 19 [] 2000 [] [] [0, 1, 7, 8] [] [] [.code b24c18] (entE 0 0 sig24c18 (x0, (), ())) (entL sig24c18 (x0, (), ())) = some (cutAt b24c18 2, E24c18_2 (0) (x0), L24c18_2 (0) (x0), []) := by kernel_rfl
theorem p24c18_1 (v8 : Int) (x0 : List (Int × ByteArray × ByteArray × Unit)) : runF tab ext24c18 false 19 [] 2000 [] tys24c18 Try.f24.results [true, true] (cutAt b24c18 2) (E24c18_2 v8 x0) (L24c18_2 v8 x0) = some ([Dyn.mk (Ty.int IntKind.i64) v8], [], [Decidable.decide (v8 < (↑(List.length x0) : Int)) = Bool.true, 0 ≤ v8, v8 < (↑(List.length x0) : Int), True, g18_0 (List.getD x0 (Int.toNat v8) (0, ByteArray.empty, ByteArray.empty, ())) = Bool.true]) := by kernel_rfl
theorem p24c18_2 (v8 : Int) (x0 : List (Int × ByteArray × ByteArray × Unit)) : Am.runN tab ext24c18 false 19 [] 2000 [] [] [0, 1, 7, 8] [] [true, false] (cutAt b24c18 2) (E24c18_2 v8 x0) (L24c18_2 v8 x0) = some (cutAt b24c18 2, E24c18_2 (v8 + 1) (x0), L24c18_2 (v8 + 1) (x0), [Decidable.decide (v8 < (↑(List.length x0) : Int)) = Bool.true, 0 ≤ v8, v8 < (↑(List.length x0) : Int), True, g18_0 (List.getD x0 (Int.toNat v8) (0, ByteArray.empty, ByteArray.empty, ())) = Bool.false, InR IntKind.i64 (v8 + 1)]) := by kernel_rfl
theorem p24c18_3 (v8 : Int) (x0 : List (Int × ByteArray × ByteArray × Unit)) : runF tab ext24c18 false 19 [] 2000 [] tys24c18 Try.f24.results [false] (cutAt b24c18 2) (E24c18_2 v8 x0) (L24c18_2 v8 x0) = some ([Dyn.mk (Ty.int IntKind.i64) (-1)], [], [Decidable.decide (v8 < (↑(List.length x0) : Int)) = Bool.false]) := by kernel_rfl
theorem snd24c18 : ∀ n, (∀ (x0 : List (Int × ByteArray × ByteArray × Unit)) ds, R24c18 n x0 ds → ∀ w0 O q, AtV Try.prog 24 (PostR ds [] [] q w0 O) 19 w0 O q [] [.code b24c18] (entE 0 0 sig24c18 (x0, (), ())) (entL sig24c18 (x0, (), ()))) ∧ (∀ (v8 : Int) (x0 : List (Int × ByteArray × ByteArray × Unit)) ds, R24c18_2 n v8 x0 ds → ∀ w0 O q, AtV Try.prog 24 (PostR ds [] [] q w0 O) 19 w0 O q [] (cutAt b24c18 2) (E24c18_2 v8 x0) (L24c18_2 v8 x0)) := by
  intro n
  induction n with
  | zero => exact ⟨fun _ _ h => by simp only [R24c18] at h, fun _ _ _ h => by simp only [R24c18_2] at h⟩
  | succ n ih =>
  obtain ⟨ih, ih2⟩ := ih
  refine ⟨?_, ?_⟩
  · intro x0 ds h w0 O q
    rw [R24c18] at h
    exact AtV.runN tabOk ext24c18Ok mixed (p24c18_0 x0) trivial (ih2 _ _ _ h w0 O q)

  · intro v8 x0 ds h w0 O q
    rw [R24c18_2] at h
    by_cases b0 : (Decidable.decide (v8 < (↑(List.length x0) : Int))) = true
    · rw [if_pos b0] at h
      obtain ⟨s0, s1, h⟩ := h
      by_cases b1 : (g18_0 (List.getD x0 (Int.toNat v8) (0, ByteArray.empty, ByteArray.empty, ()))) = true
      · rw [if_pos b1] at h
        subst h
        exact AtV.fin Try.func24 tabOk ext24c18Ok mixed (p24c18_1 v8 x0) ⟨b0, s0, s1, trivial, b1, trivial⟩
      · rw [if_neg b1] at h
        replace b1 := Bool.eq_false_iff.2 b1
        obtain ⟨s2, h⟩ := h
        exact AtV.runN tabOk ext24c18Ok mixed (p24c18_2 v8 x0) ⟨b0, s0, s1, trivial, b1, s2, trivial⟩ (ih2 _ _ _ h w0 O q)
    · rw [if_neg b0] at h
      replace b0 := Bool.eq_false_iff.2 b0
      subst h
      exact AtV.fin Try.func24 tabOk ext24c18Ok mixed (p24c18_3 v8 x0) ⟨b0, trivial⟩



def g24c18_0 (x0 : List (Int × ByteArray × ByteArray × Unit)) : Int := idx (x0.findIdx? g18_0)
def P24c18 (x0 : List (Int × ByteArray × ByteArray × Unit)) : Prop := True

theorem top24c18 (x0 : List (Int × ByteArray × ByteArray × Unit)) (hm : x0.length ≤ maxLen) : R24c18 (x0.length + 1 + 1) x0 [⟨.int .i64, g24c18_0 x0⟩] := by
  rw [R24c18]
  have key := loop_find x0 ((0 : Int), ByteArray.empty, ByteArray.empty, ()) g18_0 [(⟨.int .i64, -1⟩ : Dyn)] (fun k => [⟨.int .i64, k⟩]) (fun n i ds => R24c18_2 n i x0 ds) (fun n => ?_) (fun n i hi hok ds hr => ?_) (fun n i hi hok => ?_)
  · unfold g24c18_0
    cases h : x0.findIdx? g18_0 <;> rw [h] at key <;> exact key
  · rw [R24c18_2, if_neg (by simp)]
  · rw [R24c18_2, if_pos (by simp; omega)]
    simp only [Int.toNat_natCast]
    refine ⟨by omega, by omega, ?_⟩
    rw [if_neg (by rw [hok]; simp)]
    exact ⟨inR_up hm hi, hr⟩
  · rw [R24c18_2, if_pos (by simp; omega)]
    simp only [Int.toNat_natCast]
    refine ⟨by omega, by omega, ?_⟩
    rw [if_pos hok] <;> trivial

def S24c18 : Am.Spec := { sig := sig24c18, pre := fun ⟨x0, _⟩ => P24c18 x0, res := fun ⟨x0, _⟩ => [⟨Ty.int .i64, g24c18_0 x0⟩] }
theorem con24c18 : Contract Try.prog 24 S24c18 := contract_of Try.func24 hb24c18 (Nat.le_of_ble_eq_true (by kernel_rfl)) (fun ⟨x0, _⟩ h hwf w0 O q =>
  (snd24c18 _).1 x0 _ (top24c18 x0 hwf.1.1) w0 O q)

theorem any24c18 (x0 : List (Int × ByteArray × ByteArray × Unit)) : decide (g24c18_0 x0 ≥ 0) = x0.any g18_0 := by
  have := findIdx_any g18_0 x0
  unfold g24c18_0
  cases h : x0.any g18_0 with
  | true => rw [h] at this; simpa using this
  | false => rw [h] at this; simpa using this

end Go.Proofs.Ytgbmdngcpcgaeaa

/- Function 16 (slices.DeleteFunc[[]impl.Problem,impl.Problem]): its runs between cut points. Written by a program of this repo (gen). -/
set_option linter.unusedVariables false
set_option linter.unusedSimpArgs false
set_option maxRecDepth 100000
namespace Go.Proofs.Ytgbmdngcpcgaeaa
open Go Go.Am Go.Proofs
def ext16c18 : Ext := [(24, S24c18), (18, S18)]
theorem call16c18_24 : Callable Try.prog 24 := ⟨Try.f24, Try.func24, by kernel_rfl, by kernel_rfl⟩
theorem call16c18_18 : Callable Try.prog 18 := ⟨Try.f18, Try.func18, by kernel_rfl, by kernel_rfl⟩
theorem ext16c18Ok : ExtOk Try.prog ext16c18 := ⟨⟨call16c18_24, con24c18⟩, ⟨call16c18_18, con18⟩, trivial⟩
/-! Function 16c18. -/
noncomputable def b16c18 : Code := bodyOf Try.f16
theorem hb16c18 : Try.f16.body = some b16c18 := by kernel_rfl
def sig16c18 : List AT := [AT.own (Ty.cons (Ty.int IntKind.i64) (Ty.cons Ty.str (Ty.cons Ty.str Ty.unit))), AT.fn 18 []]
def tys16c18 : List Ty := [Ty.sl (Ty.cons (Ty.int IntKind.i64) (Ty.cons Ty.str (Ty.cons Ty.str Ty.unit)))]
def E16c18_5 (v5 : Int) (v6 : Int) (x0 : List (Int × ByteArray × ByteArray × Unit)) : Env := [(0, PV.a (Atom.osl 0 Option.none)), (1, PV.fn 18 []), (5, PV.a (Atom.val (Value.int IntKind.i64 v5))), (6, PV.a (Atom.val (Value.int IntKind.i64 v6)))]
def L16c18_5 (v5 : Int) (v6 : Int) (x0 : List (Int × ByteArray × ByteArray × Unit)) : Heap := [Option.some (Arr.mk (Ty.cons (Ty.int IntKind.i64) (Ty.cons Ty.str (Ty.cons Ty.str Ty.unit))) x0 Bool.false)]
mutual
def R16c18 : Nat → List (Int × ByteArray × ByteArray × Unit) → List Dyn → List (Option Lst) → Prop
  | 0, _, _, _ => False
  | n + 1, x0, ds, us => (if (g24c18_0 x0 == -1) = true then (ds = [Dyn.mk (Ty.sl (Ty.cons (Ty.int IntKind.i64) (Ty.cons Ty.str (Ty.cons Ty.str Ty.unit)))) x0] ∧ us = [Option.none]) else ((InR IntKind.i64 (g24c18_0 x0 + 1)) ∧ (R16c18_5 n (g24c18_0 x0) (g24c18_0 x0 + 1) (x0) ds us)))
def R16c18_5 : Nat → Int → Int → List (Int × ByteArray × ByteArray × Unit) → List Dyn → List (Option Lst) → Prop
  | 0, _, _, _, _, _ => False
  | n + 1, v5, v6, x0, ds, us => (if (Decidable.decide (v6 < (↑(List.length x0) : Int))) = true then ((0 ≤ v6) ∧ (v6 < (↑(List.length x0) : Int)) ∧ (if (!g18_0 (List.getD x0 (Int.toNat v6) (0, ByteArray.empty, ByteArray.empty, ()))) = true then ((0 ≤ v5) ∧ (v5 < (↑(List.length x0) : Int)) ∧ ((InR IntKind.i64 (v5 + 1)) ∧ ((InR IntKind.i64 (v6 + 1)) ∧ (R16c18_5 n (v5 + 1) (v6 + 1) (List.set x0 (Int.toNat v5) (List.getD x0 (Int.toNat v6) (0, ByteArray.empty, ByteArray.empty, ()))) ds us)))) else ((InR IntKind.i64 (v6 + 1)) ∧ (R16c18_5 n (v5) (v6 + 1) (x0) ds us)))) else ((0 ≤ v5) ∧ (v5 ≤ (↑(List.length x0 - 0) : Int)) ∧ ((0 ≤ v5) ∧ (v5 ≤ (↑(List.length (List.take (0 + Int.toNat v5) x0 ++ List.replicate (0 + Int.toNat (↑(List.length x0 - 0) : Int) - (0 + Int.toNat v5)) (0, ByteArray.empty, ByteArray.empty, ()) ++ List.drop (0 + Int.toNat (↑(List.length x0 - 0) : Int)) x0) - 0) : Int)) ∧ (ds = [Dyn.mk (Ty.sl (Ty.cons (Ty.int IntKind.i64) (Ty.cons Ty.str (Ty.cons Ty.str Ty.unit)))) (List.drop 0 (List.take (0 + Int.toNat v5) (List.take (0 + Int.toNat v5) x0 ++ List.replicate (0 + Int.toNat (↑(List.length x0 - 0) : Int) - (0 + Int.toNat v5)) (0, ByteArray.empty, ByteArray.empty, ()) ++ List.drop (0 + Int.toNat (↑(List.length x0 - 0) : Int)) x0)))] ∧ us = [Option.none]))))
end
theorem p16c18_0 (x0 : List (Int × ByteArray × ByteArray × Unit)) : runF tab ext16c18 false 42 [] 2000 [0] tys16c18 Try.f16.results [true] [.code b16c18] (entE 0 0 sig16c18 (x0, (), ())) (entL sig16c18 (x0, (), ())) = some ([Dyn.mk (Ty.sl (Ty.cons (Ty.int IntKind.i64) (Ty.cons Ty.str (Ty.cons Ty.str Ty.unit)))) x0], [Option.none], [True, (g24c18_0 x0 == -1) = Bool.true]) := by kernel_rfl
theorem p16c18_1 (x0 : List (Int × ByteArray × ByteArray × Unit)) : Am.runN tab ext16c18 false 42 [] 2000 [0] [] [0, 1, 5, 6] [0] [false] [.code b16c18] (entE 0 0 sig16c18 (x0, (), ())) (entL sig16c18 (x0, (), ())) = some (cutAt b16c18 5, E16c18_5 (g24c18_0 x0) (g24c18_0 x0 + 1) (x0), L16c18_5 (g24c18_0 x0) (g24c18_0 x0 + 1) (x0), [True, (g24c18_0 x0 == -1) = Bool.false, InR IntKind.i64 (g24c18_0 x0 + 1)]) := by kernel_rfl
theorem p16c18_2 (v5 : Int) (v6 : Int) (x0 : List (Int × ByteArray × ByteArray × Unit)) : Am.runN tab ext16c18 false 42 [] 2000 [0] [] [0, 1, 5, 6] [0] [true, true] (cutAt b16c18 5) (E16c18_5 v5 v6 x0) (L16c18_5 v5 v6 x0) = some (cutAt b16c18 5, E16c18_5 (v5 + 1) (v6 + 1) (List.set x0 (Int.toNat v5) (List.getD x0 (Int.toNat v6) (0, ByteArray.empty, ByteArray.empty, ()))), L16c18_5 (v5 + 1) (v6 + 1) (List.set x0 (Int.toNat v5) (List.getD x0 (Int.toNat v6) (0, ByteArray.empty, ByteArray.empty, ()))), [Decidable.decide (v6 < (↑(List.length x0) : Int)) = Bool.true, 0 ≤ v6, v6 < (↑(List.length x0) : Int), True, (!g18_0 (List.getD x0 (Int.toNat v6) (0, ByteArray.empty, ByteArray.empty, ()))) = Bool.true, 0 ≤ v5, v5 < (↑(List.length x0) : Int), InR IntKind.i64 (v5 + 1), InR IntKind.i64 (v6 + 1)]) := by kernel_rfl
theorem p16c18_3 (v5 : Int) (v6 : Int) (x0 : List (Int × ByteArray × ByteArray × Unit)) : Am.runN tab ext16c18 false 42 [] 2000 [0] [] [0, 1, 5, 6] [0] [true, false] (cutAt b16c18 5) (E16c18_5 v5 v6 x0) (L16c18_5 v5 v6 x0) = some (cutAt b16c18 5, E16c18_5 (v5) (v6 + 1) (x0), L16c18_5 (v5) (v6 + 1) (x0), [Decidable.decide (v6 < (↑(List.length x0) : Int)) = Bool.true, 0 ≤ v6, v6 < (↑(List.length x0) : Int), True, (!g18_0 (List.getD x0 (Int.toNat v6) (0, ByteArray.empty, ByteArray.empty, ()))) = Bool.false, InR IntKind.i64 (v6 + 1)]) := by kernel_rfl
theorem p16c18_4 (v5 : Int) (v6 : Int) (x0 : List (Int × ByteArray × ByteArray × Unit)) : runF tab ext16c18 false 42 [] 2000 [0] tys16c18 Try.f16.results [false] (cutAt b16c18 5) (E16c18_5 v5 v6 x0) (L16c18_5 v5 v6 x0) = some ([Dyn.mk (Ty.sl (Ty.cons (Ty.int IntKind.i64) (Ty.cons Ty.str (Ty.cons Ty.str Ty.unit)))) (List.drop 0 (List.take (0 + Int.toNat v5) (List.take (0 + Int.toNat v5) x0 ++ List.replicate (0 + Int.toNat (↑(List.length x0 - 0) : Int) - (0 + Int.toNat v5)) (0, ByteArray.empty, ByteArray.empty, ()) ++ List.drop (0 + Int.toNat (↑(List.length x0 - 0) : Int)) x0)))], [Option.none], [Decidable.decide (v6 < (↑(List.length x0) : Int)) = Bool.false, 0 ≤ v5, v5 ≤ (↑(List.length x0 - 0) : Int), 0 ≤ v5, v5 ≤ (↑(List.length (List.take (0 + Int.toNat v5) x0 ++ List.replicate (0 + Int.toNat (↑(List.length x0 - 0) : Int) - (0 + Int.toNat v5)) (0, ByteArray.empty, ByteArray.empty, ()) ++ List.drop (0 + Int.toNat (↑(List.length x0 - 0) : Int)) x0) - 0) : Int)]) := by kernel_rfl
theorem snd16c18 : ∀ n, (∀ (x0 : List (Int × ByteArray × ByteArray × Unit)) ds us, R16c18 n x0 ds us → ∀ w0 O q, AtV Try.prog 16 (PostR ds us [0] q w0 O) 42 w0 O q [0] [.code b16c18] (entE 0 0 sig16c18 (x0, (), ())) (entL sig16c18 (x0, (), ()))) ∧ (∀ (v5 : Int) (v6 : Int) (x0 : List (Int × ByteArray × ByteArray × Unit)) ds us, R16c18_5 n v5 v6 x0 ds us → ∀ w0 O q, AtV Try.prog 16 (PostR ds us [0] q w0 O) 42 w0 O q [0] (cutAt b16c18 5) (E16c18_5 v5 v6 x0) (L16c18_5 v5 v6 x0)) := by
  intro n
  induction n with
  | zero => exact ⟨fun _ _ _ h => by simp only [R16c18] at h, fun _ _ _ _ _ h => by simp only [R16c18_5] at h⟩
  | succ n ih =>
  obtain ⟨ih, ih5⟩ := ih
  refine ⟨?_, ?_⟩
  · intro x0 ds us h w0 O q
    rw [R16c18] at h
    by_cases b0 : (g24c18_0 x0 == -1) = true
    · rw [if_pos b0] at h
      obtain ⟨h, h'⟩ := h; subst h; subst h'
      exact AtV.fin Try.func16 tabOk ext16c18Ok mixed (p16c18_0 x0) ⟨trivial, b0, trivial⟩
    · rw [if_neg b0] at h
      replace b0 := Bool.eq_false_iff.2 b0
      obtain ⟨s0, h⟩ := h
      exact AtV.runN tabOk ext16c18Ok mixed (p16c18_1 x0) ⟨trivial, b0, s0, trivial⟩ (ih5 _ _ _ _ _ h w0 O q)

  · intro v5 v6 x0 ds us h w0 O q
    rw [R16c18_5] at h
    by_cases b0 : (Decidable.decide (v6 < (↑(List.length x0) : Int))) = true
    · rw [if_pos b0] at h
      obtain ⟨s0, s1, h⟩ := h
      by_cases b1 : (!g18_0 (List.getD x0 (Int.toNat v6) (0, ByteArray.empty, ByteArray.empty, ()))) = true
      · rw [if_pos b1] at h
        obtain ⟨s2, s3, h⟩ := h
        obtain ⟨s4, h⟩ := h
        obtain ⟨s5, h⟩ := h
        exact AtV.runN tabOk ext16c18Ok mixed (p16c18_2 v5 v6 x0) ⟨b0, s0, s1, trivial, b1, s2, s3, s4, s5, trivial⟩ (ih5 _ _ _ _ _ h w0 O q)
      · rw [if_neg b1] at h
        replace b1 := Bool.eq_false_iff.2 b1
        obtain ⟨s2, h⟩ := h
        exact AtV.runN tabOk ext16c18Ok mixed (p16c18_3 v5 v6 x0) ⟨b0, s0, s1, trivial, b1, s2, trivial⟩ (ih5 _ _ _ _ _ h w0 O q)
    · rw [if_neg b0] at h
      replace b0 := Bool.eq_false_iff.2 b0
      obtain ⟨s0, s1, h⟩ := h
      obtain ⟨s2, s3, h⟩ := h
      obtain ⟨h, h'⟩ := h; subst h; subst h'
      exact AtV.fin Try.func16 tabOk ext16c18Ok mixed (p16c18_4 v5 v6 x0) ⟨b0, s0, s1, s2, s3, trivial⟩



def g16c18_0 (x0 : List (Int × ByteArray × ByteArray × Unit)) : List (Int × ByteArray × ByteArray × Unit) := x0.filter fun x => !g18_0 x
def P16c18 (x0 : List (Int × ByteArray × ByteArray × Unit)) : Prop := True

theorem run16c18 : ∀ (k i j : Nat) (h : List (Int × ByteArray × ByteArray × Unit)), j + k = h.length → i ≤ j → h.length ≤ maxLen →
    R16c18_5 (k + 1) (i : Int) (j : Int) h [⟨.sl (Ty.cons (Ty.int IntKind.i64) (Ty.cons Ty.str (Ty.cons Ty.str Ty.unit))), h.take i ++ (h.drop j).filter fun x => !g18_0 x⟩] [none] := by
  intro k
  induction k with
  | zero =>
    intro i j h hj hi hm
    rw [R16c18_5, if_neg (by simp; omega)]
    have e : (h.drop j) = [] := List.drop_eq_nil_iff.2 (by omega)
    rw [e]
    simp only [Int.toNat_natCast, Nat.zero_add, List.drop_zero, List.filter_nil, List.append_nil]
    refine ⟨by omega, by simp; omega, by omega, ?_, ?_, trivial⟩
    · simp; omega
    · have e2 : List.take i (List.take i h ++ List.replicate (h.length - 0 - i) ((0 : Int), ByteArray.empty, ByteArray.empty, ()) ++ List.drop (h.length - 0) h) = List.take i h := by
        rw [List.append_assoc, List.take_append_of_le_length (by simp; omega), List.take_take, Nat.min_self]
      rw [e2]
  | succ k ih =>
    intro i j h hj hi hm
    have hlt : j < h.length := by omega
    rw [R16c18_5, if_pos (by simp; omega)]
    simp only [Int.toNat_natCast]
    refine ⟨by omega, by omega, ?_⟩
    have hd : h.drop j = h.getD j ((0 : Int), ByteArray.empty, ByteArray.empty, ()) :: h.drop (j + 1) := drop_get h j _ hlt
    have up : InR .i64 ((j : Int) + 1) := inR_up hm hlt
    by_cases hk : (!g18_0 (h.getD j ((0 : Int), ByteArray.empty, ByteArray.empty, ()))) = true
    · rw [if_pos hk]
      have hset : (h.set i (h.getD j ((0 : Int), ByteArray.empty, ByteArray.empty, ()))).length = h.length := List.length_set
      have := ih (i + 1) (j + 1) (h.set i (h.getD j ((0 : Int), ByteArray.empty, ByteArray.empty, ()))) (by omega) (by omega) (by omega)
      refine ⟨by omega, by omega, inR_up hm (by omega), up, ?_⟩
      have e1 : (h.set i (h.getD j ((0 : Int), ByteArray.empty, ByteArray.empty, ()))).take (i + 1) = h.take i ++ [h.getD j ((0 : Int), ByteArray.empty, ByteArray.empty, ())] := by
        rw [List.take_add_one, List.take_set_of_le (Nat.le_refl _), List.getElem?_set_self (by omega)]; rfl
      have e2 : (h.set i (h.getD j ((0 : Int), ByteArray.empty, ByteArray.empty, ()))).drop (j + 1) = h.drop (j + 1) := List.drop_set_of_lt (by omega)
      rw [e1, e2] at this
      rw [hd, List.filter_cons, if_pos hk]
      simpa using this
    · rw [if_neg hk]
      have := ih i (j + 1) h (by omega) (by omega) hm
      refine ⟨up, ?_⟩
      rw [hd, List.filter_cons, if_neg hk]
      simpa using this

theorem split16c18 : ∀ (x0 : List (Int × ByteArray × ByteArray × Unit)), match x0.findIdx? g18_0 with
    | none => g16c18_0 x0 = x0
    | some i => i < x0.length ∧ g16c18_0 x0 = x0.take i ++ (x0.drop (i + 1)).filter fun x => !g18_0 x
  | [] => rfl
  | x :: r => by
    have ih := split16c18 r
    rw [List.findIdx?_cons]
    unfold g16c18_0 at ih ⊢
    cases hx : g18_0 x with
    | true => simp [hx]
    | false =>
      simp only [Bool.false_eq_true, if_false]
      cases hf : r.findIdx? g18_0 with
      | none =>
        rw [hf] at ih
        simp only at ih
        simp [hx, ih]
      | some i =>
        rw [hf] at ih
        simp only at ih
        obtain ⟨h1, h2⟩ := ih
        refine ⟨by simp; omega, ?_⟩
        simp [hx, h2]

theorem top16c18 (x0 : List (Int × ByteArray × ByteArray × Unit)) (hm : x0.length ≤ maxLen) : ∃ n, R16c18 n x0 [⟨.sl (Ty.cons (Ty.int IntKind.i64) (Ty.cons Ty.str (Ty.cons Ty.str Ty.unit))), g16c18_0 x0⟩] [none] := by
  have hs := split16c18 x0
  cases hf : x0.findIdx? g18_0 with
  | none =>
    rw [hf] at hs
    simp only at hs
    refine ⟨1, ?_⟩
    rw [R16c18, if_pos (by simp [g24c18_0, hf, idx]), hs]
    exact ⟨rfl, rfl⟩
  | some i =>
    rw [hf] at hs
    simp only at hs
    obtain ⟨h1, h2⟩ := hs
    have hg : g24c18_0 x0 = (i : Int) := by simp [g24c18_0, hf, idx]
    refine ⟨(x0.length - (i + 1)) + 1 + 1, ?_⟩
    rw [R16c18, hg, if_neg (by simp)]
    refine ⟨inR_up hm h1, ?_⟩
    have := run16c18 (x0.length - (i + 1)) i (i + 1) x0 (by omega) (by omega) hm
    rw [h2]
    simpa using this

def S16c18 : Am.Spec := { sig := sig16c18, pre := fun ⟨x0, _⟩ => P16c18 x0, upd := fun _ => [none], res := fun ⟨x0, _⟩ => [⟨.sl (Ty.cons (Ty.int IntKind.i64) (Ty.cons Ty.str (Ty.cons Ty.str Ty.unit))), g16c18_0 x0⟩] }
theorem con16c18 : Contract Try.prog 16 S16c18 := contract_of Try.func16 hb16c18 (Nat.le_of_ble_eq_true (by kernel_rfl)) (fun ⟨x0, _⟩ h hwf w0 O q => by
  obtain ⟨n, hn⟩ := top16c18 x0 hwf.1.1
  exact (snd16c18 n).1 x0 _ _ hn w0 O q)

end Go.Proofs.Ytgbmdngcpcgaeaa

/- Function 7 (impl.CountProblems): its runs between cut points. Written by a program of this repo (gen). -/
set_option linter.unusedVariables false
set_option linter.unusedSimpArgs false
set_option maxRecDepth 100000
namespace Go.Proofs.Ytgbmdngcpcgaeaa
open Go Go.Am Go.Proofs
def ext7 : Ext := [(17, S17), (20, S20), (16, S16c18)]
theorem call7_17 : Callable Try.prog 17 := ⟨Try.f17, Try.func17, by kernel_rfl, by kernel_rfl⟩
theorem call7_20 : Callable Try.prog 20 := ⟨Try.f20, Try.func20, by kernel_rfl, by kernel_rfl⟩
theorem call7_16 : Callable Try.prog 16 := ⟨Try.f16, Try.func16, by kernel_rfl, by kernel_rfl⟩
theorem ext7Ok : ExtOk Try.prog ext7 := ⟨⟨call7_17, con17⟩, ⟨call7_20, con20⟩, ⟨call7_16, con16c18⟩, trivial⟩
/-! Function 7. -/
noncomputable def b7 : Code := bodyOf Try.f7
theorem hb7 : Try.f7.body = some b7 := by kernel_rfl
def sig7 : List AT := [AT.v (Ty.sl (Ty.cons (Ty.int IntKind.i64) (Ty.cons Ty.str (Ty.cons Ty.str Ty.unit))))]
def tys7 : List Ty := [Ty.sl (Ty.int IntKind.i64)]
def E7_5 (v17 : Int) (h0 : List Int) (x0 : List (Int × ByteArray × ByteArray × Unit)) : Env := [(4, PV.a (Atom.osl 0 Option.none)), (15, PV.a (Atom.osl 1 Option.none)), (16, PV.a (Atom.val (Value.int IntKind.i64 (↑(List.length (g16c18_0 (g17_0 x0))) : Int)))), (17, PV.a (Atom.val (Value.int IntKind.i64 v17)))]
def L7_5 (v17 : Int) (h0 : List Int) (x0 : List (Int × ByteArray × ByteArray × Unit)) : Heap := [Option.some (Arr.mk (Ty.int IntKind.i64) h0 Bool.false), Option.some (Arr.mk (Ty.cons (Ty.int IntKind.i64) (Ty.cons Ty.str (Ty.cons Ty.str Ty.unit))) (g16c18_0 (g17_0 x0)) Bool.false)]
mutual
def R7 : Nat → List (Int × ByteArray × ByteArray × Unit) → List Dyn → Prop
  | 0, _, _ => False
  | n + 1, x0, ds => ((P17 x0) ∧ (R7_5 n (0) ([g20_0 (g16c18_0 (g17_0 x0)), 0, 0, 0, 0, 0, 0]) (x0) ds))
def R7_5 : Nat → Int → List Int → List (Int × ByteArray × ByteArray × Unit) → List Dyn → Prop
  | 0, _, _, _, _ => False
  | n + 1, v17, h0, x0, ds => (if (Decidable.decide (v17 < (↑(List.length (g16c18_0 (g17_0 x0))) : Int))) = true then ((0 ≤ v17) ∧ (v17 < (↑(List.length (g16c18_0 (g17_0 x0))) : Int)) ∧ ((0 ≤ Prod.fst (List.getD (g16c18_0 (g17_0 x0)) (Int.toNat v17) (0, ByteArray.empty, ByteArray.empty, ()))) ∧ (Prod.fst (List.getD (g16c18_0 (g17_0 x0)) (Int.toNat v17) (0, ByteArray.empty, ByteArray.empty, ())) < (↑(List.length h0) : Int)) ∧ ((InR IntKind.i64 (List.getD h0 (Int.toNat (Prod.fst (List.getD (g16c18_0 (g17_0 x0)) (Int.toNat v17) (0, ByteArray.empty, ByteArray.empty, ())))) 0 + 1)) ∧ ((0 ≤ Prod.fst (List.getD (g16c18_0 (g17_0 x0)) (Int.toNat v17) (0, ByteArray.empty, ByteArray.empty, ()))) ∧ (Prod.fst (List.getD (g16c18_0 (g17_0 x0)) (Int.toNat v17) (0, ByteArray.empty, ByteArray.empty, ())) < (↑(List.length h0) : Int)) ∧ ((InR IntKind.i64 (v17 + 1)) ∧ (R7_5 n (v17 + 1) (List.set h0 (Int.toNat (Prod.fst (List.getD (g16c18_0 (g17_0 x0)) (Int.toNat v17) (0, ByteArray.empty, ByteArray.empty, ())))) (List.getD h0 (Int.toNat (Prod.fst (List.getD (g16c18_0 (g17_0 x0)) (Int.toNat v17) (0, ByteArray.empty, ByteArray.empty, ())))) 0 + 1)) (x0) ds)))))) else (ds = [Dyn.mk (Ty.sl (Ty.int IntKind.i64)) h0]))
end
theorem p7_0 (x0 : List (Int × ByteArray × ByteArray × Unit)) : Am.runN tab ext7 false 30 [] 2000 [] [] [4, 15, 16, 17] [2, 1] [] [.code b7] (entE 0 0 sig7 (x0, ())) (entL sig7 (x0, ())) = some (cutAt b7 5, E7_5 (0) ([g20_0 (g16c18_0 (g17_0 x0)), 0, 0, 0, 0, 0, 0]) (x0), L7_5 (0) ([g20_0 (g16c18_0 (g17_0 x0)), 0, 0, 0, 0, 0, 0]) (x0), [P17 x0, True, (0 : Int) ≤ (7 : Int), (7 : Int) ≤ (7 : Int), (56 : Int) ≤ (281474976710656 : Int), True, (0 : Int) ≤ (0 : Int), (0 : Int) < (7 : Int)]) := by kernel_rfl
theorem p7_1 (v17 : Int) (h0 : List Int) (x0 : List (Int × ByteArray × ByteArray × Unit)) : Am.runN tab ext7 false 30 [] 2000 [] [] [4, 15, 16, 17] [0, 1] [true] (cutAt b7 5) (E7_5 v17 h0 x0) (L7_5 v17 h0 x0) = some (cutAt b7 5, E7_5 (v17 + 1) (List.set h0 (Int.toNat (Prod.fst (List.getD (g16c18_0 (g17_0 x0)) (Int.toNat v17) (0, ByteArray.empty, ByteArray.empty, ())))) (List.getD h0 (Int.toNat (Prod.fst (List.getD (g16c18_0 (g17_0 x0)) (Int.toNat v17) (0, ByteArray.empty, ByteArray.empty, ())))) 0 + 1)) (x0), L7_5 (v17 + 1) (List.set h0 (Int.toNat (Prod.fst (List.getD (g16c18_0 (g17_0 x0)) (Int.toNat v17) (0, ByteArray.empty, ByteArray.empty, ())))) (List.getD h0 (Int.toNat (Prod.fst (List.getD (g16c18_0 (g17_0 x0)) (Int.toNat v17) (0, ByteArray.empty, ByteArray.empty, ())))) 0 + 1)) (x0), [Decidable.decide (v17 < (↑(List.length (g16c18_0 (g17_0 x0))) : Int)) = Bool.true, 0 ≤ v17, v17 < (↑(List.length (g16c18_0 (g17_0 x0))) : Int), 0 ≤ Prod.fst (List.getD (g16c18_0 (g17_0 x0)) (Int.toNat v17) (0, ByteArray.empty, ByteArray.empty, ())), Prod.fst (List.getD (g16c18_0 (g17_0 x0)) (Int.toNat v17) (0, ByteArray.empty, ByteArray.empty, ())) < (↑(List.length h0) : Int), InR IntKind.i64 (List.getD h0 (Int.toNat (Prod.fst (List.getD (g16c18_0 (g17_0 x0)) (Int.toNat v17) (0, ByteArray.empty, ByteArray.empty, ())))) 0 + 1), 0 ≤ Prod.fst (List.getD (g16c18_0 (g17_0 x0)) (Int.toNat v17) (0, ByteArray.empty, ByteArray.empty, ())), Prod.fst (List.getD (g16c18_0 (g17_0 x0)) (Int.toNat v17) (0, ByteArray.empty, ByteArray.empty, ())) < (↑(List.length h0) : Int), InR IntKind.i64 (v17 + 1)]) := by kernel_rfl
theorem p7_2 (v17 : Int) (h0 : List Int) (x0 : List (Int × ByteArray × ByteArray × Unit)) : runF tab ext7 false 30 [] 2000 [] tys7 Try.f7.results [false] (cutAt b7 5) (E7_5 v17 h0 x0) (L7_5 v17 h0 x0) = some ([Dyn.mk (Ty.sl (Ty.int IntKind.i64)) h0], [], [Decidable.decide (v17 < (↑(List.length (g16c18_0 (g17_0 x0))) : Int)) = Bool.false]) := by kernel_rfl
theorem snd7 : ∀ n, (∀ (x0 : List (Int × ByteArray × ByteArray × Unit)) ds, R7 n x0 ds → ∀ w0 O q, AtV Try.prog 7 (PostR ds [] [] q w0 O) 30 w0 O q [] [.code b7] (entE 0 0 sig7 (x0, ())) (entL sig7 (x0, ()))) ∧ (∀ (v17 : Int) (h0 : List Int) (x0 : List (Int × ByteArray × ByteArray × Unit)) ds, R7_5 n v17 h0 x0 ds → ∀ w0 O q, AtV Try.prog 7 (PostR ds [] [] q w0 O) 30 w0 O q [] (cutAt b7 5) (E7_5 v17 h0 x0) (L7_5 v17 h0 x0)) := by
  intro n
  induction n with
  | zero => exact ⟨fun _ _ h => by simp only [R7] at h, fun _ _ _ _ h => by simp only [R7_5] at h⟩
  | succ n ih =>
  obtain ⟨ih, ih5⟩ := ih
  refine ⟨?_, ?_⟩
  · intro x0 ds h w0 O q
    rw [R7] at h
    obtain ⟨s0, h⟩ := h
    exact AtV.runN tabOk ext7Ok mixed (p7_0 x0) ⟨s0, trivial, (by decide), (by decide), (by decide), trivial, (by decide), (by decide), trivial⟩ (ih5 _ _ _ _ h w0 O q)

  · intro v17 h0 x0 ds h w0 O q
    rw [R7_5] at h
    by_cases b0 : (Decidable.decide (v17 < (↑(List.length (g16c18_0 (g17_0 x0))) : Int))) = true
    · rw [if_pos b0] at h
      obtain ⟨s0, s1, h⟩ := h
      obtain ⟨s2, s3, h⟩ := h
      obtain ⟨s4, h⟩ := h
      obtain ⟨s5, s6, h⟩ := h
      obtain ⟨s7, h⟩ := h
      exact AtV.runN tabOk ext7Ok mixed (p7_1 v17 h0 x0) ⟨b0, s0, s1, s2, s3, s4, s5, s6, s7, trivial⟩ (ih5 _ _ _ _ h w0 O q)
    · rw [if_neg b0] at h
      replace b0 := Bool.eq_false_iff.2 b0
      subst h
      exact AtV.fin Try.func7 tabOk ext7Ok mixed (p7_2 v17 h0 x0) ⟨b0, trivial⟩



def known7 (x0 : List (Int × ByteArray × ByteArray × Unit)) : List (Int × ByteArray × ByteArray × Unit) := g16c18_0 (g17_0 x0)
def g7_0 (x0 : List (Int × ByteArray × ByteArray × Unit)) : List Int := (known7 x0).foldl (fun h x => bump1 h x.1) [g20_0 (known7 x0), 0, 0, 0, 0, 0, 0]
def P7 (x0 : List (Int × ByteArray × ByteArray × Unit)) : Prop := x0.length ≤ 1048576

theorem kind7 (k : Int) : g19_0 k = true ↔ 1 ≤ k ∧ k ≤ 6 := by
  unfold g19_0 g25_0
  by_cases h : 1 ≤ k
  · rw [if_pos (by simpa using h)]; simp [h]
  · rw [if_neg (by simpa using h)]; simp [h]

theorem known_eq7 (x0 : List (Int × ByteArray × ByteArray × Unit)) : known7 x0 = x0.filter fun x => g19_0 x.1 := by
  unfold known7 g16c18_0 g17_0 g18_0
  simp

def Inv7 (i : Nat) (h : List Int) : Prop := h.length = 7 ∧ ∀ c ∈ h, 0 ≤ c ∧ c ≤ ((1048576 + i : Nat) : Int)

theorem top7 (x0 : List (Int × ByteArray × ByteArray × Unit)) (hm0 : x0.length ≤ 1048576) : ∃ n, R7 n x0 [⟨.sl (.int .i64), g7_0 x0⟩] := by
  have hkl : (known7 x0).length ≤ 1048576 := by
    rw [known_eq7]
    exact Nat.le_trans (List.length_filter_le _ _) hm0
  have hkk : ∀ x ∈ known7 x0, 1 ≤ x.1 ∧ x.1 ≤ 6 := by
    intro x hx
    rw [known_eq7] at hx
    exact (kind7 _).1 (List.mem_filter.1 hx).2
  have hm : (known7 x0).length ≤ maxLen := by unfold maxLen; omega
  refine ⟨(known7 x0).length + 1 + 1, ?_⟩
  rw [R7]
  refine ⟨hm0, ?_⟩
  refine loop_fold (b := [g20_0 (known7 x0), 0, 0, 0, 0, 0, 0]) (known7 x0) ((0 : Int), ByteArray.empty, ByteArray.empty, ()) (fun h x => bump1 h x.1) (fun h => [(⟨.sl (.int .i64), h⟩ : Dyn)]) Inv7 (fun n i h ds => R7_5 n i h x0 ds) ⟨rfl, ?_⟩ (fun n h hh => ?_) (fun n i h hi hh => ?_)
  · intro c hc
    unfold g20_0 at hc
    simp only [List.mem_cons, List.not_mem_nil, or_false] at hc
    omega
  · show R7_5 (n + 1) (known7 x0).length h x0 _
    rw [R7_5, if_neg (by simp [known7])]
  · obtain ⟨h7, hc⟩ := hh
    have hmem := hkk _ (mem_getD (known7 x0) i ((0 : Int), ByteArray.empty, ByteArray.empty, ()) hi)
    show Inv7 (i + 1) (bump1 h ((known7 x0).getD i ((0 : Int), ByteArray.empty, ByteArray.empty, ())).1) ∧ _
    have hx : List.getD (g16c18_0 (g17_0 x0)) i ((0 : Int), ByteArray.empty, ByteArray.empty, ()) = (known7 x0).getD i ((0 : Int), ByteArray.empty, ByteArray.empty, ()) := rfl
    have hl : List.length (g16c18_0 (g17_0 x0)) = (known7 x0).length := rfl
    generalize (known7 x0).getD i ((0 : Int), ByteArray.empty, ByteArray.empty, ()) = x at *
    obtain ⟨k1, k6⟩ := hmem
    have hc1 := bump1_all hc x.1
    refine ⟨⟨by rw [bump1_length]; exact h7, fun c hm' => by have := hc1 c hm'; omega⟩, fun ds hr => ?_⟩
    rw [R7_5]
    simp only [Int.toNat_natCast, hx, hl]
    rw [if_pos (by simp; omega)]
    have b1 := getD_all (by omega) hc x.1.toNat
    exact ⟨by omega, by omega, by omega, by rw [h7]; omega, by rw [i64_iff]; omega, by omega, by rw [h7]; omega, inR_up hm hi, hr⟩

def S7 : Am.Spec := { sig := sig7, pre := fun ⟨x0, _⟩ => P7 x0, res := fun ⟨x0, _⟩ => [⟨.sl (.int .i64), g7_0 x0⟩] }
theorem con7 : Contract Try.prog 7 S7 := contract_of Try.func7 hb7 (Nat.le_of_ble_eq_true (by kernel_rfl)) (fun ⟨x0, _⟩ h hwf w0 O q => by
  obtain ⟨n, hn⟩ := top7 x0 h
  exact (snd7 n).1 x0 _ hn w0 O q)

end Go.Proofs.Ytgbmdngcpcgaeaa

/- Function 8 (laws.eqInt64S): its runs between cut points. Written by a program of this repo (gen). -/
set_option linter.unusedVariables false
set_option linter.unusedSimpArgs false
set_option maxRecDepth 100000
namespace Go.Proofs.Ytgbmdngcpcgaeaa
open Go Go.Am Go.Proofs
def ext8 : Ext := []
theorem ext8Ok : ExtOk Try.prog ext8 := trivial
/-! Function 8. -/
noncomputable def b8 : Code := bodyOf Try.f8
theorem hb8 : Try.f8.body = some b8 := by kernel_rfl
def sig8 : List AT := [AT.v (Ty.sl (Ty.int IntKind.i64)), AT.v (Ty.sl (Ty.int IntKind.i64))]
def tys8 : List Ty := [Ty.bool]
def E8_4 (v5 : Int) (x0 : List Int) (x1 : List Int) : Env := [(0, PV.a (Atom.sl (Ty.int IntKind.i64) x0)), (1, PV.a (Atom.sl (Ty.int IntKind.i64) x1)), (5, PV.a (Atom.val (Value.int IntKind.i64 v5)))]
def L8_4 (v5 : Int) (x0 : List Int) (x1 : List Int) : Heap := []
mutual
def R8 : Nat → List Int → List Int → List Dyn → Prop
  | 0, _, _, _ => False
  | n + 1, x0, x1, ds => (if ((↑(List.length x0) : Int) != (↑(List.length x1) : Int)) = true then (ds = [Dyn.mk Ty.bool Bool.false]) else (R8_4 n (0) (x0) (x1) ds))
def R8_4 : Nat → Int → List Int → List Int → List Dyn → Prop
  | 0, _, _, _, _ => False
  | n + 1, v5, x0, x1, ds => (if (Decidable.decide (v5 < (↑(List.length x0) : Int))) = true then ((0 ≤ v5) ∧ (v5 < (↑(List.length x0) : Int)) ∧ ((0 ≤ v5) ∧ (v5 < (↑(List.length x1) : Int)) ∧ (if (List.getD x0 (Int.toNat v5) 0 != List.getD x1 (Int.toNat v5) 0) = true then (ds = [Dyn.mk Ty.bool Bool.false]) else ((InR IntKind.i64 (v5 + 1)) ∧ (R8_4 n (v5 + 1) (x0) (x1) ds))))) else (ds = [Dyn.mk Ty.bool Bool.true]))
end
theorem p8_0 (x0 : List Int) (x1 : List Int) : runF tab ext8 false 26 [] 2000 [] tys8 Try.f8.results [true] [.code b8] (entE 0 0 sig8 (x0, x1, ())) (entL sig8 (x0, x1, ())) = some ([Dyn.mk Ty.bool Bool.false], [], [((↑(List.length x0) : Int) != (↑(List.length x1) : Int)) = Bool.true]) := by kernel_rfl
theorem p8_1 (x0 : List Int) (x1 : List Int) : Am.runN tab ext8 false 26 [] 2000 [] [] [0, 1, 5] [] [false] [.code b8] (entE 0 0 sig8 (x0, x1, ())) (entL sig8 (x0, x1, ())) = some (cutAt b8 4, E8_4 (0) (x0) (x1), L8_4 (0) (x0) (x1), [((↑(List.length x0) : Int) != (↑(List.length x1) : Int)) = Bool.false]) := by kernel_rfl
theorem p8_2 (v5 : Int) (x0 : List Int) (x1 : List Int) : runF tab ext8 false 26 [] 2000 [] tys8 Try.f8.results [true, true] (cutAt b8 4) (E8_4 v5 x0 x1) (L8_4 v5 x0 x1) = some ([Dyn.mk Ty.bool Bool.false], [], [Decidable.decide (v5 < (↑(List.length x0) : Int)) = Bool.true, 0 ≤ v5, v5 < (↑(List.length x0) : Int), 0 ≤ v5, v5 < (↑(List.length x1) : Int), (List.getD x0 (Int.toNat v5) 0 != List.getD x1 (Int.toNat v5) 0) = Bool.true]) := by kernel_rfl
theorem p8_3 (v5 : Int) (x0 : List Int) (x1 : List Int) : Am.runN tab ext8 false 26 [] 2000 [] [] [0, 1, 5] [] [true, false] (cutAt b8 4) (E8_4 v5 x0 x1) (L8_4 v5 x0 x1) = some (cutAt b8 4, E8_4 (v5 + 1) (x0) (x1), L8_4 (v5 + 1) (x0) (x1), [Decidable.decide (v5 < (↑(List.length x0) : Int)) = Bool.true, 0 ≤ v5, v5 < (↑(List.length x0) : Int), 0 ≤ v5, v5 < (↑(List.length x1) : Int), (List.getD x0 (Int.toNat v5) 0 != List.getD x1 (Int.toNat v5) 0) = Bool.false, InR IntKind.i64 (v5 + 1)]) := by kernel_rfl
theorem p8_4 (v5 : Int) (x0 : List Int) (x1 : List Int) : runF tab ext8 false 26 [] 2000 [] tys8 Try.f8.results [false] (cutAt b8 4) (E8_4 v5 x0 x1) (L8_4 v5 x0 x1) = some ([Dyn.mk Ty.bool Bool.true], [], [Decidable.decide (v5 < (↑(List.length x0) : Int)) = Bool.false]) := by kernel_rfl
theorem snd8 : ∀ n, (∀ (x0 : List Int) (x1 : List Int) ds, R8 n x0 x1 ds → ∀ w0 O q, AtV Try.prog 8 (PostR ds [] [] q w0 O) 26 w0 O q [] [.code b8] (entE 0 0 sig8 (x0, x1, ())) (entL sig8 (x0, x1, ()))) ∧ (∀ (v5 : Int) (x0 : List Int) (x1 : List Int) ds, R8_4 n v5 x0 x1 ds → ∀ w0 O q, AtV Try.prog 8 (PostR ds [] [] q w0 O) 26 w0 O q [] (cutAt b8 4) (E8_4 v5 x0 x1) (L8_4 v5 x0 x1)) := by
  intro n
  induction n with
  | zero => exact ⟨fun _ _ _ h => by simp only [R8] at h, fun _ _ _ _ h => by simp only [R8_4] at h⟩
  | succ n ih =>
  obtain ⟨ih, ih4⟩ := ih
  refine ⟨?_, ?_⟩
  · intro x0 x1 ds h w0 O q
    rw [R8] at h
    by_cases b0 : ((↑(List.length x0) : Int) != (↑(List.length x1) : Int)) = true
    · rw [if_pos b0] at h
      subst h
      exact AtV.fin Try.func8 tabOk ext8Ok mixed (p8_0 x0 x1) ⟨b0, trivial⟩
    · rw [if_neg b0] at h
      replace b0 := Bool.eq_false_iff.2 b0
      exact AtV.runN tabOk ext8Ok mixed (p8_1 x0 x1) ⟨b0, trivial⟩ (ih4 _ _ _ _ h w0 O q)

  · intro v5 x0 x1 ds h w0 O q
    rw [R8_4] at h
    by_cases b0 : (Decidable.decide (v5 < (↑(List.length x0) : Int))) = true
    · rw [if_pos b0] at h
      obtain ⟨s0, s1, h⟩ := h
      obtain ⟨s2, s3, h⟩ := h
      by_cases b1 : (List.getD x0 (Int.toNat v5) 0 != List.getD x1 (Int.toNat v5) 0) = true
      · rw [if_pos b1] at h
        subst h
        exact AtV.fin Try.func8 tabOk ext8Ok mixed (p8_2 v5 x0 x1) ⟨b0, s0, s1, s2, s3, b1, trivial⟩
      · rw [if_neg b1] at h
        replace b1 := Bool.eq_false_iff.2 b1
        obtain ⟨s4, h⟩ := h
        exact AtV.runN tabOk ext8Ok mixed (p8_3 v5 x0 x1) ⟨b0, s0, s1, s2, s3, b1, s4, trivial⟩ (ih4 _ _ _ _ h w0 O q)
    · rw [if_neg b0] at h
      replace b0 := Bool.eq_false_iff.2 b0
      subst h
      exact AtV.fin Try.func8 tabOk ext8Ok mixed (p8_4 v5 x0 x1) ⟨b0, trivial⟩



theorem eq8 (x0 x1 : List (Int)) (hl : x0.length = x1.length) (hm : x0.length ≤ maxLen) : ∀ k i : Nat, i + k = x0.length → R8_4 (k + 1) (i : Int) x0 x1 [⟨.bool, decide (x0.drop i = x1.drop i)⟩] := by
  intro k
  induction k with
  | zero =>
    intro i hi
    have h1 : ¬ (i : Int) < (x0.length : Int) := by omega
    rw [R8_4, if_neg (by simpa using h1), drop_end x0 i (by omega), drop_end x1 i (by omega)]
    simp
  | succ k ih =>
    intro i hi
    have h1 : (i : Int) < (x0.length : Int) := by omega
    rw [R8_4, if_pos (by simpa using h1)]
    refine ⟨by omega, h1, by omega, by omega, ?_⟩
    simp only [Int.toNat_natCast]
    rw [drop_get x0 i 0 (by omega), drop_get x1 i 0 (by omega)]
    by_cases he : x0.getD i 0 = x1.getD i 0
    · rw [if_neg (by simp only [he, bne_self_eq_false, Bool.false_eq_true, not_false_eq_true])]
      refine ⟨inR_up hm (by omega), ?_⟩
      have := ih (i + 1) (by omega)
      simp only [he, List.cons.injEq, true_and]
      exact this
    · rw [if_pos (by simpa only [bne_iff_ne, ne_eq] using he)]
      simp only [he, List.cons.injEq, false_and, decide_false]

def g8_0 (x0 x1 : List (Int)) : Bool := decide (x0 = x1)
def P8 (x0 x1 : List (Int)) : Prop := True
def S8 : Am.Spec := { sig := sig8, pre := fun ⟨x0, x1, _⟩ => P8 x0 x1, res := fun ⟨x0, x1, _⟩ => [⟨Ty.bool, g8_0 x0 x1⟩] }
theorem con8 : Contract Try.prog 8 S8 := contract_of Try.func8 hb8 (Nat.le_of_ble_eq_true (by kernel_rfl)) (fun ⟨x0, x1, _⟩ h hwf w0 O q => by
  refine (snd8 (x0.length + 2)).1 x0 x1 _ ?_ w0 O q
  show R8 (x0.length + 1 + 1) x0 x1 [⟨Ty.bool, decide (x0 = x1)⟩]
  rw [R8]
  by_cases hl : x0.length = x1.length
  · rw [if_neg (by simp [hl])]
    have := eq8 x0 x1 hl hwf.1.1 x0.length 0 (by omega)
    simpa using this
  · rw [if_pos (by simp; omega)]
    have : x0 ≠ x1 := fun h => hl (by rw [h])
    simp [this])

end Go.Proofs.Ytgbmdngcpcgaeaa

/- Function 21 (laws.eqProblem): its runs between cut points. Written by a program of this repo (gen). -/
set_option linter.unusedVariables false
set_option linter.unusedSimpArgs false
set_option maxRecDepth 100000
namespace Go.Proofs.Ytgbmdngcpcgaeaa
open Go Go.Am Go.Proofs
def ext21 : Ext := []
theorem ext21Ok : ExtOk Try.prog ext21 := trivial
/-! Function 21. -/
noncomputable def b21 : Code := bodyOf Try.f21
theorem hb21 : Try.f21.body = some b21 := by kernel_rfl
def sig21 : List AT := [AT.v (Ty.cons (Ty.int IntKind.i64) (Ty.cons Ty.str (Ty.cons Ty.str Ty.unit))), AT.v (Ty.cons (Ty.int IntKind.i64) (Ty.cons Ty.str (Ty.cons Ty.str Ty.unit)))]
def tys21 : List Ty := [Ty.bool]
def P21 (x0 : Int × ByteArray × ByteArray × Unit) (x1 : Int × ByteArray × ByteArray × Unit) : Prop := True
def g21_0 (x0 : Int × ByteArray × ByteArray × Unit) (x1 : Int × ByteArray × ByteArray × Unit) : Bool := (if (Prod.fst x0 != Prod.fst x1) = true then Bool.false else (if (!ByteArray.toList (Prod.fst (Prod.snd x0)) == ByteArray.toList (Prod.fst (Prod.snd x1))) = true then Bool.false else (if (!ByteArray.toList (Prod.fst (Prod.snd (Prod.snd x0))) == ByteArray.toList (Prod.fst (Prod.snd (Prod.snd x1)))) = true then Bool.false else Bool.true)))
theorem p21_0 (x0 : Int × ByteArray × ByteArray × Unit) (x1 : Int × ByteArray × ByteArray × Unit) : runF tab ext21 false 20 [] 2000 [] tys21 Try.f21.results [true] [.code b21] (entE 0 0 sig21 (x0, x1, ())) (entL sig21 (x0, x1, ())) = some ([Dyn.mk Ty.bool Bool.false], [], [(Prod.fst x0 != Prod.fst x1) = Bool.true]) := by kernel_rfl
theorem p21_1 (x0 : Int × ByteArray × ByteArray × Unit) (x1 : Int × ByteArray × ByteArray × Unit) : runF tab ext21 false 20 [] 2000 [] tys21 Try.f21.results [false, true] [.code b21] (entE 0 0 sig21 (x0, x1, ())) (entL sig21 (x0, x1, ())) = some ([Dyn.mk Ty.bool Bool.false], [], [(Prod.fst x0 != Prod.fst x1) = Bool.false, (!ByteArray.toList (Prod.fst (Prod.snd x0)) == ByteArray.toList (Prod.fst (Prod.snd x1))) = Bool.true]) := by kernel_rfl
theorem p21_2 (x0 : Int × ByteArray × ByteArray × Unit) (x1 : Int × ByteArray × ByteArray × Unit) : runF tab ext21 false 20 [] 2000 [] tys21 Try.f21.results [false, false, true] [.code b21] (entE 0 0 sig21 (x0, x1, ())) (entL sig21 (x0, x1, ())) = some ([Dyn.mk Ty.bool Bool.false], [], [(Prod.fst x0 != Prod.fst x1) = Bool.false, (!ByteArray.toList (Prod.fst (Prod.snd x0)) == ByteArray.toList (Prod.fst (Prod.snd x1))) = Bool.false, (!ByteArray.toList (Prod.fst (Prod.snd (Prod.snd x0))) == ByteArray.toList (Prod.fst (Prod.snd (Prod.snd x1)))) = Bool.true]) := by kernel_rfl
theorem p21_3 (x0 : Int × ByteArray × ByteArray × Unit) (x1 : Int × ByteArray × ByteArray × Unit) : runF tab ext21 false 20 [] 2000 [] tys21 Try.f21.results [false, false, false] [.code b21] (entE 0 0 sig21 (x0, x1, ())) (entL sig21 (x0, x1, ())) = some ([Dyn.mk Ty.bool Bool.true], [], [(Prod.fst x0 != Prod.fst x1) = Bool.false, (!ByteArray.toList (Prod.fst (Prod.snd x0)) == ByteArray.toList (Prod.fst (Prod.snd x1))) = Bool.false, (!ByteArray.toList (Prod.fst (Prod.snd (Prod.snd x0))) == ByteArray.toList (Prod.fst (Prod.snd (Prod.snd x1)))) = Bool.false]) := by kernel_rfl
theorem at21 (x0 : Int × ByteArray × ByteArray × Unit) (x1 : Int × ByteArray × ByteArray × Unit) (h : P21 x0 x1) (w0 : World) (O : List Nat) (q : Nat → Value) : AtV Try.prog 21 (PostR [⟨Ty.bool, g21_0 x0 x1⟩] [] [] q w0 O) 20 w0 O q [] [.code b21] (entE 0 0 sig21 (x0, x1, ())) (entL sig21 (x0, x1, ())) := by
  unfold P21 at h
  unfold g21_0
  by_cases b0 : (Prod.fst x0 != Prod.fst x1) = true
  · try simp only [if_pos b0] at h ⊢
    exact AtV.fin Try.func21 tabOk ext21Ok mixed (p21_0 x0 x1) ⟨b0, trivial⟩
  · try simp only [if_neg b0] at h ⊢
    replace b0 := Bool.eq_false_iff.2 b0
    by_cases b1 : (!ByteArray.toList (Prod.fst (Prod.snd x0)) == ByteArray.toList (Prod.fst (Prod.snd x1))) = true
    · try simp only [if_pos b1] at h ⊢
      exact AtV.fin Try.func21 tabOk ext21Ok mixed (p21_1 x0 x1) ⟨b0, b1, trivial⟩
    · try simp only [if_neg b1] at h ⊢
      replace b1 := Bool.eq_false_iff.2 b1
      by_cases b2 : (!ByteArray.toList (Prod.fst (Prod.snd (Prod.snd x0))) == ByteArray.toList (Prod.fst (Prod.snd (Prod.snd x1)))) = true
      · try simp only [if_pos b2] at h ⊢
        exact AtV.fin Try.func21 tabOk ext21Ok mixed (p21_2 x0 x1) ⟨b0, b1, b2, trivial⟩
      · try simp only [if_neg b2] at h ⊢
        replace b2 := Bool.eq_false_iff.2 b2
        exact AtV.fin Try.func21 tabOk ext21Ok mixed (p21_3 x0 x1) ⟨b0, b1, b2, trivial⟩

def S21 : Am.Spec := { sig := sig21, pre := fun ⟨x0, x1, _⟩ => P21 x0 x1, res := fun ⟨x0, x1, _⟩ => [⟨Ty.bool, g21_0 x0 x1⟩] }
theorem con21 : Contract Try.prog 21 S21 := contract_of Try.func21 hb21 (Nat.le_of_ble_eq_true (by kernel_rfl)) (fun ⟨x0, x1, _⟩ h _ w0 O q => at21 x0 x1 h w0 O q)


theorem eqd21 (x y : (Int × ByteArray × ByteArray × Unit)) : g21_0 x y = true ↔ x = y := by
  obtain ⟨a, b, c, u⟩ := x
  obtain ⟨a', b', c', u'⟩ := y
  unfold g21_0
  simp only [Bool.not_eq_true', bytes_ne, bne_iff_ne, ne_eq, ite_not]
  by_cases h0 : a = a'
  · by_cases h1 : b = b'
    · by_cases h2 : c = c'
      · simp [h0, h1, h2]
      · simp [h0, h1, h2]
    · simp [h0, h1]
  · simp [h0]

end Go.Proofs.Ytgbmdngcpcgaeaa

/- Function 9 (laws.eqProblemS): its runs between cut points. Written by a program of this repo (gen). -/
set_option linter.unusedVariables false
set_option linter.unusedSimpArgs false
set_option maxRecDepth 100000
namespace Go.Proofs.Ytgbmdngcpcgaeaa
open Go Go.Am Go.Proofs
def ext9 : Ext := [(21, S21)]
theorem call9_21 : Callable Try.prog 21 := ⟨Try.f21, Try.func21, by kernel_rfl, by kernel_rfl⟩
theorem ext9Ok : ExtOk Try.prog ext9 := ⟨⟨call9_21, con21⟩, trivial⟩
/-! Function 9. -/
noncomputable def b9 : Code := bodyOf Try.f9
theorem hb9 : Try.f9.body = some b9 := by kernel_rfl
def sig9 : List AT := [AT.v (Ty.sl (Ty.cons (Ty.int IntKind.i64) (Ty.cons Ty.str (Ty.cons Ty.str Ty.unit)))), AT.v (Ty.sl (Ty.cons (Ty.int IntKind.i64) (Ty.cons Ty.str (Ty.cons Ty.str Ty.unit))))]
def tys9 : List Ty := [Ty.bool]
def E9_4 (v5 : Int) (x0 : List (Int × ByteArray × ByteArray × Unit)) (x1 : List (Int × ByteArray × ByteArray × Unit)) : Env := [(0, PV.a (Atom.sl (Ty.cons (Ty.int IntKind.i64) (Ty.cons Ty.str (Ty.cons Ty.str Ty.unit))) x0)), (1, PV.a (Atom.sl (Ty.cons (Ty.int IntKind.i64) (Ty.cons Ty.str (Ty.cons Ty.str Ty.unit))) x1)), (5, PV.a (Atom.val (Value.int IntKind.i64 v5)))]
def L9_4 (v5 : Int) (x0 : List (Int × ByteArray × ByteArray × Unit)) (x1 : List (Int × ByteArray × ByteArray × Unit)) : Heap := []
mutual
def R9 : Nat → List (Int × ByteArray × ByteArray × Unit) → List (Int × ByteArray × ByteArray × Unit) → List Dyn → Prop
  | 0, _, _, _ => False
  | n + 1, x0, x1, ds => (if ((↑(List.length x0) : Int) != (↑(List.length x1) : Int)) = true then (ds = [Dyn.mk Ty.bool Bool.false]) else (R9_4 n (0) (x0) (x1) ds))
def R9_4 : Nat → Int → List (Int × ByteArray × ByteArray × Unit) → List (Int × ByteArray × ByteArray × Unit) → List Dyn → Prop
  | 0, _, _, _, _ => False
  | n + 1, v5, x0, x1, ds => (if (Decidable.decide (v5 < (↑(List.length x0) : Int))) = true then ((0 ≤ v5) ∧ (v5 < (↑(List.length x0) : Int)) ∧ ((0 ≤ v5) ∧ (v5 < (↑(List.length x1) : Int)) ∧ (if (!g21_0 (List.getD x0 (Int.toNat v5) (0, ByteArray.empty, ByteArray.empty, ())) (List.getD x1 (Int.toNat v5) (0, ByteArray.empty, ByteArray.empty, ()))) = true then (ds = [Dyn.mk Ty.bool Bool.false]) else ((InR IntKind.i64 (v5 + 1)) ∧ (R9_4 n (v5 + 1) (x0) (x1) ds))))) else (ds = [Dyn.mk Ty.bool Bool.true]))
end
theorem p9_0 (x0 : List (Int × ByteArray × ByteArray × Unit)) (x1 : List (Int × ByteArray × ByteArray × Unit)) : runF tab ext9 false 27 [] 2000 [] tys9 Try.f9.results [true] [.code b9] (entE 0 0 sig9 (x0, x1, ())) (entL sig9 (x0, x1, ())) = some ([Dyn.mk Ty.bool Bool.false], [], [((↑(List.length x0) : Int) != (↑(List.length x1) : Int)) = Bool.true]) := by kernel_rfl
theorem p9_1 (x0 : List (Int × ByteArray × ByteArray × Unit)) (x1 : List (Int × ByteArray × ByteArray × Unit)) : Am.runN tab ext9 false 27 [] 2000 [] [] [0, 1, 5] [] [false] [.code b9] (entE 0 0 sig9 (x0, x1, ())) (entL sig9 (x0, x1, ())) = some (cutAt b9 4, E9_4 (0) (x0) (x1), L9_4 (0) (x0) (x1), [((↑(List.length x0) : Int) != (↑(List.length x1) : Int)) = Bool.false]) := by kernel_rfl
theorem p9_2 (v5 : Int) (x0 : List (Int × ByteArray × ByteArray × Unit)) (x1 : List (Int × ByteArray × ByteArray × Unit)) : runF tab ext9 false 27 [] 2000 [] tys9 Try.f9.results [true, true] (cutAt b9 4) (E9_4 v5 x0 x1) (L9_4 v5 x0 x1) = some ([Dyn.mk Ty.bool Bool.false], [], [Decidable.decide (v5 < (↑(List.length x0) : Int)) = Bool.true, 0 ≤ v5, v5 < (↑(List.length x0) : Int), 0 ≤ v5, v5 < (↑(List.length x1) : Int), True, (!g21_0 (List.getD x0 (Int.toNat v5) (0, ByteArray.empty, ByteArray.empty, ())) (List.getD x1 (Int.toNat v5) (0, ByteArray.empty, ByteArray.empty, ()))) = Bool.true]) := by kernel_rfl
theorem p9_3 (v5 : Int) (x0 : List (Int × ByteArray × ByteArray × Unit)) (x1 : List (Int × ByteArray × ByteArray × Unit)) : Am.runN tab ext9 false 27 [] 2000 [] [] [0, 1, 5] [] [true, false] (cutAt b9 4) (E9_4 v5 x0 x1) (L9_4 v5 x0 x1) = some (cutAt b9 4, E9_4 (v5 + 1) (x0) (x1), L9_4 (v5 + 1) (x0) (x1), [Decidable.decide (v5 < (↑(List.length x0) : Int)) = Bool.true, 0 ≤ v5, v5 < (↑(List.length x0) : Int), 0 ≤ v5, v5 < (↑(List.length x1) : Int), True, (!g21_0 (List.getD x0 (Int.toNat v5) (0, ByteArray.empty, ByteArray.empty, ())) (List.getD x1 (Int.toNat v5) (0, ByteArray.empty, ByteArray.empty, ()))) = Bool.false, InR IntKind.i64 (v5 + 1)]) := by kernel_rfl
theorem p9_4 (v5 : Int) (x0 : List (Int × ByteArray × ByteArray × Unit)) (x1 : List (Int × ByteArray × ByteArray × Unit)) : runF tab ext9 false 27 [] 2000 [] tys9 Try.f9.results [false] (cutAt b9 4) (E9_4 v5 x0 x1) (L9_4 v5 x0 x1) = some ([Dyn.mk Ty.bool Bool.true], [], [Decidable.decide (v5 < (↑(List.length x0) : Int)) = Bool.false]) := by kernel_rfl
theorem snd9 : ∀ n, (∀ (x0 : List (Int × ByteArray × ByteArray × Unit)) (x1 : List (Int × ByteArray × ByteArray × Unit)) ds, R9 n x0 x1 ds → ∀ w0 O q, AtV Try.prog 9 (PostR ds [] [] q w0 O) 27 w0 O q [] [.code b9] (entE 0 0 sig9 (x0, x1, ())) (entL sig9 (x0, x1, ()))) ∧ (∀ (v5 : Int) (x0 : List (Int × ByteArray × ByteArray × Unit)) (x1 : List (Int × ByteArray × ByteArray × Unit)) ds, R9_4 n v5 x0 x1 ds → ∀ w0 O q, AtV Try.prog 9 (PostR ds [] [] q w0 O) 27 w0 O q [] (cutAt b9 4) (E9_4 v5 x0 x1) (L9_4 v5 x0 x1)) := by
  intro n
  induction n with
  | zero => exact ⟨fun _ _ _ h => by simp only [R9] at h, fun _ _ _ _ h => by simp only [R9_4] at h⟩
  | succ n ih =>
  obtain ⟨ih, ih4⟩ := ih
  refine ⟨?_, ?_⟩
  · intro x0 x1 ds h w0 O q
    rw [R9] at h
    by_cases b0 : ((↑(List.length x0) : Int) != (↑(List.length x1) : Int)) = true
    · rw [if_pos b0] at h
      subst h
      exact AtV.fin Try.func9 tabOk ext9Ok mixed (p9_0 x0 x1) ⟨b0, trivial⟩
    · rw [if_neg b0] at h
      replace b0 := Bool.eq_false_iff.2 b0
      exact AtV.runN tabOk ext9Ok mixed (p9_1 x0 x1) ⟨b0, trivial⟩ (ih4 _ _ _ _ h w0 O q)

  · intro v5 x0 x1 ds h w0 O q
    rw [R9_4] at h
    by_cases b0 : (Decidable.decide (v5 < (↑(List.length x0) : Int))) = true
    · rw [if_pos b0] at h
      obtain ⟨s0, s1, h⟩ := h
      obtain ⟨s2, s3, h⟩ := h
      by_cases b1 : (!g21_0 (List.getD x0 (Int.toNat v5) (0, ByteArray.empty, ByteArray.empty, ())) (List.getD x1 (Int.toNat v5) (0, ByteArray.empty, ByteArray.empty, ()))) = true
      · rw [if_pos b1] at h
        subst h
        exact AtV.fin Try.func9 tabOk ext9Ok mixed (p9_2 v5 x0 x1) ⟨b0, s0, s1, s2, s3, trivial, b1, trivial⟩
      · rw [if_neg b1] at h
        replace b1 := Bool.eq_false_iff.2 b1
        obtain ⟨s4, h⟩ := h
        exact AtV.runN tabOk ext9Ok mixed (p9_3 v5 x0 x1) ⟨b0, s0, s1, s2, s3, trivial, b1, s4, trivial⟩ (ih4 _ _ _ _ h w0 O q)
    · rw [if_neg b0] at h
      replace b0 := Bool.eq_false_iff.2 b0
      subst h
      exact AtV.fin Try.func9 tabOk ext9Ok mixed (p9_4 v5 x0 x1) ⟨b0, trivial⟩



theorem eq9 (x0 x1 : List (Int × ByteArray × ByteArray × Unit)) (hl : x0.length = x1.length) (hm : x0.length ≤ maxLen) : ∀ k i : Nat, i + k = x0.length → R9_4 (k + 1) (i : Int) x0 x1 [⟨.bool, decide (x0.drop i = x1.drop i)⟩] := by
  intro k
  induction k with
  | zero =>
    intro i hi
    have h1 : ¬ (i : Int) < (x0.length : Int) := by omega
    rw [R9_4, if_neg (by simpa using h1), drop_end x0 i (by omega), drop_end x1 i (by omega)]
    simp
  | succ k ih =>
    intro i hi
    have h1 : (i : Int) < (x0.length : Int) := by omega
    rw [R9_4, if_pos (by simpa using h1)]
    refine ⟨by omega, h1, by omega, by omega, ?_⟩
    simp only [Int.toNat_natCast]
    rw [drop_get x0 i ((0 : Int), ByteArray.empty, ByteArray.empty, ()) (by omega), drop_get x1 i ((0 : Int), ByteArray.empty, ByteArray.empty, ()) (by omega)]
    by_cases he : x0.getD i ((0 : Int), ByteArray.empty, ByteArray.empty, ()) = x1.getD i ((0 : Int), ByteArray.empty, ByteArray.empty, ())
    · have hd := (eqd21 _ _).2 he
      rw [if_neg (by rw [hd]; simp)]
      refine ⟨inR_up hm (by omega), ?_⟩
      have := ih (i + 1) (by omega)
      simp only [he, List.cons.injEq, true_and]
      exact this
    · have hd : g21_0 (x0.getD i ((0 : Int), ByteArray.empty, ByteArray.empty, ())) (x1.getD i ((0 : Int), ByteArray.empty, ByteArray.empty, ())) = false :=
        Bool.eq_false_iff.2 fun h => he ((eqd21 _ _).1 h)
      rw [if_pos (by rw [hd]; rfl)]
      simp only [he, List.cons.injEq, false_and, decide_false]

def g9_0 (x0 x1 : List (Int × ByteArray × ByteArray × Unit)) : Bool := decide (x0 = x1)
def P9 (x0 x1 : List (Int × ByteArray × ByteArray × Unit)) : Prop := True
def S9 : Am.Spec := { sig := sig9, pre := fun ⟨x0, x1, _⟩ => P9 x0 x1, res := fun ⟨x0, x1, _⟩ => [⟨Ty.bool, g9_0 x0 x1⟩] }
theorem con9 : Contract Try.prog 9 S9 := contract_of Try.func9 hb9 (Nat.le_of_ble_eq_true (by kernel_rfl)) (fun ⟨x0, x1, _⟩ h hwf w0 O q => by
  refine (snd9 (x0.length + 2)).1 x0 x1 _ ?_ w0 O q
  show R9 (x0.length + 1 + 1) x0 x1 [⟨Ty.bool, decide (x0 = x1)⟩]
  rw [R9]
  by_cases hl : x0.length = x1.length
  · rw [if_neg (by simp [hl])]
    have := eq9 x0 x1 hl hwf.1.1 x0.length 0 (by omega)
    simpa using this
  · rw [if_pos (by simp; omega)]
    have : x0 ≠ x1 := fun h => hl (by rw [h])
    simp [this])

end Go.Proofs.Ytgbmdngcpcgaeaa

/- Function 22 (laws.markText): its runs between cut points. Written by a program of this repo (gen). -/
set_option linter.unusedVariables false
set_option linter.unusedSimpArgs false
set_option maxRecDepth 100000
namespace Go.Proofs.Ytgbmdngcpcgaeaa
open Go Go.Am Go.Proofs
def ext22 : Ext := []
theorem ext22Ok : ExtOk Try.prog ext22 := trivial
/-! Function 22. -/
noncomputable def b22 : Code := bodyOf Try.f22
theorem hb22 : Try.f22.body = some b22 := by kernel_rfl
def sig22 : List AT := [AT.v (Ty.int IntKind.i64)]
def tys22 : List Ty := [Ty.str]
def E22_4 (v3 : ByteArray) (x0 : Int) : Env := [(0, PV.a (Atom.val (Value.int IntKind.i64 x0))), (3, PV.a (Atom.val (Value.string v3)))]
def L22_4 (v3 : ByteArray) (x0 : Int) : Heap := []
mutual
def R22 : Nat → Int → List Dyn → Prop
  | 0, _, _ => False
  | n + 1, x0, ds => (if (Decidable.decide (x0 ≤ 0)) = true then (ds = [Dyn.mk Ty.str (ByteArray.mk #[109, 48])]) else (R22_4 n (ByteArray.mk #[]) (x0) ds))
def R22_4 : Nat → ByteArray → Int → List Dyn → Prop
  | 0, _, _, _ => False
  | n + 1, v3, x0, ds => (if (Decidable.decide (x0 > 0)) = true then ((InR IntKind.i64 (Int.tmod x0 10)) ∧ ((InR IntKind.i64 (48 + Int.tmod x0 10)) ∧ ((InR IntKind.u8 (48 + Int.tmod x0 10)) ∧ ((ByteArray.size (bytesStr [48 + Int.tmod x0 10]) + ByteArray.size v3 ≤ 9223372036854775807) ∧ ((InR IntKind.i64 (Int.tdiv x0 10)) ∧ (R22_4 n (bytesStr [48 + Int.tmod x0 10] ++ v3) (Int.tdiv x0 10) ds)))))) else ((1 + ByteArray.size v3 ≤ 9223372036854775807) ∧ (ds = [Dyn.mk Ty.str (ByteArray.mk #[109] ++ v3)])))
end
theorem p22_0 (x0 : Int) : runF tab ext22 false 20 [] 2000 [] tys22 Try.f22.results [true] [.code b22] (entE 0 0 sig22 (x0, ())) (entL sig22 (x0, ())) = some ([Dyn.mk Ty.str (ByteArray.mk #[109, 48])], [], [Decidable.decide (x0 ≤ 0) = Bool.true]) := by kernel_rfl
theorem p22_1 (x0 : Int) : Am.runN tab ext22 false 20 [] 2000 [] [] [0, 3] [] [false] [.code b22] (entE 0 0 sig22 (x0, ())) (entL sig22 (x0, ())) = some (cutAt b22 4, E22_4 (ByteArray.mk #[]) (x0), L22_4 (ByteArray.mk #[]) (x0), [Decidable.decide (x0 ≤ 0) = Bool.false]) := by kernel_rfl
theorem p22_2 (v3 : ByteArray) (x0 : Int) : Am.runN tab ext22 false 20 [] 2000 [] [] [0, 3] [] [true] (cutAt b22 4) (E22_4 v3 x0) (L22_4 v3 x0) = some (cutAt b22 4, E22_4 (bytesStr [48 + Int.tmod x0 10] ++ v3) (Int.tdiv x0 10), L22_4 (bytesStr [48 + Int.tmod x0 10] ++ v3) (Int.tdiv x0 10), [Decidable.decide (x0 > 0) = Bool.true, (10 : Int) ≠ (0 : Int), InR IntKind.i64 (Int.tmod x0 10), InR IntKind.i64 (48 + Int.tmod x0 10), InR IntKind.u8 (48 + Int.tmod x0 10), ByteArray.size (bytesStr [48 + Int.tmod x0 10]) + ByteArray.size v3 ≤ 9223372036854775807, (10 : Int) ≠ (0 : Int), InR IntKind.i64 (Int.tdiv x0 10)]) := by kernel_rfl
theorem p22_3 (v3 : ByteArray) (x0 : Int) : runF tab ext22 false 20 [] 2000 [] tys22 Try.f22.results [false] (cutAt b22 4) (E22_4 v3 x0) (L22_4 v3 x0) = some ([Dyn.mk Ty.str (ByteArray.mk #[109] ++ v3)], [], [Decidable.decide (x0 > 0) = Bool.false, 1 + ByteArray.size v3 ≤ 9223372036854775807]) := by kernel_rfl
theorem snd22 : ∀ n, (∀ (x0 : Int) ds, R22 n x0 ds → ∀ w0 O q, AtV Try.prog 22 (PostR ds [] [] q w0 O) 20 w0 O q [] [.code b22] (entE 0 0 sig22 (x0, ())) (entL sig22 (x0, ()))) ∧ (∀ (v3 : ByteArray) (x0 : Int) ds, R22_4 n v3 x0 ds → ∀ w0 O q, AtV Try.prog 22 (PostR ds [] [] q w0 O) 20 w0 O q [] (cutAt b22 4) (E22_4 v3 x0) (L22_4 v3 x0)) := by
  intro n
  induction n with
  | zero => exact ⟨fun _ _ h => by simp only [R22] at h, fun _ _ _ h => by simp only [R22_4] at h⟩
  | succ n ih =>
  obtain ⟨ih, ih4⟩ := ih
  refine ⟨?_, ?_⟩
  · intro x0 ds h w0 O q
    rw [R22] at h
    by_cases b0 : (Decidable.decide (x0 ≤ 0)) = true
    · rw [if_pos b0] at h
      subst h
      exact AtV.fin Try.func22 tabOk ext22Ok mixed (p22_0 x0) ⟨b0, trivial⟩
    · rw [if_neg b0] at h
      replace b0 := Bool.eq_false_iff.2 b0
      exact AtV.runN tabOk ext22Ok mixed (p22_1 x0) ⟨b0, trivial⟩ (ih4 _ _ _ h w0 O q)

  · intro v3 x0 ds h w0 O q
    rw [R22_4] at h
    by_cases b0 : (Decidable.decide (x0 > 0)) = true
    · rw [if_pos b0] at h
      obtain ⟨s0, h⟩ := h
      obtain ⟨s1, h⟩ := h
      obtain ⟨s2, h⟩ := h
      obtain ⟨s3, h⟩ := h
      obtain ⟨s4, h⟩ := h
      exact AtV.runN tabOk ext22Ok mixed (p22_2 v3 x0) ⟨b0, (by decide), s0, s1, s2, s3, (by decide), s4, trivial⟩ (ih4 _ _ _ h w0 O q)
    · rw [if_neg b0] at h
      replace b0 := Bool.eq_false_iff.2 b0
      obtain ⟨s0, h⟩ := h
      subst h
      exact AtV.fin Try.func22 tabOk ext22Ok mixed (p22_3 v3 x0) ⟨b0, s0, trivial⟩



def loop22 : Nat → ByteArray → Int → ByteArray
  | 0, v, _ => v
  | n + 1, v, x => if 0 < x then loop22 n (bytesStr [48 + Int.tmod x 10] ++ v) (Int.tdiv x 10) else v

theorem run22 : ∀ (n : Nat) (v : ByteArray) (x : Int), x < 10 ^ n → InR .i64 x → v.size + n ≤ 1000 → R22_4 (n + 1) v x [⟨.str, ByteArray.mk #[109] ++ loop22 n v x⟩] := by
  intro n
  induction n with
  | zero =>
    intro v x h1 _ h2
    rw [R22_4, if_neg (by simp at h1 ⊢; omega)]
    exact ⟨by omega, rfl⟩
  | succ n ih =>
    intro v x h1 hi h2
    rw [i64_iff] at hi
    rw [R22_4]
    by_cases hx : 0 < x
    · rw [if_pos (by simpa using hx)]
      have e1 : Int.tmod x 10 = x % 10 := Int.tmod_eq_emod_of_nonneg (by omega)
      have e2 : Int.tdiv x 10 = x / 10 := Int.tdiv_eq_ediv_of_nonneg (by omega)
      have hs : (bytesStr [48 + Int.tmod x 10]).size = 1 := bytesStr_size _
      have hp : (10 : Int) ^ (n + 1) = 10 * 10 ^ n := by rw [Int.pow_succ, Int.mul_comm]
      refine ⟨by rw [i64_iff, e1]; omega, by rw [i64_iff, e1]; omega, by rw [u8_iff, e1]; omega, by rw [hs]; omega, by rw [i64_iff, e2]; omega, ?_⟩
      have := ih (bytesStr [48 + Int.tmod x 10] ++ v) (Int.tdiv x 10) (by rw [e2]; omega) (by rw [i64_iff, e2]; omega) (by rw [ByteArray.size_append, hs]; omega)
      simp only [loop22, if_pos hx]
      exact this
    · rw [if_neg (by simp; omega)]
      simp only [loop22, if_neg hx]
      exact ⟨by omega, trivial⟩

def g22_0 (x0 : Int) : ByteArray := if x0 ≤ 0 then ByteArray.mk #[109, 48] else ByteArray.mk #[109] ++ loop22 19 (ByteArray.mk #[]) x0
def P22 (x0 : Int) : Prop := True

theorem top22 (x0 : Int) (hi : InR .i64 x0) : R22 21 x0 [⟨.str, g22_0 x0⟩] := by
  rw [R22]
  unfold g22_0
  by_cases h : x0 ≤ 0
  · rw [if_pos (by simpa using h), if_pos h]
  · rw [if_neg (by simpa using h), if_neg h]
    have hi' := hi
    rw [i64_iff] at hi'
    exact run22 19 _ x0 (by omega) hi (by decide)

def S22 : Am.Spec := { sig := sig22, pre := fun ⟨x0, _⟩ => P22 x0, res := fun ⟨x0, _⟩ => [⟨.str, g22_0 x0⟩] }
theorem con22 : Contract Try.prog 22 S22 := contract_of Try.func22 hb22 (Nat.le_of_ble_eq_true (by kernel_rfl)) (fun ⟨x0, _⟩ h hwf w0 O q =>
  (snd22 _).1 x0 _ (top22 x0 hwf.1) w0 O q)

end Go.Proofs.Ytgbmdngcpcgaeaa

/- Function 10 (laws.markProblemS): its runs between cut points. Written by a program of this repo (gen). -/
set_option linter.unusedVariables false
set_option linter.unusedSimpArgs false
set_option maxRecDepth 100000
namespace Go.Proofs.Ytgbmdngcpcgaeaa
open Go Go.Am Go.Proofs
def ext10 : Ext := [(22, S22)]
theorem call10_22 : Callable Try.prog 22 := ⟨Try.f22, Try.func22, by kernel_rfl, by kernel_rfl⟩
theorem ext10Ok : ExtOk Try.prog ext10 := ⟨⟨call10_22, con22⟩, trivial⟩
/-! Function 10. -/
noncomputable def b10 : Code := bodyOf Try.f10
theorem hb10 : Try.f10.body = some b10 := by kernel_rfl
def sig10 : List AT := [AT.own (Ty.cons (Ty.int IntKind.i64) (Ty.cons Ty.str (Ty.cons Ty.str Ty.unit))), AT.v (Ty.int IntKind.i64)]
def tys10 : List Ty := [Ty.int IntKind.i64]
def E10_2 (v5 : Int) (x1 : Int) (x0 : List (Int × ByteArray × ByteArray × Unit)) : Env := [(0, PV.a (Atom.osl 0 Option.none)), (1, PV.a (Atom.val (Value.int IntKind.i64 x1))), (5, PV.a (Atom.val (Value.int IntKind.i64 v5)))]
def L10_2 (v5 : Int) (x1 : Int) (x0 : List (Int × ByteArray × ByteArray × Unit)) : Heap := [Option.some (Arr.mk (Ty.cons (Ty.int IntKind.i64) (Ty.cons Ty.str (Ty.cons Ty.str Ty.unit))) x0 Bool.false)]
mutual
def R10 : Nat → List (Int × ByteArray × ByteArray × Unit) → Int → List Dyn → List (Option Lst) → Prop
  | 0, _, _, _, _ => False
  | n + 1, x0, x1, ds, us => (R10_2 n (0) (x1) (x0) ds us)
def R10_2 : Nat → Int → Int → List (Int × ByteArray × ByteArray × Unit) → List Dyn → List (Option Lst) → Prop
  | 0, _, _, _, _, _ => False
  | n + 1, v5, x1, x0, ds, us => (if (Decidable.decide (v5 < (↑(List.length x0) : Int))) = true then ((0 ≤ v5) ∧ (v5 < (↑(List.length x0) : Int)) ∧ ((InR IntKind.i64 (x1 + 1)) ∧ ((0 ≤ v5) ∧ (v5 < (↑(List.length (List.set x0 (Int.toNat v5) (x1, Prod.snd (List.getD x0 (Int.toNat v5) (0, ByteArray.empty, ByteArray.empty, ()))))) : Int)) ∧ ((InR IntKind.i64 (x1 + 1 + 1)) ∧ ((0 ≤ v5) ∧ (v5 < (↑(List.length (List.set (List.set x0 (Int.toNat v5) (x1, Prod.snd (List.getD x0 (Int.toNat v5) (0, ByteArray.empty, ByteArray.empty, ())))) (Int.toNat v5) (Prod.fst (List.getD (List.set x0 (Int.toNat v5) (x1, Prod.snd (List.getD x0 (Int.toNat v5) (0, ByteArray.empty, ByteArray.empty, ())))) (Int.toNat v5) (0, ByteArray.empty, ByteArray.empty, ())), g22_0 (x1 + 1), Prod.snd (Prod.snd (List.getD (List.set x0 (Int.toNat v5) (x1, Prod.snd (List.getD x0 (Int.toNat v5) (0, ByteArray.empty, ByteArray.empty, ())))) (Int.toNat v5) (0, ByteArray.empty, ByteArray.empty, ())))))) : Int)) ∧ ((InR IntKind.i64 (x1 + 1 + 1 + 1)) ∧ ((InR IntKind.i64 (v5 + 1)) ∧ (R10_2 n (v5 + 1) (x1 + 1 + 1 + 1) (List.set (List.set (List.set x0 (Int.toNat v5) (x1, Prod.snd (List.getD x0 (Int.toNat v5) (0, ByteArray.empty, ByteArray.empty, ())))) (Int.toNat v5) (Prod.fst (List.getD (List.set x0 (Int.toNat v5) (x1, Prod.snd (List.getD x0 (Int.toNat v5) (0, ByteArray.empty, ByteArray.empty, ())))) (Int.toNat v5) (0, ByteArray.empty, ByteArray.empty, ())), g22_0 (x1 + 1), Prod.snd (Prod.snd (List.getD (List.set x0 (Int.toNat v5) (x1, Prod.snd (List.getD x0 (Int.toNat v5) (0, ByteArray.empty, ByteArray.empty, ())))) (Int.toNat v5) (0, ByteArray.empty, ByteArray.empty, ()))))) (Int.toNat v5) (Prod.fst (List.getD (List.set (List.set x0 (Int.toNat v5) (x1, Prod.snd (List.getD x0 (Int.toNat v5) (0, ByteArray.empty, ByteArray.empty, ())))) (Int.toNat v5) (Prod.fst (List.getD (List.set x0 (Int.toNat v5) (x1, Prod.snd (List.getD x0 (Int.toNat v5) (0, ByteArray.empty, ByteArray.empty, ())))) (Int.toNat v5) (0, ByteArray.empty, ByteArray.empty, ())), g22_0 (x1 + 1), Prod.snd (Prod.snd (List.getD (List.set x0 (Int.toNat v5) (x1, Prod.snd (List.getD x0 (Int.toNat v5) (0, ByteArray.empty, ByteArray.empty, ())))) (Int.toNat v5) (0, ByteArray.empty, ByteArray.empty, ()))))) (Int.toNat v5) (0, ByteArray.empty, ByteArray.empty, ())), Prod.fst (Prod.snd (List.getD (List.set (List.set x0 (Int.toNat v5) (x1, Prod.snd (List.getD x0 (Int.toNat v5) (0, ByteArray.empty, ByteArray.empty, ())))) (Int.toNat v5) (Prod.fst (List.getD (List.set x0 (Int.toNat v5) (x1, Prod.snd (List.getD x0 (Int.toNat v5) (0, ByteArray.empty, ByteArray.empty, ())))) (Int.toNat v5) (0, ByteArray.empty, ByteArray.empty, ())), g22_0 (x1 + 1), Prod.snd (Prod.snd (List.getD (List.set x0 (Int.toNat v5) (x1, Prod.snd (List.getD x0 (Int.toNat v5) (0, ByteArray.empty, ByteArray.empty, ())))) (Int.toNat v5) (0, ByteArray.empty, ByteArray.empty, ()))))) (Int.toNat v5) (0, ByteArray.empty, ByteArray.empty, ()))), g22_0 (x1 + 1 + 1), Prod.snd (Prod.snd (Prod.snd (List.getD (List.set (List.set x0 (Int.toNat v5) (x1, Prod.snd (List.getD x0 (Int.toNat v5) (0, ByteArray.empty, ByteArray.empty, ())))) (Int.toNat v5) (Prod.fst (List.getD (List.set x0 (Int.toNat v5) (x1, Prod.snd (List.getD x0 (Int.toNat v5) (0, ByteArray.empty, ByteArray.empty, ())))) (Int.toNat v5) (0, ByteArray.empty, ByteArray.empty, ())), g22_0 (x1 + 1), Prod.snd (Prod.snd (List.getD (List.set x0 (Int.toNat v5) (x1, Prod.snd (List.getD x0 (Int.toNat v5) (0, ByteArray.empty, ByteArray.empty, ())))) (Int.toNat v5) (0, ByteArray.empty, ByteArray.empty, ()))))) (Int.toNat v5) (0, ByteArray.empty, ByteArray.empty, ())))))) ds us)))))))) else (ds = [Dyn.mk (Ty.int IntKind.i64) x1] ∧ us = [Option.some (Lst.mk (Ty.cons (Ty.int IntKind.i64) (Ty.cons Ty.str (Ty.cons Ty.str Ty.unit))) x0)]))
end
theorem p10_0 (x0 : List (Int × ByteArray × ByteArray × Unit)) (x1 : Int) : Am.runN tab ext10 false 36 [] 2000 [0] [] [0, 1, 5] [0] [] [.code b10] (entE 0 0 sig10 (x0, x1, ())) (entL sig10 (x0, x1, ())) = some (cutAt b10 2, E10_2 (0) (x1) (x0), L10_2 (0) (x1) (x0), []) := by kernel_rfl
theorem p10_1 (v5 : Int) (x1 : Int) (x0 : List (Int × ByteArray × ByteArray × Unit)) : Am.runN tab ext10 false 36 [] 2000 [0] [] [0, 1, 5] [0] [true] (cutAt b10 2) (E10_2 v5 x1 x0) (L10_2 v5 x1 x0) = some (cutAt b10 2, E10_2 (v5 + 1) (x1 + 1 + 1 + 1) (List.set (List.set (List.set x0 (Int.toNat v5) (x1, Prod.snd (List.getD x0 (Int.toNat v5) (0, ByteArray.empty, ByteArray.empty, ())))) (Int.toNat v5) (Prod.fst (List.getD (List.set x0 (Int.toNat v5) (x1, Prod.snd (List.getD x0 (Int.toNat v5) (0, ByteArray.empty, ByteArray.empty, ())))) (Int.toNat v5) (0, ByteArray.empty, ByteArray.empty, ())), g22_0 (x1 + 1), Prod.snd (Prod.snd (List.getD (List.set x0 (Int.toNat v5) (x1, Prod.snd (List.getD x0 (Int.toNat v5) (0, ByteArray.empty, ByteArray.empty, ())))) (Int.toNat v5) (0, ByteArray.empty, ByteArray.empty, ()))))) (Int.toNat v5) (Prod.fst (List.getD (List.set (List.set x0 (Int.toNat v5) (x1, Prod.snd (List.getD x0 (Int.toNat v5) (0, ByteArray.empty, ByteArray.empty, ())))) (Int.toNat v5) (Prod.fst (List.getD (List.set x0 (Int.toNat v5) (x1, Prod.snd (List.getD x0 (Int.toNat v5) (0, ByteArray.empty, ByteArray.empty, ())))) (Int.toNat v5) (0, ByteArray.empty, ByteArray.empty, ())), g22_0 (x1 + 1), Prod.snd (Prod.snd (List.getD (List.set x0 (Int.toNat v5) (x1, Prod.snd (List.getD x0 (Int.toNat v5) (0, ByteArray.empty, ByteArray.empty, ())))) (Int.toNat v5) (0, ByteArray.empty, ByteArray.empty, ()))))) (Int.toNat v5) (0, ByteArray.empty, ByteArray.empty, ())), Prod.fst (Prod.snd (List.getD (List.set (List.set x0 (Int.toNat v5) (x1, Prod.snd (List.getD x0 (Int.toNat v5) (0, ByteArray.empty, ByteArray.empty, ())))) (Int.toNat v5) (Prod.fst (List.getD (List.set x0 (Int.toNat v5) (x1, Prod.snd (List.getD x0 (Int.toNat v5) (0, ByteArray.empty, ByteArray.empty, ())))) (Int.toNat v5) (0, ByteArray.empty, ByteArray.empty, ())), g22_0 (x1 + 1), Prod.snd (Prod.snd (List.getD (List.set x0 (Int.toNat v5) (x1, Prod.snd (List.getD x0 (Int.toNat v5) (0, ByteArray.empty, ByteArray.empty, ())))) (Int.toNat v5) (0, ByteArray.empty, ByteArray.empty, ()))))) (Int.toNat v5) (0, ByteArray.empty, ByteArray.empty, ()))), g22_0 (x1 + 1 + 1), Prod.snd (Prod.snd (Prod.snd (List.getD (List.set (List.set x0 (Int.toNat v5) (x1, Prod.snd (List.getD x0 (Int.toNat v5) (0, ByteArray.empty, ByteArray.empty, ())))) (Int.toNat v5) (Prod.fst (List.getD (List.set x0 (Int.toNat v5) (x1, Prod.snd (List.getD x0 (Int.toNat v5) (0, ByteArray.empty, ByteArray.empty, ())))) (Int.toNat v5) (0, ByteArray.empty, ByteArray.empty, ())), g22_0 (x1 + 1), Prod.snd (Prod.snd (List.getD (List.set x0 (Int.toNat v5) (x1, Prod.snd (List.getD x0 (Int.toNat v5) (0, ByteArray.empty, ByteArray.empty, ())))) (Int.toNat v5) (0, ByteArray.empty, ByteArray.empty, ()))))) (Int.toNat v5) (0, ByteArray.empty, ByteArray.empty, ())))))), L10_2 (v5 + 1) (x1 + 1 + 1 + 1) (List.set (List.set (List.set x0 (Int.toNat v5) (x1, Prod.snd (List.getD x0 (Int.toNat v5) (0, ByteArray.empty, ByteArray.empty, ())))) (Int.toNat v5) (Prod.fst (List.getD (List.set x0 (Int.toNat v5) (x1, Prod.snd (List.getD x0 (Int.toNat v5) (0, ByteArray.empty, ByteArray.empty, ())))) (Int.toNat v5) (0, ByteArray.empty, ByteArray.empty, ())), g22_0 (x1 + 1), Prod.snd (Prod.snd (List.getD (List.set x0 (Int.toNat v5) (x1, Prod.snd (List.getD x0 (Int.toNat v5) (0, ByteArray.empty, ByteArray.empty, ())))) (Int.toNat v5) (0, ByteArray.empty, ByteArray.empty, ()))))) (Int.toNat v5) (Prod.fst (List.getD (List.set (List.set x0 (Int.toNat v5) (x1, Prod.snd (List.getD x0 (Int.toNat v5) (0, ByteArray.empty, ByteArray.empty, ())))) (Int.toNat v5) (Prod.fst (List.getD (List.set x0 (Int.toNat v5) (x1, Prod.snd (List.getD x0 (Int.toNat v5) (0, ByteArray.empty, ByteArray.empty, ())))) (Int.toNat v5) (0, ByteArray.empty, ByteArray.empty, ())), g22_0 (x1 + 1), Prod.snd (Prod.snd (List.getD (List.set x0 (Int.toNat v5) (x1, Prod.snd (List.getD x0 (Int.toNat v5) (0, ByteArray.empty, ByteArray.empty, ())))) (Int.toNat v5) (0, ByteArray.empty, ByteArray.empty, ()))))) (Int.toNat v5) (0, ByteArray.empty, ByteArray.empty, ())), Prod.fst (Prod.snd (List.getD (List.set (List.set x0 (Int.toNat v5) (x1, Prod.snd (List.getD x0 (Int.toNat v5) (0, ByteArray.empty, ByteArray.empty, ())))) (Int.toNat v5) (Prod.fst (List.getD (List.set x0 (Int.toNat v5) (x1, Prod.snd (List.getD x0 (Int.toNat v5) (0, ByteArray.empty, ByteArray.empty, ())))) (Int.toNat v5) (0, ByteArray.empty, ByteArray.empty, ())), g22_0 (x1 + 1), Prod.snd (Prod.snd (List.getD (List.set x0 (Int.toNat v5) (x1, Prod.snd (List.getD x0 (Int.toNat v5) (0, ByteArray.empty, ByteArray.empty, ())))) (Int.toNat v5) (0, ByteArray.empty, ByteArray.empty, ()))))) (Int.toNat v5) (0, ByteArray.empty, ByteArray.empty, ()))), g22_0 (x1 + 1 + 1), Prod.snd (Prod.snd (Prod.snd (List.getD (List.set (List.set x0 (Int.toNat v5) (x1, Prod.snd (List.getD x0 (Int.toNat v5) (0, ByteArray.empty, ByteArray.empty, ())))) (Int.toNat v5) (Prod.fst (List.getD (List.set x0 (Int.toNat v5) (x1, Prod.snd (List.getD x0 (Int.toNat v5) (0, ByteArray.empty, ByteArray.empty, ())))) (Int.toNat v5) (0, ByteArray.empty, ByteArray.empty, ())), g22_0 (x1 + 1), Prod.snd (Prod.snd (List.getD (List.set x0 (Int.toNat v5) (x1, Prod.snd (List.getD x0 (Int.toNat v5) (0, ByteArray.empty, ByteArray.empty, ())))) (Int.toNat v5) (0, ByteArray.empty, ByteArray.empty, ()))))) (Int.toNat v5) (0, ByteArray.empty, ByteArray.empty, ())))))), [Decidable.decide (v5 < (↑(List.length x0) : Int)) = Bool.true, 0 ≤ v5, v5 < (↑(List.length x0) : Int), InR IntKind.i64 (x1 + 1), True, 0 ≤ v5, v5 < (↑(List.length (List.set x0 (Int.toNat v5) (x1, Prod.snd (List.getD x0 (Int.toNat v5) (0, ByteArray.empty, ByteArray.empty, ()))))) : Int), InR IntKind.i64 (x1 + 1 + 1), True, 0 ≤ v5, v5 < (↑(List.length (List.set (List.set x0 (Int.toNat v5) (x1, Prod.snd (List.getD x0 (Int.toNat v5) (0, ByteArray.empty, ByteArray.empty, ())))) (Int.toNat v5) (Prod.fst (List.getD (List.set x0 (Int.toNat v5) (x1, Prod.snd (List.getD x0 (Int.toNat v5) (0, ByteArray.empty, ByteArray.empty, ())))) (Int.toNat v5) (0, ByteArray.empty, ByteArray.empty, ())), g22_0 (x1 + 1), Prod.snd (Prod.snd (List.getD (List.set x0 (Int.toNat v5) (x1, Prod.snd (List.getD x0 (Int.toNat v5) (0, ByteArray.empty, ByteArray.empty, ())))) (Int.toNat v5) (0, ByteArray.empty, ByteArray.empty, ())))))) : Int), InR IntKind.i64 (x1 + 1 + 1 + 1), InR IntKind.i64 (v5 + 1)]) := by kernel_rfl
theorem p10_2 (v5 : Int) (x1 : Int) (x0 : List (Int × ByteArray × ByteArray × Unit)) : runF tab ext10 false 36 [] 2000 [0] tys10 Try.f10.results [false] (cutAt b10 2) (E10_2 v5 x1 x0) (L10_2 v5 x1 x0) = some ([Dyn.mk (Ty.int IntKind.i64) x1], [Option.some (Lst.mk (Ty.cons (Ty.int IntKind.i64) (Ty.cons Ty.str (Ty.cons Ty.str Ty.unit))) x0)], [Decidable.decide (v5 < (↑(List.length x0) : Int)) = Bool.false]) := by kernel_rfl
theorem snd10 : ∀ n, (∀ (x0 : List (Int × ByteArray × ByteArray × Unit)) (x1 : Int) ds us, R10 n x0 x1 ds us → ∀ w0 O q, AtV Try.prog 10 (PostR ds us [0] q w0 O) 36 w0 O q [0] [.code b10] (entE 0 0 sig10 (x0, x1, ())) (entL sig10 (x0, x1, ()))) ∧ (∀ (v5 : Int) (x1 : Int) (x0 : List (Int × ByteArray × ByteArray × Unit)) ds us, R10_2 n v5 x1 x0 ds us → ∀ w0 O q, AtV Try.prog 10 (PostR ds us [0] q w0 O) 36 w0 O q [0] (cutAt b10 2) (E10_2 v5 x1 x0) (L10_2 v5 x1 x0)) := by
  intro n
  induction n with
  | zero => exact ⟨fun _ _ _ _ h => by simp only [R10] at h, fun _ _ _ _ _ h => by simp only [R10_2] at h⟩
  | succ n ih =>
  obtain ⟨ih, ih2⟩ := ih
  refine ⟨?_, ?_⟩
  · intro x0 x1 ds us h w0 O q
    rw [R10] at h
    exact AtV.runN tabOk ext10Ok mixed (p10_0 x0 x1) trivial (ih2 _ _ _ _ _ h w0 O q)

  · intro v5 x1 x0 ds us h w0 O q
    rw [R10_2] at h
    by_cases b0 : (Decidable.decide (v5 < (↑(List.length x0) : Int))) = true
    · rw [if_pos b0] at h
      obtain ⟨s0, s1, h⟩ := h
      obtain ⟨s2, h⟩ := h
      obtain ⟨s3, s4, h⟩ := h
      obtain ⟨s5, h⟩ := h
      obtain ⟨s6, s7, h⟩ := h
      obtain ⟨s8, h⟩ := h
      obtain ⟨s9, h⟩ := h
      exact AtV.runN tabOk ext10Ok mixed (p10_1 v5 x1 x0) ⟨b0, s0, s1, s2, trivial, s3, s4, s5, trivial, s6, s7, s8, s9, trivial⟩ (ih2 _ _ _ _ _ h w0 O q)
    · rw [if_neg b0] at h
      replace b0 := Bool.eq_false_iff.2 b0
      obtain ⟨h, h'⟩ := h; subst h; subst h'
      exact AtV.fin Try.func10 tabOk ext10Ok mixed (p10_2 v5 x1 x0) ⟨b0, trivial⟩



def M10 (x1 : Int) (n : Nat) : List (Int × ByteArray × ByteArray × Unit) := (List.range n).map fun (j : Nat) => ((x1 + 3 * (j : Int)), g22_0 (x1 + 3 * (j : Int) + 1), g22_0 (x1 + 3 * (j : Int) + 1 + 1), ())

theorem M10_len (x1 : Int) (n : Nat) : (M10 x1 n).length = n := by simp [M10]

theorem M10_succ (x1 : Int) (n : Nat) : M10 x1 (n + 1) = M10 x1 n ++ [((x1 + 3 * (n : Int)), g22_0 (x1 + 3 * (n : Int) + 1), g22_0 (x1 + 3 * (n : Int) + 1 + 1), ())] := by
  simp [M10, List.range_succ]

theorem run10 (x0 : List (Int × ByteArray × ByteArray × Unit)) (x1 : Int) (hm : x0.length ≤ maxLen) (h0 : 0 ≤ x1) (h1 : x1 + 3 * x0.length ≤ 9223372036854775807) : ∀ (k i : Nat), i + k = x0.length →
    R10_2 (k + 1) (i : Int) (x1 + 3 * (i : Int)) (M10 x1 i ++ x0.drop i) [⟨.int .i64, x1 + 3 * (x0.length : Int)⟩] [some ⟨(.cons (.int .i64) (.cons .str (.cons .str .unit))), M10 x1 x0.length⟩] := by
  intro k
  induction k with
  | zero =>
    intro i hi
    have hl : (M10 x1 i ++ x0.drop i).length = x0.length := by simp [M10_len]; omega
    rw [R10_2, if_neg (by rw [hl]; simp; omega), drop_end x0 i (by omega), List.append_nil]
    have : i = x0.length := by omega
    subst this
    exact ⟨rfl, rfl⟩
  | succ k ih =>
    intro i hi
    have hl : (M10 x1 i ++ x0.drop i).length = x0.length := by simp [M10_len]; omega
    have hA := M10_len x1 i
    rw [R10_2, if_pos (by rw [hl]; simp; omega)]
    rw [drop_get x0 i ((0 : Int), ByteArray.empty, ByteArray.empty, ()) (by omega)] at hl ⊢
    simp only [Int.toNat_natCast, set_mid _ _ _ _ i hA, get_mid _ _ _ _ i hA]
    have hl' : ∀ y : (Int × ByteArray × ByteArray × Unit), ((M10 x1 i ++ y :: x0.drop (i + 1)).length : Int) = x0.length := fun y => by rw [← hl]; simp
    simp only [hl']
    refine ⟨by omega, by omega, by rw [i64_iff]; omega, by omega, by omega, by rw [i64_iff]; omega, by omega, by omega, by rw [i64_iff]; omega, inR_up hm (by omega), ?_⟩
    have hx : x1 + 3 * (i : Int) + 1 + 1 + 1 = x1 + 3 * ((i + 1 : Nat) : Int) := by omega
    have := ih (i + 1) (by omega)
    rw [M10_succ, List.append_assoc] at this
    rw [hx]
    simpa using this

def P10 (x0 : List (Int × ByteArray × ByteArray × Unit)) (x1 : Int) : Prop := 0 ≤ x1 ∧ x1 + 3 * x0.length ≤ 9223372036854775807
def g10_0 (x0 : List (Int × ByteArray × ByteArray × Unit)) (x1 : Int) : Int := x1 + 3 * (x0.length : Int)
def u10_0 (x0 : List (Int × ByteArray × ByteArray × Unit)) (x1 : Int) : List (Int × ByteArray × ByteArray × Unit) := M10 x1 x0.length

theorem top10 (x0 : List (Int × ByteArray × ByteArray × Unit)) (x1 : Int) (hm : x0.length ≤ maxLen) (h : P10 x0 x1) : R10 (x0.length + 1 + 1) x0 x1 [⟨.int .i64, g10_0 x0 x1⟩] [some ⟨(.cons (.int .i64) (.cons .str (.cons .str .unit))), u10_0 x0 x1⟩] := by
  rw [R10]
  have := run10 x0 x1 hm h.1 h.2 x0.length 0 (by omega)
  simpa [M10, g10_0, u10_0] using this

def S10 : Am.Spec := { sig := sig10, pre := fun ⟨x0, x1, _⟩ => P10 x0 x1, upd := fun ⟨x0, x1, _⟩ => [some ⟨(.cons (.int .i64) (.cons .str (.cons .str .unit))), u10_0 x0 x1⟩], res := fun ⟨x0, x1, _⟩ => [⟨.int .i64, g10_0 x0 x1⟩] }
theorem con10 : Contract Try.prog 10 S10 := contract_of Try.func10 hb10 (Nat.le_of_ble_eq_true (by kernel_rfl)) (fun ⟨x0, x1, _⟩ h hwf w0 O q =>
  (snd10 _).1 x0 x1 _ _ (top10 x0 x1 hwf.1.1 h) w0 O q)

end Go.Proofs.Ytgbmdngcpcgaeaa

/- Function 11 (laws.markInt64S): its runs between cut points. Written by a program of this repo (gen). -/
set_option linter.unusedVariables false
set_option linter.unusedSimpArgs false
set_option maxRecDepth 100000
namespace Go.Proofs.Ytgbmdngcpcgaeaa
open Go Go.Am Go.Proofs
def ext11 : Ext := []
theorem ext11Ok : ExtOk Try.prog ext11 := trivial
/-! Function 11. -/
noncomputable def b11 : Code := bodyOf Try.f11
theorem hb11 : Try.f11.body = some b11 := by kernel_rfl
def sig11 : List AT := [AT.own (Ty.int IntKind.i64), AT.v (Ty.int IntKind.i64)]
def tys11 : List Ty := [Ty.int IntKind.i64]
def E11_2 (v5 : Int) (x1 : Int) (x0 : List Int) : Env := [(0, PV.a (Atom.osl 0 Option.none)), (1, PV.a (Atom.val (Value.int IntKind.i64 x1))), (5, PV.a (Atom.val (Value.int IntKind.i64 v5)))]
def L11_2 (v5 : Int) (x1 : Int) (x0 : List Int) : Heap := [Option.some (Arr.mk (Ty.int IntKind.i64) x0 Bool.false)]
mutual
def R11 : Nat → List Int → Int → List Dyn → List (Option Lst) → Prop
  | 0, _, _, _, _ => False
  | n + 1, x0, x1, ds, us => (R11_2 n (0) (x1) (x0) ds us)
def R11_2 : Nat → Int → Int → List Int → List Dyn → List (Option Lst) → Prop
  | 0, _, _, _, _, _ => False
  | n + 1, v5, x1, x0, ds, us => (if (Decidable.decide (v5 < (↑(List.length x0) : Int))) = true then ((0 ≤ v5) ∧ (v5 < (↑(List.length x0) : Int)) ∧ ((InR IntKind.i64 (x1 + 1)) ∧ ((InR IntKind.i64 (v5 + 1)) ∧ (R11_2 n (v5 + 1) (x1 + 1) (List.set x0 (Int.toNat v5) x1) ds us)))) else (ds = [Dyn.mk (Ty.int IntKind.i64) x1] ∧ us = [Option.some (Lst.mk (Ty.int IntKind.i64) x0)]))
end
theorem p11_0 (x0 : List Int) (x1 : Int) : Am.runN tab ext11 false 19 [] 2000 [0] [] [0, 1, 5] [0] [] [.code b11] (entE 0 0 sig11 (x0, x1, ())) (entL sig11 (x0, x1, ())) = some (cutAt b11 2, E11_2 (0) (x1) (x0), L11_2 (0) (x1) (x0), []) := by kernel_rfl
theorem p11_1 (v5 : Int) (x1 : Int) (x0 : List Int) : Am.runN tab ext11 false 19 [] 2000 [0] [] [0, 1, 5] [0] [true] (cutAt b11 2) (E11_2 v5 x1 x0) (L11_2 v5 x1 x0) = some (cutAt b11 2, E11_2 (v5 + 1) (x1 + 1) (List.set x0 (Int.toNat v5) x1), L11_2 (v5 + 1) (x1 + 1) (List.set x0 (Int.toNat v5) x1), [Decidable.decide (v5 < (↑(List.length x0) : Int)) = Bool.true, 0 ≤ v5, v5 < (↑(List.length x0) : Int), InR IntKind.i64 (x1 + 1), InR IntKind.i64 (v5 + 1)]) := by kernel_rfl
theorem p11_2 (v5 : Int) (x1 : Int) (x0 : List Int) : runF tab ext11 false 19 [] 2000 [0] tys11 Try.f11.results [false] (cutAt b11 2) (E11_2 v5 x1 x0) (L11_2 v5 x1 x0) = some ([Dyn.mk (Ty.int IntKind.i64) x1], [Option.some (Lst.mk (Ty.int IntKind.i64) x0)], [Decidable.decide (v5 < (↑(List.length x0) : Int)) = Bool.false]) := by kernel_rfl
theorem snd11 : ∀ n, (∀ (x0 : List Int) (x1 : Int) ds us, R11 n x0 x1 ds us → ∀ w0 O q, AtV Try.prog 11 (PostR ds us [0] q w0 O) 19 w0 O q [0] [.code b11] (entE 0 0 sig11 (x0, x1, ())) (entL sig11 (x0, x1, ()))) ∧ (∀ (v5 : Int) (x1 : Int) (x0 : List Int) ds us, R11_2 n v5 x1 x0 ds us → ∀ w0 O q, AtV Try.prog 11 (PostR ds us [0] q w0 O) 19 w0 O q [0] (cutAt b11 2) (E11_2 v5 x1 x0) (L11_2 v5 x1 x0)) := by
  intro n
  induction n with
  | zero => exact ⟨fun _ _ _ _ h => by simp only [R11] at h, fun _ _ _ _ _ h => by simp only [R11_2] at h⟩
  | succ n ih =>
  obtain ⟨ih, ih2⟩ := ih
  refine ⟨?_, ?_⟩
  · intro x0 x1 ds us h w0 O q
    rw [R11] at h
    exact AtV.runN tabOk ext11Ok mixed (p11_0 x0 x1) trivial (ih2 _ _ _ _ _ h w0 O q)

  · intro v5 x1 x0 ds us h w0 O q
    rw [R11_2] at h
    by_cases b0 : (Decidable.decide (v5 < (↑(List.length x0) : Int))) = true
    · rw [if_pos b0] at h
      obtain ⟨s0, s1, h⟩ := h
      obtain ⟨s2, h⟩ := h
      obtain ⟨s3, h⟩ := h
      exact AtV.runN tabOk ext11Ok mixed (p11_1 v5 x1 x0) ⟨b0, s0, s1, s2, s3, trivial⟩ (ih2 _ _ _ _ _ h w0 O q)
    · rw [if_neg b0] at h
      replace b0 := Bool.eq_false_iff.2 b0
      obtain ⟨h, h'⟩ := h; subst h; subst h'
      exact AtV.fin Try.func11 tabOk ext11Ok mixed (p11_2 v5 x1 x0) ⟨b0, trivial⟩



def M11 (x1 : Int) (n : Nat) : List Int := (List.range n).map fun (j : Nat) => x1 + (j : Int)

theorem M11_len (x1 : Int) (n : Nat) : (M11 x1 n).length = n := by simp [M11]

theorem M11_step (x1 : Int) (x0 : List Int) (i : Nat) (h : i < x0.length) : (M11 x1 i ++ x0.drop i).set i (x1 + (i : Int)) = M11 x1 (i + 1) ++ x0.drop (i + 1) := by
  rw [List.set_append_right _ _ (by rw [M11_len]; exact Nat.le_refl _), M11_len, Nat.sub_self, List.drop_eq_getElem_cons h, List.set_cons_zero]
  simp [M11, List.range_succ]

theorem run11 (x0 : List Int) (x1 : Int) (hm : x0.length ≤ maxLen) (h0 : 0 ≤ x1) (h1 : x1 + x0.length ≤ 9223372036854775807) : ∀ (k i : Nat), i + k = x0.length →
    R11_2 (k + 1) (i : Int) (x1 + (i : Int)) (M11 x1 i ++ x0.drop i) [⟨.int .i64, x1 + (x0.length : Int)⟩] [some ⟨.int .i64, M11 x1 x0.length⟩] := by
  intro k
  induction k with
  | zero =>
    intro i hi
    have hl : (M11 x1 i ++ x0.drop i).length = x0.length := by simp [M11_len]; omega
    rw [R11_2, if_neg (by rw [hl]; simp; omega), drop_end x0 i (by omega), List.append_nil]
    have : i = x0.length := by omega
    subst this
    exact ⟨rfl, rfl⟩
  | succ k ih =>
    intro i hi
    have hl : (M11 x1 i ++ x0.drop i).length = x0.length := by simp [M11_len]; omega
    rw [R11_2, if_pos (by rw [hl]; simp; omega), hl]
    simp only [Int.toNat_natCast]
    refine ⟨by omega, by omega, by rw [i64_iff]; omega, inR_up hm (by omega), ?_⟩
    rw [M11_step x1 x0 i (by omega), Int.add_assoc]
    exact ih (i + 1) (by omega)

def P11 (x0 : List Int) (x1 : Int) : Prop := 0 ≤ x1 ∧ x1 + x0.length ≤ 9223372036854775807
def g11_0 (x0 : List Int) (x1 : Int) : Int := x1 + (x0.length : Int)
def u11_0 (x0 : List Int) (x1 : Int) : List Int := M11 x1 x0.length

theorem top11 (x0 : List Int) (x1 : Int) (hm : x0.length ≤ maxLen) (h : P11 x0 x1) : R11 (x0.length + 1 + 1) x0 x1 [⟨.int .i64, g11_0 x0 x1⟩] [some ⟨.int .i64, u11_0 x0 x1⟩] := by
  rw [R11]
  have := run11 x0 x1 hm h.1 h.2 x0.length 0 (by omega)
  simpa [M11, g11_0, u11_0] using this

def S11 : Am.Spec := { sig := sig11, pre := fun ⟨x0, x1, _⟩ => P11 x0 x1, upd := fun ⟨x0, x1, _⟩ => [some ⟨.int .i64, u11_0 x0 x1⟩], res := fun ⟨x0, x1, _⟩ => [⟨.int .i64, g11_0 x0 x1⟩] }
theorem con11 : Contract Try.prog 11 S11 := contract_of Try.func11 hb11 (Nat.le_of_ble_eq_true (by kernel_rfl)) (fun ⟨x0, x1, _⟩ h hwf w0 O q =>
  (snd11 _).1 x0 x1 _ _ (top11 x0 x1 hwf.1.1 h) w0 O q)

end Go.Proofs.Ytgbmdngcpcgaeaa

/- Function 12 (laws.heldInt64S): its runs between cut points. Written by a program of this repo (gen). -/
set_option linter.unusedVariables false
set_option linter.unusedSimpArgs false
set_option maxRecDepth 100000
namespace Go.Proofs.Ytgbmdngcpcgaeaa
open Go Go.Am Go.Proofs
def ext12 : Ext := []
theorem ext12Ok : ExtOk Try.prog ext12 := trivial
/-! Function 12. -/
noncomputable def b12 : Code := bodyOf Try.f12
theorem hb12 : Try.f12.body = some b12 := by kernel_rfl
def sig12 : List AT := [AT.v (Ty.sl (Ty.int IntKind.i64)), AT.v (Ty.int IntKind.i64)]
def tys12 : List Ty := [Ty.int IntKind.i64]
def E12_2 (v5 : Int) (x0 : List Int) (x1 : Int) : Env := [(0, PV.a (Atom.sl (Ty.int IntKind.i64) x0)), (1, PV.a (Atom.val (Value.int IntKind.i64 x1))), (5, PV.a (Atom.val (Value.int IntKind.i64 v5)))]
def L12_2 (v5 : Int) (x0 : List Int) (x1 : Int) : Heap := []
mutual
def R12 : Nat → List Int → Int → List Dyn → Prop
  | 0, _, _, _ => False
  | n + 1, x0, x1, ds => (R12_2 n (0) (x0) (x1) ds)
def R12_2 : Nat → Int → List Int → Int → List Dyn → Prop
  | 0, _, _, _, _ => False
  | n + 1, v5, x0, x1, ds => (if (Decidable.decide (v5 < (↑(List.length x0) : Int))) = true then ((0 ≤ v5) ∧ (v5 < (↑(List.length x0) : Int)) ∧ (if (List.getD x0 (Int.toNat v5) 0 != x1) = true then (ds = [Dyn.mk (Ty.int IntKind.i64) (-1)]) else ((InR IntKind.i64 (x1 + 1)) ∧ ((InR IntKind.i64 (v5 + 1)) ∧ (R12_2 n (v5 + 1) (x0) (x1 + 1) ds))))) else (ds = [Dyn.mk (Ty.int IntKind.i64) x1]))
end
theorem p12_0 (x0 : List Int) (x1 : Int) : Am.runN tab ext12 false 21 [] 2000 [] [] [0, 1, 5] [] [] [.code b12] (entE 0 0 sig12 (x0, x1, ())) (entL sig12 (x0, x1, ())) = some (cutAt b12 2, E12_2 (0) (x0) (x1), L12_2 (0) (x0) (x1), []) := by kernel_rfl
theorem p12_1 (v5 : Int) (x0 : List Int) (x1 : Int) : runF tab ext12 false 21 [] 2000 [] tys12 Try.f12.results [true, true] (cutAt b12 2) (E12_2 v5 x0 x1) (L12_2 v5 x0 x1) = some ([Dyn.mk (Ty.int IntKind.i64) (-1)], [], [Decidable.decide (v5 < (↑(List.length x0) : Int)) = Bool.true, 0 ≤ v5, v5 < (↑(List.length x0) : Int), (List.getD x0 (Int.toNat v5) 0 != x1) = Bool.true]) := by kernel_rfl
theorem p12_2 (v5 : Int) (x0 : List Int) (x1 : Int) : Am.runN tab ext12 false 21 [] 2000 [] [] [0, 1, 5] [] [true, false] (cutAt b12 2) (E12_2 v5 x0 x1) (L12_2 v5 x0 x1) = some (cutAt b12 2, E12_2 (v5 + 1) (x0) (x1 + 1), L12_2 (v5 + 1) (x0) (x1 + 1), [Decidable.decide (v5 < (↑(List.length x0) : Int)) = Bool.true, 0 ≤ v5, v5 < (↑(List.length x0) : Int), (List.getD x0 (Int.toNat v5) 0 != x1) = Bool.false, InR IntKind.i64 (x1 + 1), InR IntKind.i64 (v5 + 1)]) := by kernel_rfl
theorem p12_3 (v5 : Int) (x0 : List Int) (x1 : Int) : runF tab ext12 false 21 [] 2000 [] tys12 Try.f12.results [false] (cutAt b12 2) (E12_2 v5 x0 x1) (L12_2 v5 x0 x1) = some ([Dyn.mk (Ty.int IntKind.i64) x1], [], [Decidable.decide (v5 < (↑(List.length x0) : Int)) = Bool.false]) := by kernel_rfl
theorem snd12 : ∀ n, (∀ (x0 : List Int) (x1 : Int) ds, R12 n x0 x1 ds → ∀ w0 O q, AtV Try.prog 12 (PostR ds [] [] q w0 O) 21 w0 O q [] [.code b12] (entE 0 0 sig12 (x0, x1, ())) (entL sig12 (x0, x1, ()))) ∧ (∀ (v5 : Int) (x0 : List Int) (x1 : Int) ds, R12_2 n v5 x0 x1 ds → ∀ w0 O q, AtV Try.prog 12 (PostR ds [] [] q w0 O) 21 w0 O q [] (cutAt b12 2) (E12_2 v5 x0 x1) (L12_2 v5 x0 x1)) := by
  intro n
  induction n with
  | zero => exact ⟨fun _ _ _ h => by simp only [R12] at h, fun _ _ _ _ h => by simp only [R12_2] at h⟩
  | succ n ih =>
  obtain ⟨ih, ih2⟩ := ih
  refine ⟨?_, ?_⟩
  · intro x0 x1 ds h w0 O q
    rw [R12] at h
    exact AtV.runN tabOk ext12Ok mixed (p12_0 x0 x1) trivial (ih2 _ _ _ _ h w0 O q)

  · intro v5 x0 x1 ds h w0 O q
    rw [R12_2] at h
    by_cases b0 : (Decidable.decide (v5 < (↑(List.length x0) : Int))) = true
    · rw [if_pos b0] at h
      obtain ⟨s0, s1, h⟩ := h
      by_cases b1 : (List.getD x0 (Int.toNat v5) 0 != x1) = true
      · rw [if_pos b1] at h
        subst h
        exact AtV.fin Try.func12 tabOk ext12Ok mixed (p12_1 v5 x0 x1) ⟨b0, s0, s1, b1, trivial⟩
      · rw [if_neg b1] at h
        replace b1 := Bool.eq_false_iff.2 b1
        obtain ⟨s2, h⟩ := h
        obtain ⟨s3, h⟩ := h
        exact AtV.runN tabOk ext12Ok mixed (p12_2 v5 x0 x1) ⟨b0, s0, s1, b1, s2, s3, trivial⟩ (ih2 _ _ _ _ h w0 O q)
    · rw [if_neg b0] at h
      replace b0 := Bool.eq_false_iff.2 b0
      subst h
      exact AtV.fin Try.func12 tabOk ext12Ok mixed (p12_3 v5 x0 x1) ⟨b0, trivial⟩



theorem run12 (x0 : List Int) (x1 : Int) (hm : x0.length ≤ maxLen) (h0 : 0 ≤ x1) (h1 : x1 + x0.length ≤ 9223372036854775807) (he : ∀ i : Nat, i < x0.length → x0.getD i 0 = x1 + (i : Int)) : ∀ (k i : Nat), i + k = x0.length →
    R12_2 (k + 1) (i : Int) x0 (x1 + (i : Int)) [⟨.int .i64, x1 + (x0.length : Int)⟩] := by
  intro k
  induction k with
  | zero =>
    intro i hi
    rw [R12_2, if_neg (by simp; omega)]
    have : i = x0.length := by omega
    subst this
    rfl
  | succ k ih =>
    intro i hi
    rw [R12_2, if_pos (by simp; omega)]
    simp only [Int.toNat_natCast]
    have hb := he i (by omega)
    refine ⟨by omega, by omega, ?_⟩
    rw [if_neg (by simp only [hb, bne_self_eq_false, Bool.false_eq_true, not_false_eq_true])]
    refine ⟨by rw [i64_iff]; omega, inR_up hm (by omega), ?_⟩
    rw [Int.add_assoc]
    exact ih (i + 1) (by omega)

def P12 (x0 : List Int) (x1 : Int) : Prop := (0 ≤ x1 ∧ x1 + x0.length ≤ 9223372036854775807) ∧ ∀ i : Nat, i < x0.length → x0.getD i 0 = x1 + (i : Int)
def g12_0 (x0 : List Int) (x1 : Int) : Int := x1 + (x0.length : Int)

theorem top12 (x0 : List Int) (x1 : Int) (hm : x0.length ≤ maxLen) (h : P12 x0 x1) : R12 (x0.length + 1 + 1) x0 x1 [⟨.int .i64, g12_0 x0 x1⟩] := by
  rw [R12]
  have := run12 x0 x1 hm h.1.1 h.1.2 h.2 x0.length 0 (by omega)
  simpa [g12_0] using this

def S12 : Am.Spec := { sig := sig12, pre := fun ⟨x0, x1, _⟩ => P12 x0 x1, res := fun ⟨x0, x1, _⟩ => [⟨.int .i64, g12_0 x0 x1⟩] }
theorem con12 : Contract Try.prog 12 S12 := contract_of Try.func12 hb12 (Nat.le_of_ble_eq_true (by kernel_rfl)) (fun ⟨x0, x1, _⟩ h hwf w0 O q =>
  (snd12 _).1 x0 x1 _ (top12 x0 x1 hwf.1.1 h) w0 O q)

end Go.Proofs.Ytgbmdngcpcgaeaa

/- Function 3 (laws.FnExactCountProblems): its runs between cut points. Written by a program of this repo (gen). -/
set_option linter.unusedVariables false
set_option linter.unusedSimpArgs false
set_option maxRecDepth 100000
namespace Go.Proofs.Ytgbmdngcpcgaeaa
open Go Go.Am Go.Proofs
def ext3 : Ext := [(4, S4), (6, S6), (5, S5), (7, S7), (8, S8), (9, S9), (10, S10), (11, S11), (12, S12)]
theorem call3_4 : Callable Try.prog 4 := ⟨Try.f4, Try.func4, by kernel_rfl, by kernel_rfl⟩
theorem call3_6 : Callable Try.prog 6 := ⟨Try.f6, Try.func6, by kernel_rfl, by kernel_rfl⟩
theorem call3_5 : Callable Try.prog 5 := ⟨Try.f5, Try.func5, by kernel_rfl, by kernel_rfl⟩
theorem call3_7 : Callable Try.prog 7 := ⟨Try.f7, Try.func7, by kernel_rfl, by kernel_rfl⟩
theorem call3_8 : Callable Try.prog 8 := ⟨Try.f8, Try.func8, by kernel_rfl, by kernel_rfl⟩
theorem call3_9 : Callable Try.prog 9 := ⟨Try.f9, Try.func9, by kernel_rfl, by kernel_rfl⟩
theorem call3_10 : Callable Try.prog 10 := ⟨Try.f10, Try.func10, by kernel_rfl, by kernel_rfl⟩
theorem call3_11 : Callable Try.prog 11 := ⟨Try.f11, Try.func11, by kernel_rfl, by kernel_rfl⟩
theorem call3_12 : Callable Try.prog 12 := ⟨Try.f12, Try.func12, by kernel_rfl, by kernel_rfl⟩
theorem ext3Ok : ExtOk Try.prog ext3 := ⟨⟨call3_4, con4⟩, ⟨call3_6, con6⟩, ⟨call3_5, con5⟩, ⟨call3_7, con7⟩, ⟨call3_8, con8⟩, ⟨call3_9, con9⟩, ⟨call3_10, con10⟩, ⟨call3_11, con11⟩, ⟨call3_12, con12⟩, trivial⟩
/-! Function 3. -/
noncomputable def b3 : Code := bodyOf Try.f3
theorem hb3 : Try.f3.body = some b3 := by kernel_rfl
def sig3 : List AT := [AT.v (Ty.sl (Ty.cons (Ty.int IntKind.i64) (Ty.cons Ty.str (Ty.cons Ty.str Ty.unit))))]
def tys3 : List Ty := [Ty.bool]
def P3 (x0 : List (Int × ByteArray × ByteArray × Unit)) : Prop := ((P4 x0 1048576) ∧ (if (Decidable.decide (g4_0 x0 1048576 < 0)) = true then True else ((P6 x0) ∧ ((P5 (g6_0 x0)) ∧ ((P6 x0) ∧ ((P7 (g6_0 x0)) ∧ (if (!g8_0 (g7_0 (g6_0 x0)) (g5_0 (g6_0 x0))) = true then True else ((P6 x0) ∧ (if (!g9_0 (g6_0 x0) (g6_0 x0)) = true then True else ((P10 (g6_0 x0) 1) ∧ (List.length (u10_0 (g6_0 x0) 1) = List.length (g6_0 x0)) ∧ (if (Decidable.decide (g10_0 (g6_0 x0) 1 < 0)) = true then True else ((P11 (g7_0 (g6_0 x0)) 1) ∧ (List.length (u11_0 (g7_0 (g6_0 x0)) 1) = List.length (g7_0 (g6_0 x0))) ∧ ((P12 (u11_0 (g7_0 (g6_0 x0)) 1) 1) ∧ (if (Decidable.decide (g12_0 (u11_0 (g7_0 (g6_0 x0)) 1) 1 < 0)) = true then True else (if (g12_0 (u11_0 (g7_0 (g6_0 x0)) 1) 1 != g11_0 (g7_0 (g6_0 x0)) 1) = true then True else ((P6 x0) ∧ ((P7 (g6_0 x0)) ∧ ((P12 (u11_0 (g7_0 (g6_0 x0)) 1) 1) ∧ True))))))))))))))))))
def g3_0 (x0 : List (Int × ByteArray × ByteArray × Unit)) : Bool := (if (Decidable.decide (g4_0 x0 1048576 < 0)) = true then Bool.true else (if (!g8_0 (g7_0 (g6_0 x0)) (g5_0 (g6_0 x0))) = true then Bool.false else (if (!g9_0 (g6_0 x0) (g6_0 x0)) = true then Bool.false else (if (Decidable.decide (g10_0 (g6_0 x0) 1 < 0)) = true then Bool.false else (if (Decidable.decide (g12_0 (u11_0 (g7_0 (g6_0 x0)) 1) 1 < 0)) = true then Bool.false else (if (g12_0 (u11_0 (g7_0 (g6_0 x0)) 1) 1 != g11_0 (g7_0 (g6_0 x0)) 1) = true then Bool.false else Bool.true))))))
theorem p3_0 (x0 : List (Int × ByteArray × ByteArray × Unit)) : runF tab ext3 false 69 [] 2000 [] tys3 Try.f3.results [true] [.code b3] (entE 0 0 sig3 (x0, ())) (entL sig3 (x0, ())) = some ([Dyn.mk Ty.bool Bool.true], [], [P4 x0 1048576, Decidable.decide (g4_0 x0 1048576 < 0) = Bool.true]) := by kernel_rfl
theorem p3_1 (x0 : List (Int × ByteArray × ByteArray × Unit)) : runF tab ext3 false 69 [] 2000 [] tys3 Try.f3.results [false, true] [.code b3] (entE 0 0 sig3 (x0, ())) (entL sig3 (x0, ())) = some ([Dyn.mk Ty.bool Bool.false], [], [P4 x0 1048576, Decidable.decide (g4_0 x0 1048576 < 0) = Bool.false, P6 x0, P5 (g6_0 x0), P6 x0, P7 (g6_0 x0), True, (!g8_0 (g7_0 (g6_0 x0)) (g5_0 (g6_0 x0))) = Bool.true]) := by kernel_rfl
theorem p3_2 (x0 : List (Int × ByteArray × ByteArray × Unit)) : runF tab ext3 false 69 [] 2000 [] tys3 Try.f3.results [false, false, true] [.code b3] (entE 0 0 sig3 (x0, ())) (entL sig3 (x0, ())) = some ([Dyn.mk Ty.bool Bool.false], [], [P4 x0 1048576, Decidable.decide (g4_0 x0 1048576 < 0) = Bool.false, P6 x0, P5 (g6_0 x0), P6 x0, P7 (g6_0 x0), True, (!g8_0 (g7_0 (g6_0 x0)) (g5_0 (g6_0 x0))) = Bool.false, P6 x0, True, (!g9_0 (g6_0 x0) (g6_0 x0)) = Bool.true]) := by kernel_rfl
theorem p3_3 (x0 : List (Int × ByteArray × ByteArray × Unit)) : runF tab ext3 false 69 [] 2000 [] tys3 Try.f3.results [false, false, false, true, true] [.code b3] (entE 0 0 sig3 (x0, ())) (entL sig3 (x0, ())) = some ([Dyn.mk Ty.bool Bool.false], [], [P4 x0 1048576, Decidable.decide (g4_0 x0 1048576 < 0) = Bool.false, P6 x0, P5 (g6_0 x0), P6 x0, P7 (g6_0 x0), True, (!g8_0 (g7_0 (g6_0 x0)) (g5_0 (g6_0 x0))) = Bool.false, P6 x0, True, (!g9_0 (g6_0 x0) (g6_0 x0)) = Bool.false, P10 (g6_0 x0) 1, List.length (u10_0 (g6_0 x0) 1) = List.length (g6_0 x0), Decidable.decide (g10_0 (g6_0 x0) 1 < 0) = Bool.true, Bool.true = Bool.true]) := by kernel_rfl
theorem p3_4 (x0 : List (Int × ByteArray × ByteArray × Unit)) : runF tab ext3 false 69 [] 2000 [] tys3 Try.f3.results [false, false, false, false, false, true] [.code b3] (entE 0 0 sig3 (x0, ())) (entL sig3 (x0, ())) = some ([Dyn.mk Ty.bool Bool.false], [], [P4 x0 1048576, Decidable.decide (g4_0 x0 1048576 < 0) = Bool.false, P6 x0, P5 (g6_0 x0), P6 x0, P7 (g6_0 x0), True, (!g8_0 (g7_0 (g6_0 x0)) (g5_0 (g6_0 x0))) = Bool.false, P6 x0, True, (!g9_0 (g6_0 x0) (g6_0 x0)) = Bool.false, P10 (g6_0 x0) 1, List.length (u10_0 (g6_0 x0) 1) = List.length (g6_0 x0), Decidable.decide (g10_0 (g6_0 x0) 1 < 0) = Bool.false, True, (!g8_0 (g7_0 (g6_0 x0)) (g5_0 (g6_0 x0))) = Bool.false, P11 (g7_0 (g6_0 x0)) 1, List.length (u11_0 (g7_0 (g6_0 x0)) 1) = List.length (g7_0 (g6_0 x0)), P12 (u11_0 (g7_0 (g6_0 x0)) 1) 1, Decidable.decide (g12_0 (u11_0 (g7_0 (g6_0 x0)) 1) 1 < 0) = Bool.true]) := by kernel_rfl
theorem p3_5 (x0 : List (Int × ByteArray × ByteArray × Unit)) : runF tab ext3 false 69 [] 2000 [] tys3 Try.f3.results [false, false, false, false, false, false, true] [.code b3] (entE 0 0 sig3 (x0, ())) (entL sig3 (x0, ())) = some ([Dyn.mk Ty.bool Bool.false], [], [P4 x0 1048576, Decidable.decide (g4_0 x0 1048576 < 0) = Bool.false, P6 x0, P5 (g6_0 x0), P6 x0, P7 (g6_0 x0), True, (!g8_0 (g7_0 (g6_0 x0)) (g5_0 (g6_0 x0))) = Bool.false, P6 x0, True, (!g9_0 (g6_0 x0) (g6_0 x0)) = Bool.false, P10 (g6_0 x0) 1, List.length (u10_0 (g6_0 x0) 1) = List.length (g6_0 x0), Decidable.decide (g10_0 (g6_0 x0) 1 < 0) = Bool.false, True, (!g8_0 (g7_0 (g6_0 x0)) (g5_0 (g6_0 x0))) = Bool.false, P11 (g7_0 (g6_0 x0)) 1, List.length (u11_0 (g7_0 (g6_0 x0)) 1) = List.length (g7_0 (g6_0 x0)), P12 (u11_0 (g7_0 (g6_0 x0)) 1) 1, Decidable.decide (g12_0 (u11_0 (g7_0 (g6_0 x0)) 1) 1 < 0) = Bool.false, (g12_0 (u11_0 (g7_0 (g6_0 x0)) 1) 1 != g11_0 (g7_0 (g6_0 x0)) 1) = Bool.true]) := by kernel_rfl
theorem p3_6 (x0 : List (Int × ByteArray × ByteArray × Unit)) : runF tab ext3 false 69 [] 2000 [] tys3 Try.f3.results [false, false, false, false, false, false, false, false, false, false] [.code b3] (entE 0 0 sig3 (x0, ())) (entL sig3 (x0, ())) = some ([Dyn.mk Ty.bool Bool.true], [], [P4 x0 1048576, Decidable.decide (g4_0 x0 1048576 < 0) = Bool.false, P6 x0, P5 (g6_0 x0), P6 x0, P7 (g6_0 x0), True, (!g8_0 (g7_0 (g6_0 x0)) (g5_0 (g6_0 x0))) = Bool.false, P6 x0, True, (!g9_0 (g6_0 x0) (g6_0 x0)) = Bool.false, P10 (g6_0 x0) 1, List.length (u10_0 (g6_0 x0) 1) = List.length (g6_0 x0), Decidable.decide (g10_0 (g6_0 x0) 1 < 0) = Bool.false, True, (!g8_0 (g7_0 (g6_0 x0)) (g5_0 (g6_0 x0))) = Bool.false, P11 (g7_0 (g6_0 x0)) 1, List.length (u11_0 (g7_0 (g6_0 x0)) 1) = List.length (g7_0 (g6_0 x0)), P12 (u11_0 (g7_0 (g6_0 x0)) 1) 1, Decidable.decide (g12_0 (u11_0 (g7_0 (g6_0 x0)) 1) 1 < 0) = Bool.false, (g12_0 (u11_0 (g7_0 (g6_0 x0)) 1) 1 != g11_0 (g7_0 (g6_0 x0)) 1) = Bool.false, P6 x0, P7 (g6_0 x0), True, (!g8_0 (g7_0 (g6_0 x0)) (g5_0 (g6_0 x0))) = Bool.false, P12 (u11_0 (g7_0 (g6_0 x0)) 1) 1, Decidable.decide (g12_0 (u11_0 (g7_0 (g6_0 x0)) 1) 1 < 0) = Bool.false, (g12_0 (u11_0 (g7_0 (g6_0 x0)) 1) 1 != g11_0 (g7_0 (g6_0 x0)) 1) = Bool.false]) := by kernel_rfl
theorem at3 (x0 : List (Int × ByteArray × ByteArray × Unit)) (h : P3 x0) (w0 : World) (O : List Nat) (q : Nat → Value) : AtV Try.prog 3 (PostR [⟨Ty.bool, g3_0 x0⟩] [] [] q w0 O) 69 w0 O q [] [.code b3] (entE 0 0 sig3 (x0, ())) (entL sig3 (x0, ())) := by
  unfold P3 at h
  unfold g3_0
  obtain ⟨s0, h⟩ := h
  by_cases b0 : (Decidable.decide (g4_0 x0 1048576 < 0)) = true
  · try simp only [if_pos b0] at h ⊢
    exact AtV.fin Try.func3 tabOk ext3Ok mixed (p3_0 x0) ⟨s0, b0, trivial⟩
  · try simp only [if_neg b0] at h ⊢
    replace b0 := Bool.eq_false_iff.2 b0
    obtain ⟨s1, h⟩ := h
    obtain ⟨s2, h⟩ := h
    obtain ⟨s3, h⟩ := h
    obtain ⟨s4, h⟩ := h
    by_cases b1 : (!g8_0 (g7_0 (g6_0 x0)) (g5_0 (g6_0 x0))) = true
    · try simp only [if_pos b1] at h ⊢
      exact AtV.fin Try.func3 tabOk ext3Ok mixed (p3_1 x0) ⟨s0, b0, s1, s2, s3, s4, trivial, b1, trivial⟩
    · try simp only [if_neg b1] at h ⊢
      replace b1 := Bool.eq_false_iff.2 b1
      obtain ⟨s5, h⟩ := h
      by_cases b2 : (!g9_0 (g6_0 x0) (g6_0 x0)) = true
      · try simp only [if_pos b2] at h ⊢
        exact AtV.fin Try.func3 tabOk ext3Ok mixed (p3_2 x0) ⟨s0, b0, s1, s2, s3, s4, trivial, b1, s5, trivial, b2, trivial⟩
      · try simp only [if_neg b2] at h ⊢
        replace b2 := Bool.eq_false_iff.2 b2
        obtain ⟨s6, s7, h⟩ := h
        by_cases b3 : (Decidable.decide (g10_0 (g6_0 x0) 1 < 0)) = true
        · try simp only [if_pos b3] at h ⊢
          exact AtV.fin Try.func3 tabOk ext3Ok mixed (p3_3 x0) ⟨s0, b0, s1, s2, s3, s4, trivial, b1, s5, trivial, b2, s6, s7, b3, rfl, trivial⟩
        · try simp only [if_neg b3] at h ⊢
          replace b3 := Bool.eq_false_iff.2 b3
          obtain ⟨s8, s9, h⟩ := h
          obtain ⟨s10, h⟩ := h
          by_cases b4 : (Decidable.decide (g12_0 (u11_0 (g7_0 (g6_0 x0)) 1) 1 < 0)) = true
          · try simp only [if_pos b4] at h ⊢
            exact AtV.fin Try.func3 tabOk ext3Ok mixed (p3_4 x0) ⟨s0, b0, s1, s2, s3, s4, trivial, b1, s5, trivial, b2, s6, s7, b3, trivial, b1, s8, s9, s10, b4, trivial⟩
          · try simp only [if_neg b4] at h ⊢
            replace b4 := Bool.eq_false_iff.2 b4
            by_cases b5 : (g12_0 (u11_0 (g7_0 (g6_0 x0)) 1) 1 != g11_0 (g7_0 (g6_0 x0)) 1) = true
            · try simp only [if_pos b5] at h ⊢
              exact AtV.fin Try.func3 tabOk ext3Ok mixed (p3_5 x0) ⟨s0, b0, s1, s2, s3, s4, trivial, b1, s5, trivial, b2, s6, s7, b3, trivial, b1, s8, s9, s10, b4, b5, trivial⟩
            · try simp only [if_neg b5] at h ⊢
              replace b5 := Bool.eq_false_iff.2 b5
              obtain ⟨s11, h⟩ := h
              obtain ⟨s12, h⟩ := h
              obtain ⟨s13, h⟩ := h
              exact AtV.fin Try.func3 tabOk ext3Ok mixed (p3_6 x0) ⟨s0, b0, s1, s2, s3, s4, trivial, b1, s5, trivial, b2, s6, s7, b3, trivial, b1, s8, s9, s10, b4, b5, s11, s12, trivial, b1, s13, b4, b5, trivial⟩

def S3 : Am.Spec := { sig := sig3, pre := fun ⟨x0, _⟩ => P3 x0, res := fun ⟨x0, _⟩ => [⟨Ty.bool, g3_0 x0⟩] }
theorem con3 : Contract Try.prog 3 S3 := contract_of Try.func3 hb3 (Nat.le_of_ble_eq_true (by kernel_rfl)) (fun ⟨x0, _⟩ h _ w0 O q => at3 x0 h w0 O q)


end Go.Proofs.Ytgbmdngcpcgaeaa

/- A law that says how functions of the program and of the specification hang together. -/
set_option linter.unusedVariables false
set_option linter.unusedSimpArgs false
set_option maxRecDepth 100000
namespace Go.Proofs.Ytgbmdngcpcgaeaa
open Go Go.Am Go.Proofs

theorem kinds_same (k : Int) : g14_0 k = g19_0 k := by
  rw [Bool.eq_iff_iff, kind5, kind7]

theorem bump_comm (h : List Int) (k c : Int) (hk : 1 ≤ k) : bump1 (h.set 0 c) k = (bump1 h k).set 0 c := by
  unfold bump1
  have hk0 : k.toNat ≠ 0 := by omega
  rw [List.set_comm _ _ hk0.symm]
  congr 2
  rw [List.getD_eq_getElem?_getD, List.getD_eq_getElem?_getD, List.getElem?_set_ne hk0.symm]

theorem count_fold : ∀ (l : List (Int × ByteArray × ByteArray × Unit)) (h : List Int), h.length = 7 →
    l.foldl step5 h = ((l.filter fun x => g19_0 x.1).foldl (fun h x => bump1 h x.1) h).set 0 (h.getD 0 0 + (l.filter fun x => g19_0 x.1).length)
  | [], h, h7 => by
    match h, h7 with
    | a :: r, _ => simp
  | x :: l, h, h7 => by
    rw [List.foldl_cons, List.filter_cons]
    unfold step5
    rw [kinds_same]
    cases hk : g19_0 x.1 with
    | false =>
      simp only [Bool.false_eq_true, if_false]
      exact count_fold l h h7
    | true =>
      simp only [if_true]
      obtain ⟨k1, k6⟩ := (kind7 _).1 hk
      have h7' : (bump1 (bump1 h x.1) 0).length = 7 := by rw [bump1_length, bump1_length]; exact h7
      show List.foldl step5 (bump1 (bump1 h x.1) 0) l = _
      rw [count_fold l _ h7', List.foldl_cons]
      have hz : ((0 : Int)).toNat = 0 := rfl
      have e1 : (bump1 (bump1 h x.1) 0).getD 0 0 = h.getD 0 0 + 1 := by
        have hk0 : x.1.toNat ≠ 0 := by omega
        unfold bump1
        simp only [hz]
        rw [List.getD_eq_getElem?_getD, List.getElem?_set_self (by rw [List.length_set]; omega), Option.getD_some, List.getD_eq_getElem?_getD, List.getElem?_set_ne hk0, ← List.getD_eq_getElem?_getD]
      rw [e1]
      have comm : ∀ (l : List (Int × ByteArray × ByteArray × Unit)) (h : List Int) (c : Int), (∀ y ∈ l, 1 ≤ y.1) → l.foldl (fun h x => bump1 h x.1) (h.set 0 c) = (l.foldl (fun h x => bump1 h x.1) h).set 0 c := by
        intro l
        induction l with
        | nil => intro h c _; rfl
        | cons y l ih =>
          intro h c hy
          rw [List.foldl_cons, List.foldl_cons, bump_comm _ _ _ (hy y (List.mem_cons_self ..))]
          exact ih _ _ (fun z hz => hy z (List.mem_cons_of_mem _ hz))
      have hall : ∀ y ∈ l.filter fun x => g19_0 x.1, 1 ≤ y.1 := fun y hy => ((kind7 _).1 (List.mem_filter.1 hy).2).1
      have e2 : bump1 (bump1 h x.1) 0 = (bump1 h x.1).set 0 ((bump1 h x.1).getD 0 0 + 1) := rfl
      rw [e2, comm _ _ _ hall, List.set_set, List.length_cons]
      congr 1
      omega

theorem countP_eq (x : List (Int × ByteArray × ByteArray × Unit)) : g7_0 x = g5_0 x ∧ (g5_0 x).length = 7 := by
  have hl : ∀ (l : List (Int × ByteArray × ByteArray × Unit)) (h : List Int), (l.foldl (fun h x => bump1 h x.1) h).length = h.length := by
    intro l
    induction l with
    | nil => intro h; rfl
    | cons y l ih => intro h; rw [List.foldl_cons, ih, bump1_length]
  have comm : ∀ (l : List (Int × ByteArray × ByteArray × Unit)) (h : List Int) (c : Int), (∀ y ∈ l, 1 ≤ y.1) → l.foldl (fun h x => bump1 h x.1) (h.set 0 c) = (l.foldl (fun h x => bump1 h x.1) h).set 0 c := by
    intro l
    induction l with
    | nil => intro h c _; rfl
    | cons y l ih =>
      intro h c hy
      rw [List.foldl_cons, List.foldl_cons, bump_comm _ _ _ (hy y (List.mem_cons_self ..))]
      exact ih _ _ (fun z hz => hy z (List.mem_cons_of_mem _ hz))
  unfold g7_0 g5_0
  rw [count_fold _ _ rfl, known_eq7]
  constructor
  · have hall : ∀ y ∈ x.filter fun x => g19_0 x.1, 1 ≤ y.1 := fun y hy => ((kind7 _).1 (List.mem_filter.1 hy).2).1
    rw [← comm _ _ _ hall]
    unfold g20_0
    simp
  · rw [List.length_set, hl]
    rfl

end Go.Proofs.Ytgbmdngcpcgaeaa

/- A law that says how functions of the program and of the specification hang together. -/
set_option linter.unusedVariables false
set_option linter.unusedSimpArgs false
set_option maxRecDepth 100000
namespace Go.Proofs.Ytgbmdngcpcgaeaa
open Go Go.Am Go.Proofs

theorem marked_int (xs : List Int) (h : xs.length ≤ 1048576) : P11 xs 1 ∧ (u11_0 xs 1).length = xs.length ∧ P12 (u11_0 xs 1) 1 ∧
    g12_0 (u11_0 xs 1) 1 = g11_0 xs 1 ∧ ¬ g11_0 xs 1 < 0 := by
  have hl : (u11_0 xs 1).length = xs.length := by rw [u11_0, M11_len]
  refine ⟨⟨by omega, by omega⟩, hl, ⟨⟨by omega, by rw [hl]; omega⟩, fun i hi => ?_⟩, ?_, ?_⟩
  · rw [hl] at hi
    rw [getD_lt _ _ _ (by rw [hl]; exact hi)]
    simp [u11_0, M11]
  · unfold g12_0 g11_0
    rw [hl]
  · unfold g11_0
    omega

end Go.Proofs.Ytgbmdngcpcgaeaa

/- A law that says how functions of the program and of the specification hang together. -/
set_option linter.unusedVariables false
set_option linter.unusedSimpArgs false
set_option maxRecDepth 100000
namespace Go.Proofs.Ytgbmdngcpcgaeaa
open Go Go.Am Go.Proofs

theorem marked_problem (xs : List (Int × ByteArray × ByteArray × Unit)) (h : xs.length ≤ 1048576) : P10 xs 1 ∧ (u10_0 xs 1).length = xs.length ∧ ¬ g10_0 xs 1 < 0 := by
  have hl : (u10_0 xs 1).length = xs.length := by rw [u10_0, M10_len]
  refine ⟨⟨by omega, by omega⟩, hl, ?_⟩
  unfold g10_0
  omega

end Go.Proofs.Ytgbmdngcpcgaeaa

/- The plain law of FnExactCountProblems. -/
set_option linter.unusedVariables false
set_option linter.unusedSimpArgs false
set_option maxRecDepth 100000
namespace Go.Proofs.Ytgbmdngcpcgaeaa
open Go Go.Am Go.Proofs

theorem law3 (x : List (Int × ByteArray × ByteArray × Unit)) (hw : Wf (.sl (.cons (.int .i64) (.cons .str (.cons .str .unit)))) x) : P3 x ∧ g3_0 x = true := by
  unfold P3 g3_0
  have hz : P4 x 1048576 := by
    exact (show (0 : Int) ≤ 1048576 from by decide)
  by_cases h : g4_0 x 1048576 < 0
  · simp only [h, decide_true, if_true, and_true]
    exact hz
  · have hs := g4_le x 1048576 (by decide) (by decide) hw h
    have hge : 0 ≤ g4_0 x 1048576 := by omega
    have hp : P6 x := by
      unfold P6
      omega
    have hl : x.length ≤ 1048576 := by omega
    obtain ⟨e0, e7⟩ := countP_eq x
    have q1 : P5 x := hl
    have q2 : P7 x := hl
    obtain ⟨b1, b2, b5⟩ := marked_problem x (by omega)
    obtain ⟨m1, m2, m3, m4, m5⟩ := marked_int (g5_0 x) (by omega)
    simp only [h, decide_false, Bool.false_eq_true, if_false, g6_0, e0, q1, q2, g9_0, g8_0, decide_true, Bool.not_true, bne_self_eq_false, b1, b2, b5, m1, m2, m3, m4, m5, hp, hz, true_and, and_self]

end Go.Proofs.Ytgbmdngcpcgaeaa
