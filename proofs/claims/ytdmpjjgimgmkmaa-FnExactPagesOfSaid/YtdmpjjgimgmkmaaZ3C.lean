/- Several texts in one: the functions that this law reaches, and their laws. -/
import Derived.Test.YtdmpjjgimgmkmaaZ3A
import Derived.Test.YtdmpjjgimgmkmaaZ3B
import Derived.ProofKit
import Derived.Carry
import Derived.HandedShaped
import Derived.Stop.Joined
import Derived.Lib.Repeat
import Derived.Laws.AppendOwn
import Derived.Sort.Row
import Derived.Sort.Grow
import Derived.Lib.Strings
import Derived.Lib.ItoaLen
import Derived.Lib.SplitLaws
import Derived.Lib.Join
import Derived.Lib.LaidTab
import Derived.Stop.LaidErr
import Derived.Laws.IdiomCopy
import Derived.Test.YtdmpjjgimgmkmaaRows
import Derived.KernelRfl
import Derived.Shelf.Vars
import Derived.WalkKit
import Derived.Lib.Walk
import Derived.Lib.SliceRun
import Derived.Laws.OwnMore
import Derived.Deep.LoopGhost
import Derived.Shelf.RegionOpenPlain

/- The abstract machine, part 49: weakening the state, renumbering the arrays. -/
namespace Go.Am
set_option linter.unusedVariables false
set_option linter.unusedSimpArgs false


def keepE (E : Env) : List Nat → Env
  | [] => []
  | i :: r => (i, E.get i) :: keepE E r

theorem get_keepE (E : Env) : ∀ (ks : List Nat) (i : Nat), (keepE E ks).get i = if memB i ks = true then E.get i else .a .junk
  | [], i => rfl
  | j :: r, i => by
    simp only [keepE, Env.get, memB]
    cases h : Nat.beq j i with
    | true =>
      obtain rfl := Nat.eq_of_beq_eq_true h
      simp
    | false =>
      have : Nat.beq i j = false := nbeq_false (fun e => by subst e; simp at h)
      simp [this, get_keepE E r i]

section
variable {P : Program} {n : Nat} {q : Nat → Value} {K : Ctx} {G : Nat → Prop} {w0 w : World} {a : Act} {V : Nat → Value} {own : Nat → List Nat} {f : FuncId} {R : Ending → World → Prop} {E : Env} {L : Heap}

theorem RelV.keepE (hR : RelV n K w0 G w a E L V own) (ks : List Nat) : RelV n K w0 G w a (Am.keepE E ks) L V own :=
  ⟨hR.glob, hR.kept, hR.size, hR.defers, hR.glt, hR.gref, hR.gsub, hR.gold, hR.gup, hR.heap, hR.good, hR.nodup, hR.apart, hR.boxs, hR.small, fun i => by
    rw [get_keepE]
    split
    · exact hR.env i
    · trivial⟩


def idxN (r : Nat) : List Nat → Nat
  | [] => 0
  | x :: l => cond (Nat.beq x r) 0 (idxN r l + 1)

def getN : List Nat → Nat → Nat
  | [], _ => 0
  | x :: _, 0 => x
  | _ :: l, n + 1 => getN l n

def renF (rs : List Nat) : Leaf → Leaf
  | .osl r rg => .osl (idxN r rs) rg
  | l => l

def renA (rs : List Nat) : Atom → Atom
  | .osl r rg => .osl (idxN r rs) rg
  | .optr r i p => .optr (idxN r rs) i p
  | .rcd t ls => .rcd t (ls.map (renF rs))
  | .bptr r o t => .bptr (idxN r rs) o t
  | A => A

def renR (rs : List Nat) (A : Arr) : Arr := match A.ls with
  | some ls => ⟨A.t, A.xs, A.bor, some (ls.map (renF rs)), A.sm⟩
  | none => A

def renP (rs : List Nat) : PV → PV
  | .a A => .a (renA rs A)
  | .tup xs => .tup (xs.map (renA rs))
  | .fn f xs => .fn f (xs.map (renA rs))

def renE (rs : List Nat) (E : Env) : Env := E.map fun q => (q.1, renP rs q.2)

def pickL (rs : List Nat) (L : Heap) : Heap := rs.map fun r => match hget L r with | some A => some (renR rs A) | none => none

def inAll (rs : List Nat) : List Nat → Bool
  | [] => true
  | r :: s => memB r rs && inAll rs s

def envIn (rs : List Nat) : Env → Bool
  | [] => true
  | (_, p) :: r => inAll rs (refsP p) && envIn rs r

def heapIn (rs : List Nat) (L : Heap) : List Nat → Bool
  | [] => true
  | r :: s => (match hget L r with
    | some A => match A.ls with
      | some ls => inAll rs (refLs ls)
      | none => true
    | none => true) && heapIn rs L s

theorem hget_pickL_aux (rs0 : List Nat) : ∀ (rs : List Nat) (L : Heap) (s : Nat) {A : Arr}, hget (rs.map fun r => match hget L r with | some A => some (renR rs0 A) | none => none) s = some A → s < rs.length ∧ ∃ B, hget L (getN rs s) = some B ∧ A = renR rs0 B
  | [], L, s, A, h => by cases s <;> cases h
  | r :: rs, L, 0, A, h => by
    simp only [List.map_cons, hget] at h
    cases hB : hget L r with
    | none => rw [hB] at h; cases h
    | some B => rw [hB] at h; cases h; exact ⟨by simp, B, hB, rfl⟩
  | r :: rs, L, s + 1, A, h => by
    obtain ⟨h1, h2⟩ := hget_pickL_aux rs0 rs L s h
    exact ⟨by simp; omega, h2⟩

theorem hget_pickL (rs : List Nat) (L : Heap) (s : Nat) {A : Arr} (h : hget (pickL rs L) s = some A) : s < rs.length ∧ ∃ B, hget L (getN rs s) = some B ∧ A = renR rs B := hget_pickL_aux rs rs L s h

theorem pick_idx_aux (rs0 : List Nat) : ∀ (rs : List Nat) (L : Heap) (r : Nat), memB r rs = true → hget (rs.map fun r => match hget L r with | some A => some (renR rs0 A) | none => none) (idxN r rs) = (hget L r).map (renR rs0) ∧ getN rs (idxN r rs) = r
  | [], L, r, h => by cases h
  | x :: rs, L, r, h => by
    simp only [memB, Bool.or_eq_true] at h
    simp only [idxN]
    cases hb : Nat.beq x r with
    | true =>
      obtain rfl := Nat.eq_of_beq_eq_true hb
      refine ⟨?_, rfl⟩
      simp only [List.map_cons, cond_true, hget]
      cases hget L x <;> rfl
    | false =>
      have : memB r rs = true := by
        rcases h with h | h
        · have := Nat.eq_of_beq_eq_true h
          subst this
          simp at hb
        · exact h
      exact pick_idx_aux rs0 rs L r this

theorem pick_idx (rs : List Nat) (L : Heap) (r : Nat) (h : memB r rs = true) : hget (pickL rs L) (idxN r rs) = (hget L r).map (renR rs) ∧ getN rs (idxN r rs) = r := pick_idx_aux rs rs L r h

theorem renR_t (rs : List Nat) (A : Arr) : (renR rs A).t = A.t := by unfold renR; split <;> rfl
theorem renR_sm (rs : List Nat) (A : Arr) : (renR rs A).sm = A.sm := by unfold renR; split <;> rfl
theorem renR_bor (rs : List Nat) (A : Arr) : (renR rs A).bor = A.bor := by unfold renR; split <;> rfl
theorem renR_len (rs : List Nat) (A : Arr) : (renR rs A).xs.length = A.xs.length := by unfold renR; split <;> rfl
theorem renR_ent {w0 w : World} {G : Nat → Prop} {rs : List Nat} {A : Arr} {v : Value} {bs : List Nat} : EntC w0 G w (renR rs A) v bs ↔ EntC w0 G w A v bs := by
  unfold renR
  split
  · exact Iff.rfl
  · exact Iff.rfl
theorem renR_ls {rs : List Nat} {A : Arr} : (∀ ls, A.ls = some ls → (renR rs A).ls = some (ls.map (renF rs))) ∧ ∀ ls', (renR rs A).ls = some ls' → ∃ ls, A.ls = some ls ∧ ls' = ls.map (renF rs) := by
  unfold renR
  split
  · rename_i ls h
    refine ⟨fun l hl => ?_, fun l hl => ?_⟩
    · rw [h] at hl; cases hl; rfl
    · cases hl; exact ⟨ls, h, rfl⟩
  · rename_i h
    refine ⟨fun l hl => ?_, fun l hl => ?_⟩
    · rw [h] at hl; cases hl
    · rw [h] at hl; cases hl

theorem heapIn_spec {rs : List Nat} {L : Heap} : ∀ {l : List Nat}, heapIn rs L l = true → ∀ r ∈ l, ∀ A ls, hget L r = some A → A.ls = some ls → inAll rs (refLs ls) = true
  | [], _, r, hr, _, _, _, _ => by cases hr
  | x :: l, h, r, hr, A, ls, hA, hls => by
    simp only [heapIn, Bool.and_eq_true] at h
    rcases List.mem_cons.1 hr with rfl | hr
    · have := h.1
      rw [hA] at this
      simp only [hls] at this
      exact this
    · exact heapIn_spec h.2 r hr A ls hA hls

theorem getN_mem : ∀ (rs : List Nat) (s : Nat), s < rs.length → getN rs s ∈ rs
  | [], s, h => by simp at h
  | x :: rs, 0, _ => by simp [getN]
  | x :: rs, s + 1, h => List.mem_cons_of_mem _ (getN_mem rs s (by simpa using h))

theorem getN_inj : ∀ (rs : List Nat), nodupB rs = true → ∀ s u, s < rs.length → u < rs.length → getN rs s = getN rs u → s = u
  | [], _, s, u, h, _, _ => by simp at h
  | x :: rs, hn, s, u, h1, h2, he => by
    simp only [nodupB, Bool.and_eq_true, Bool.not_eq_true'] at hn
    have hx : ∀ s, s < rs.length → getN rs s ≠ x := fun s hs e => by
      have := getN_mem rs s hs
      rw [e] at this
      have := memB_iff.2 this
      rw [hn.1] at this
      cases this
    cases s with
    | zero =>
      cases u with
      | zero => rfl
      | succ u => exact absurd he.symm (hx u (by simpa using h2))
    | succ s =>
      cases u with
      | zero => exact absurd he (hx s (by simpa using h1))
      | succ u => rw [getN_inj rs hn.2 s u (by simpa using h1) (by simpa using h2) he]

theorem inAll_spec {rs : List Nat} : ∀ {l : List Nat}, inAll rs l = true → ∀ r ∈ l, memB r rs = true
  | [], _, r, h => by cases h
  | a :: s, h, r, hr => by
    simp only [inAll, Bool.and_eq_true] at h
    rcases List.mem_cons.1 hr with rfl | hr
    · exact h.1
    · exact inAll_spec h.2 r hr

theorem envIn_spec {rs : List Nat} : ∀ {E : Env}, envIn rs E = true → ∀ i, ∀ r ∈ refsP (E.get i), memB r rs = true
  | [], _, i, r, h => by simp [Env.get, refsP, refA] at h
  | (j, p) :: E, h, i, r, hr => by
    simp only [envIn, Bool.and_eq_true] at h
    simp only [Env.get] at hr
    cases hj : Nat.beq j i with
    | true => rw [hj] at hr; exact inAll_spec h.1 r hr
    | false => rw [hj] at hr; exact envIn_spec h.2 i r hr

theorem get_renE (rs : List Nat) : ∀ (E : Env) (i : Nat), (renE rs E).get i = renP rs (E.get i)
  | [], i => rfl
  | (j, p) :: s, i => by
    simp only [renE, List.map_cons, Env.get]
    cases h : Nat.beq j i with
    | true => rfl
    | false => exact get_renE rs s i

theorem renO_rep {rs : List Nat} {r : Nat} {rg : Option (Nat × Nat)} {v : Value} (h : RepO L V r rg v) (hm : memB r rs = true) : RepO (pickL rs L) (fun s => V (getN rs s)) (idxN r rs) rg v := by
  obtain ⟨B, hB, h1, h2⟩ := h
  obtain ⟨e1, e2⟩ := pick_idx rs L r hm
  refine ⟨renR rs B, by rw [e1, hB]; rfl, fun hr => by show v = V (getN rs (idxN r rs)); rw [e2]; exact h1 hr, ?_⟩
  show SubSl _ _ (V (getN rs (idxN r rs))) _ _ _
  rw [e2, renR_len, renR_t]
  exact h2

theorem renLs_rep {w0 : World} {G : Nat → Prop} {rs : List Nat} : ∀ {ls : List Leaf} {cs : List Value}, RepLs w0 G L V ls cs → (∀ r ∈ refLs ls, memB r rs = true) → RepLs w0 G (pickL rs L) (fun s => V (getN rs s)) (ls.map (renF rs)) cs
  | [], _, h, _ => h
  | l :: ls, _, ⟨v, s, h, h1, h2⟩, hm => by
    refine ⟨v, s, h, ?_, renLs_rep h2 fun r hr => hm r (by simp [refLs, hr])⟩
    cases l with
    | osl r rg => exact renO_rep h1 (hm r (by simp [refLs, refL]))
    | _ => exact h1

theorem renA_rep {w0 : World} {G : Nat → Prop} {rs : List Nat} {A : Atom} {v : Value} (h : RepA w0 G L V A v) (hm : ∀ r ∈ refA A, memB r rs = true) : RepA w0 G (pickL rs L) (fun s => V (getN rs s)) (renA rs A) v := by
  cases A with
  | osl r rg => exact renO_rep h (hm r (by simp [refA]))
  | optr r i p =>
    obtain ⟨B, hB, h2⟩ := h
    obtain ⟨e1, e2⟩ := pick_idx rs L r (hm r (by simp [refA]))
    refine ⟨renR rs B, by rw [e1, hB]; rfl, ?_⟩
    show SubPt _ _ (V (getN rs (idxN r rs))) _ _ _
    rw [e2, renR_len, renR_t]
    exact h2
  | rcd t ls =>
    obtain ⟨cs, h1, h2, h3⟩ := h
    exact ⟨cs, h1, by simpa using h2, renLs_rep h3 hm⟩
  | bptr r o t =>
    obtain ⟨B, ls, b, off, hB, h1, h2, h3, h4⟩ := h
    obtain ⟨e1, e2⟩ := pick_idx rs L r (hm r (by simp [refA]))
    refine ⟨renR rs B, ls.map (renF rs), b, off, by rw [e1, hB]; rfl, renR_ls.1 ls h1, ?_, h3, by rw [renR_t]; exact h4⟩
    show V (getN rs (idxN r rs)) = _
    rw [e2]
    exact h2
  | _ => exact h

theorem renAs_rep {w0 : World} {G : Nat → Prop} {rs : List Nat} : ∀ {ats : List Atom} {vs : List Value}, RepAs w0 G L V ats vs → (∀ r ∈ ats.flatMap refA, memB r rs = true) → RepAs w0 G (pickL rs L) (fun s => V (getN rs s)) (ats.map (renA rs)) vs
  | [], _, h, _ => h
  | A :: s, vs, ⟨v, r, h, h1, h2⟩, ha => ⟨v, r, h, renA_rep h1 (fun r hr => ha r (by simp [hr])), renAs_rep h2 (fun r hr => ha r (by simp only [List.flatMap_cons, List.mem_append]; exact .inr hr))⟩

theorem RelV.renum (hR : RelV n K w0 G w a E L V own) {rs : List Nat} (hn : nodupB rs = true) (h : envIn rs E = true) (hh : heapIn rs L rs = true) : RelV n K w0 G w a (renE rs E) (pickL rs L) (fun s => V (getN rs s)) (fun s => own (getN rs s)) where
  glob := hR.glob
  kept := hR.kept
  size := hR.size
  defers := hR.defers
  glt := hR.glt
  gref := hR.gref
  gsub := hR.gsub
  gold := hR.gold
  gup := hR.gup
  heap := fun r A hr => by
    obtain ⟨_, B, hB, rfl⟩ := hget_pickL rs L r hr
    exact renR_ent.2 (hR.heap _ B hB)
  good := fun r A hr => by
    obtain ⟨_, B, hB, rfl⟩ := hget_pickL rs L r hr
    exact hR.good _ B hB
  nodup := fun r A hr => by
    obtain ⟨_, B, hB, rfl⟩ := hget_pickL rs L r hr
    exact hR.nodup _ B hB
  apart := fun r s A B hr hs hrs => by
    obtain ⟨l1, A', g1, rfl⟩ := hget_pickL rs L r hr
    obtain ⟨l2, B', g2, rfl⟩ := hget_pickL rs L s hs
    exact hR.apart _ _ A' B' g1 g2 fun e => hrs (getN_inj rs hn r s l1 l2 e)
  boxs := fun r A ls hr hls => by
    obtain ⟨l1, B, hB, rfl⟩ := hget_pickL rs L r hr
    obtain ⟨l0, h0, rfl⟩ := renR_ls.2 ls hls
    obtain ⟨b, off, cs, k1, k3, k4, k5, k6⟩ := hR.boxs _ B l0 hB h0
    rw [renR_t]
    exact ⟨b, off, cs, k1, k3, by simpa using k4, k5, renLs_rep k6 fun u hu => inAll_spec (heapIn_spec hh _ (getN_mem rs r l1) B l0 hB h0) u hu⟩
  small := fun r A q hr hq => by
    obtain ⟨_, B, hB, rfl⟩ := hget_pickL rs L r hr
    rw [renR_sm] at hq
    obtain ⟨g1, g2⟩ := hR.small _ B q hB hq
    exact ⟨g1, fun e => ⟨by rw [renR_bor]; exact (g2 e).1, renR_ent.2 (g2 e).2⟩⟩
  env := fun i => by
    rw [get_renE]
    have hi := hR.env i
    have hm := envIn_spec h i
    generalize E.get i = p at hi hm
    cases p with
    | a A => exact renA_rep hi hm
    | tup xs => obtain ⟨vs, hv, hr⟩ := hi; exact ⟨vs, hv, renAs_rep hr hm⟩
    | fn f xs => obtain ⟨vs, hv, hr⟩ := hi; exact ⟨vs, hv, renAs_rep hr hm⟩

end
end Go.Am

/- The abstract machine, part 19: regions are sound. -/
namespace Go.Am
set_option linter.unusedVariables false
set_option linter.unusedSimpArgs false

section
variable {P : Program} {n : Nat} {q : Nat → Value} {K : Ctx} {G : Nat → Prop} {w0 w : World} {a : Act} {V : Nat → Value} {own : Nat → List Nat}

theorem getD_some {tm : Array Value} {t : Nat} {v : Value} (h : tm.getD t undef = v) (hv : v ≠ undef) : tm[t]? = some v := by
  rw [Array.getD_eq_getD_getElem?] at h
  cases h1 : tm[t]? with
  | none => rw [h1] at h; exact absurd h.symm hv
  | some u => rw [h1] at h; simpa using h

theorem yield_bool {ops : Array Oper} {j : Nat} {o : Oper} {t : Nat} {d : Bool} (ho : ops[j]? = some o) (hd : o.dst = some t) (ht : a.tmps.getD t undef = .bool d) : yielded ops a.tmps j = some d := by
  unfold yielded
  have := getD_some ht (by intro h; cases h)
  simp [ho, hd, this]

theorem yield_none {ops : Array Oper} {j : Nat} {o : Oper} {t : Nat} {x : Array Value} (ho : ops[j]? = some o) (hd : o.dst = some t) (ht : a.tmps.getD t undef = .tuple x) : yielded ops a.tmps j = none := by
  unfold yielded
  rw [Array.getD_eq_getD_getElem?] at ht
  cases h1 : a.tmps[t]? with
  | none => simp [ho, hd, h1]
  | some u => rw [h1] at ht; simp at ht; subst ht; simp [ho, hd, h1]

theorem guardS_spec {ops : Array Oper} {S S' : St} {o : Oper} {b : Bool} (hR : RelV n K w0 G w a S.E S.L V own) (hd : DecOk q a S) (h : guardS ops.toList S o.guard = some (b, S')) (hc : All S'.cs) :
    Region.wanted o (yielded ops a.tmps) = b ∧ S'.E = S.E ∧ S'.L = S.L ∧ DecOk q a S' ∧ All S.cs := by
  unfold guardS at h
  split at h
  · rename_i hg
    cases h
    exact ⟨by simp [Region.wanted, hg], rfl, rfl, hd, hc⟩
  · rename_i j want hg
    split at h
    · rename_i p hp
      rw [nthO_eq] at hp
      have hp' : ops[j]? = some p := by simpa using hp
      split at h
      · rename_i t ht
        split at h
        · rename_i x hx
          cases h
          have hv := hR.valEq (x := .tmp t) (v := .tuple x) (by simp only [opnd]; rw [hx])
          refine ⟨?_, rfl, rfl, hd, hc⟩
          simp [Region.wanted, hg, yield_none hp' ht hv.1]
        · split at h
          · rename_i d S1 hdec
            cases h
            obtain ⟨h1, h2, h3, h4, h5⟩ := decideS_spec hR hd hdec hc
            refine ⟨?_, h2, h3, h4, h5⟩
            simp only [Region.wanted, hg, yield_bool hp' ht h1]
            cases d <;> cases want <;> rfl
          · cases h
      · cases h
    · cases h

theorem putS_spec {S S' : St} {E : Env} {L : Heap} {cs : List Prop} {d : Option Nat} {pv : PV} {v : Value} {w' : World} {V' : Nat → Value} {own' : Nat → List Nat}
    (h : putS n S E L cs d pv = some S') (hR : RelV n K w0 G w' a E L V' own') (hd : DecOk q a S) (hv : RepP w0 G L V' pv v) :
    RelV n K w0 G w' (a.put d v) S'.E S'.L V' own' ∧ DecOk q (a.put d v) S' ∧ S'.cs = S.cs ++ cs := by
  cases d with
  | none =>
    cases h
    exact ⟨hR, hd, rfl⟩
  | some d =>
    simp only [putS] at h
    split at h
    · rename_i hlt
      cases h
      simp only [Bool.and_eq_true, Bool.not_eq_true'] at hlt
      exact ⟨hR.put (Nat.le_of_ble_eq_true hlt.1) hv, hd.put d v (fun hm => by rw [memB_iff.2 hm] at hlt; cases hlt.2) rfl rfl, rfl⟩
    · cases h

theorem putS_cs {S S' : St} {E : Env} {L : Heap} {cs : List Prop} {d : Option Nat} {pv : PV} (h : putS n S E L cs d pv = some S') : S'.cs = S.cs ++ cs := by
  cases d with
  | none => cases h; rfl
  | some d =>
    simp only [putS] at h
    split at h
    · cases h; rfl
    · cases h

theorem decideS_cs {S S' : St} {t : Nat} {d : Bool} (h : decideS S t = some (d, S')) (hc : All S'.cs) : All S.cs := by
  unfold decideS at h
  split at h
  · cases h; exact hc
  · split at h
    · cases h; exact (All.append.1 hc).1
    · cases h

theorem guardS_cs {all : List Oper} {S S' : St} {g : Option (Nat × Bool)} {b : Bool} (h : guardS all S g = some (b, S')) (hc : All S'.cs) : All S.cs := by
  unfold guardS at h
  split at h
  · cases h; exact hc
  · split at h
    · split at h
      · split at h
        · cases h; exact hc
        · split at h
          · rename_i hdec; cases h; exact decideS_cs hdec hc
          · cases h
      · cases h
    · cases h

theorem stepO_cs {tab : List TI} {ext : Ext} {wr q : Bool} {all : List Oper} {S S' : St} {o : Oper} (h : stepO tab ext wr n q all S o = some S') (hc : All S'.cs) : All S.cs := by
  unfold stepO at h
  split at h
  · cases h
  · rename_i S1 hg
    have := putS_cs h
    rw [this] at hc
    exact guardS_cs hg (All.append.1 hc).1
  · rename_i S1 hg
    refine guardS_cs hg ?_
    split at h
    · split at h
      · rename_i d S2 hdec
        have := putS_cs h
        rw [this] at hc
        exact decideS_cs hdec (All.append.1 hc).1
      · cases h
    · split at h
      · split at h
        · have := putS_cs h
          rw [this] at hc
          exact (All.append.1 hc).1
        · cases h
      · split at h
        · have := putS_cs h
          rw [this] at hc
          exact (All.append.1 hc).1
        · cases h

theorem stepsO_cs {tab : List TI} {ext : Ext} {wr q : Bool} {all : List Oper} : ∀ {l : List Oper} {S S' : St} (h : stepsO tab ext wr n q all l S = some S') (hc : All S'.cs), All S.cs
  | [], S, S', h, hc => by cases h; exact hc
  | o :: r, S, S', h, hc => by
    simp only [stepsO] at h
    split at h
    · rename_i S1 h1
      exact stepO_cs h1 (stepsO_cs h hc)
    · cases h

theorem pick_run {ρ : Operand → Value} {o : Oper} {c x y : Operand} {d : Bool} (ho : o.op = .pick c x y) (hc : ρ c = .bool d) (w : World) : (execOp ρ o).run P w = .ok (.value (if d then ρ x else ρ y)) w := by
  simp only [execOp, ho, hc]
  simp [asBool]

theorem cond_rep {L : Heap} {p q : PV} {u v : Value} {d : Bool} (hp : RepP w0 G L V p u) (hq : RepP w0 G L V q v) : RepP w0 G L V (cond d p q) (if d then u else v) := by
  cases d
  · exact hq
  · exact hp

theorem stepO_wp {tab : List TI} {ext : Ext} (hT : TabOk P tab) (hX : ExtOk P ext) {wr : Bool} {ops : Array Oper} {S S' : St} {o : Oper} (hR : RelV n K w0 G w a S.E S.L V own) (hd : DecOk q a S)
    (h : stepO tab ext wr n false ops.toList S o = some S') (hc : All S'.cs) {Kt : Act → World → Prop} {Q : Exit → Act → World → Prop}
    (hK : ∀ a' w0' G' w' V' own', RelV n K w0' G' w' a' S'.E S'.L V' own' → DecOk q a' S' → Kt a' w') :
    if Region.wanted o (yielded ops a.tmps) then o.wp P a w Kt Q else Kt (a.put o.dst undef) w := by
  unfold stepO at h
  split at h
  · cases h
  · rename_i S1 hg
    have hcs := putS_cs h
    rw [hcs] at hc
    obtain ⟨h1, h2, h3, h4, h5⟩ := guardS_spec hR hd hg (All.append.1 hc).1
    rw [h1, if_neg (by simp)]
    have hR1 : RelV n K w0 G w a S1.E S1.L V own := by rw [h2, h3]; exact hR
    obtain ⟨g1, g2, _⟩ := putS_spec (v := undef) h hR1 h4 ⟨rfl, trivial⟩
    exact hK _ _ _ _ _ _ g1 g2
  · rename_i S1 hg
    have hc1 : All S1.cs := by
      split at h
      · split at h
        · rename_i d S2 hdec
          have hcs := putS_cs h
          rw [hcs] at hc
          exact decideS_cs hdec (All.append.1 hc).1
        · cases h
      · dsimp only at h
        split at h
        · have hcs := putS_cs h
          rw [hcs] at hc
          exact (All.append.1 hc).1
        · cases h
    obtain ⟨h1, h2, h3, h4, h5⟩ := guardS_spec hR hd hg hc1
    rw [h1, if_pos rfl]
    have hR1 : RelV n K w0 G w a S1.E S1.L V own := by rw [h2, h3]; exact hR
    split at h
    · rename_i c x y ho
      split at h
      · rename_i d S2 hdec
        have hcs := putS_cs h
        rw [hcs] at hc
        obtain ⟨k1, k2, k3, k4, k5⟩ := decideS_spec hR1 h4 hdec (All.append.1 hc).1
        have hR2 : RelV n K w0 G w a S2.E S2.L V own := by rw [k2, k3]; exact hR1
        obtain ⟨g1, g2, _⟩ := putS_spec h hR2 k4 (cond_rep (d := d) (hR2.opnd x) (hR2.opnd y))
        exact wp_of_value (w' := w) (pick_run ho k1 w) (hK _ _ _ _ _ _ g1 g2)
      · cases h
    · dsimp only at h
      split at h
      · rename_i cs pv E L hop
        have hcs := putS_cs h
        rw [hcs] at hc
        refine opMF_spec hT hX hR1 hop (All.append.1 hc).2 fun v w0' G' w' V' own' hR' hv => ?_
        obtain ⟨g1, g2, _⟩ := putS_spec h hR' h4 hv
        exact hK _ _ _ _ _ _ g1 g2
      · cases h

theorem stepsO_wp {tab : List TI} {ext : Ext} (hT : TabOk P tab) (hX : ExtOk P ext) {wr : Bool} {ops : Array Oper} {Q : Exit → Act → World → Prop} : ∀ {w0 : World} {G : Nat → Prop} {l : List Oper} {S S' : St} {a : Act} {w : World} {V : Nat → Value} {own : Nat → List Nat} (hR : RelV n K w0 G w a S.E S.L V own) (hd : DecOk q a S)
    (h : stepsO tab ext wr n false ops.toList l S = some S') (hc : All S'.cs) (hK : ∀ a' w0' G' w' V' own', RelV n K w0' G' w' a' S'.E S'.L V' own' → DecOk q a' S' → Q .normal a' w'), wpList P ops Q l a w
  | w0, G, [], S, S', a, w, V, own, hR, hd, h, hc, hK => by
    cases h
    exact hK _ _ _ _ _ _ hR hd
  | w0, G, o :: r, S, S', a, w, V, own, hR, hd, h, hc, hK => by
    simp only [stepsO] at h
    split at h
    · rename_i S1 h1
      refine wpList_step fun K hKK => ?_
      exact stepO_wp hT hX hR hd h1 (stepsO_cs h hc) fun a' w0' G' w' V' own' hR' hd' => hKK _ _ (stepsO_wp hT hX hR' hd' h hc hK)
    · cases h

theorem stepO_quiet {tab : List TI} {ext : Ext} (hT : TabOk P tab) (hX : ExtOk P ext) {wr : Bool} {ops : Array Oper} {S S' : St} {o : Oper} (hR : RelV n K w0 G w a S.E S.L V own) (hd : DecOk q a S)
    (h : stepO tab ext wr n true ops.toList S o = some S') (hc : All S'.cs) :
    ∃ v, YieldsK P ops [] o v a w ∧ RelV n K w0 G w (a.put o.dst v) S'.E S'.L V own ∧ DecOk q (a.put o.dst v) S' := by
  unfold stepO at h
  split at h
  · cases h
  · rename_i S1 hg
    have hcs := putS_cs h
    rw [hcs] at hc
    obtain ⟨h1, h2, h3, h4, h5⟩ := guardS_spec hR hd hg (All.append.1 hc).1
    have hR1 : RelV n K w0 G w a S1.E S1.L V own := by rw [h2, h3]; exact hR
    obtain ⟨g1, g2, _⟩ := putS_spec (v := undef) h hR1 h4 ⟨rfl, trivial⟩
    exact ⟨undef, .inr ⟨h1, rfl⟩, g1, g2⟩
  · rename_i S1 hg
    have hc1 : All S1.cs := by
      split at h
      · split at h
        · rename_i d S2 hdec
          have hcs := putS_cs h
          rw [hcs] at hc
          exact decideS_cs hdec (All.append.1 hc).1
        · cases h
      · dsimp only at h
        split at h
        · have hcs := putS_cs h
          rw [hcs] at hc
          exact (All.append.1 hc).1
        · cases h
    obtain ⟨h1, h2, h3, h4, h5⟩ := guardS_spec hR hd hg hc1
    have hR1 : RelV n K w0 G w a S1.E S1.L V own := by rw [h2, h3]; exact hR
    split at h
    · rename_i c x y ho
      split at h
      · rename_i d S2 hdec
        have hcs := putS_cs h
        rw [hcs] at hc
        obtain ⟨k1, k2, k3, k4, k5⟩ := decideS_spec hR1 h4 hdec (All.append.1 hc).1
        have hR2 : RelV n K w0 G w a S2.E S2.L V own := by rw [k2, k3]; exact hR1
        obtain ⟨g1, g2, _⟩ := putS_spec h hR2 k4 (cond_rep (d := d) (hR2.opnd x) (hR2.opnd y))
        refine ⟨_, .inl ⟨h1, fun w' k => ?_⟩, g1, g2⟩
        unfold Oper.quietAt
        rw [pick_run ho k1 w']
        exact ⟨rfl, rfl⟩
      · cases h
    · dsimp only at h
      split at h
      · rename_i cs pv hop
        have hcs := putS_cs h
        rw [hcs] at hc
        obtain ⟨v, hv, hq⟩ := opQ_spec hT hX hR1 hop (All.append.1 hc).2
        obtain ⟨g1, g2, _⟩ := putS_spec h hR1 h4 hv
        exact ⟨v, .inl ⟨h1, hq⟩, g1, g2⟩
      · cases h

def decO1 (all : List Oper) (S : St) (o : Oper) : Option St :=
  match guardS all S o.guard with
  | none => none
  | some (false, S) => some S
  | some (true, S) => match o.op with
    | .pick (.tmp c) _ _ => match decideS S c with
      | some (_, S) => some S
      | none => none
    | _ => some S

def decOs (all : List Oper) : List Nat → St → Option St
  | [], S => some S
  | i :: r, S => match nthO all i with
    | some o => match decO1 all S o with
      | some S => decOs all r S
      | none => none
    | none => none

def firstQ (tab : List TI) (ext : Ext) (wr : Bool) (n : Nat) (ops : Array Oper) (listed : Array Bool) (S : St) : List Nat → Option (Nat × St)
  | [] => none
  | i :: r => match nthO ops.toList i, Region.free .any ops listed i with
    | some o, true => match stepO tab ext wr n true ops.toList S o with
      | some S' => some (i, S')
      | none => firstQ tab ext wr n ops listed S r
    | _, _ => firstQ tab ext wr n ops listed S r

def stepK (tab : List TI) (ext : Ext) (n : Nat) (all : List Oper) (S : St) (o : Oper) : Option St :=
  match guardS all S o.guard with
  | some (true, S) => match opK tab ext S.E S.L o.op with
    | some (cs, pv, L) => putS n S S.E L cs o.dst pv
    | none => none
  | _ => none

def frzS (S : St) (op : Op) : St := ⟨S.path, S.dec, (frzOp op (S.E, S.L)).1, (frzOp op (S.E, S.L)).2, S.cs, S.pins⟩

def stepB (tab : List TI) (ext : Ext) (wr : Bool) (n : Nat) (ops : Array Oper) (listed : Array Bool) (i : Nat) (S : St) (o : Oper) : Option St :=
  match stepK tab ext n ops.toList S o with
  | some S' => some S'
  | none => match barB ops listed i with
    | true => stepO tab ext wr n false ops.toList S o
    | false => match stepO tab ext wr n true ops.toList (frzS S o.op) o with
      | some S' => some S'
      | none => stepK tab ext n ops.toList (frzS S o.op) o

def SameS (E : Env) (L : Heap) (E' : Env) (L' : Heap) : Prop := (E, L) = (E', L')
def tabE (E : Env) : Nat → Env → Env
  | 0, acc => acc
  | k + 1, acc => tabE E k (match E.get k with
    | .a .junk => acc
    | p => (k, p) :: acc)
def joinS (n : Nat) (A B : St) : St := ⟨A.path, [], tabE A.E n [], A.L, A.cs ++ (B.cs ++ [SameS (tabE A.E n []) A.L (tabE B.E n []) B.L]), A.pins⟩
theorem tabE_high (E : Env) (i : Nat) : ∀ (k : Nat) (acc : Env), k ≤ i → (tabE E k acc).get i = acc.get i
  | 0, acc, _ => rfl
  | k + 1, acc, h => by
    unfold tabE
    rw [tabE_high E i k _ (by omega)]
    split
    · rfl
    · show cond (Nat.beq k i) (E.get k) (Env.get acc i) = Env.get acc i
      cases hb : Nat.beq k i with
      | true => have := Nat.eq_of_beq_eq_true hb; omega
      | false => rfl
theorem tabE_low (E : Env) (i : Nat) : ∀ (k : Nat) (acc : Env), i < k → (tabE E k acc).get i = E.get i ∨ (E.get i = .a .junk ∧ (tabE E k acc).get i = acc.get i)
  | 0, acc, h => absurd h (Nat.not_lt_zero _)
  | k + 1, acc, h => by
    unfold tabE
    by_cases hk : i < k
    · rcases tabE_low E i k (match E.get k with
        | .a .junk => acc
        | p => (k, p) :: acc) hk with h1 | ⟨h1, h2⟩
      · exact .inl h1
      · refine .inr ⟨h1, h2.trans ?_⟩
        split
        · rfl
        · show cond (Nat.beq k i) (E.get k) (Env.get acc i) = Env.get acc i
          cases hb : Nat.beq k i with
          | true => have := Nat.eq_of_beq_eq_true hb; omega
          | false => rfl
    · have hik : i = k := by omega
      subst hik
      rw [tabE_high E i i _ (Nat.le_refl _)]
      split
      · rename_i hj
        exact .inr ⟨hj, rfl⟩
      · refine .inl ?_
        show cond (Nat.beq i i) (E.get i) (Env.get acc i) = E.get i
        cases hb : Nat.beq i i with
        | true => rfl
        | false => rw [show Nat.beq i i = true from Nat.beq_refl i] at hb; cases hb
theorem RelV.tab {n : Nat} {K : Ctx} {G : Nat → Prop} {w0 w : World} {a : Act} {E : Env} {L : Heap} {V : Nat → Value} {own : Nat → List Nat} (h : RelV n K w0 G w a E L V own) : RelV n K w0 G w a (tabE E n []) L V own := by
  have he : ∀ i, RepP w0 G L V ((tabE E n []).get i) (a.tmps.getD i undef) := fun i => by
    by_cases hi : i < n
    · rcases tabE_low E i n [] hi with e | ⟨e1, e2⟩
      · rw [e]
        exact h.env i
      · have := h.env i
        rw [e1] at this
        rw [e2]
        exact this
    · rw [tabE_high E i n [] (by omega)]
      have hs := h.size
      have : a.tmps.getD i undef = undef := by
        rw [Array.getD_eq_getD_getElem?, Array.getElem?_eq_none (by omega)]
        rfl
      rw [this]
      exact trivial
  exact { h with env := he }
def refP1 : PV → Option Nat
  | .a (.osl r _) => some r
  | .a (.optr r _ _) => some r
  | .a (.bptr r _ _) => some r
  | _ => none
def needSw (A B : Env) : Nat → Bool
  | 0 => false
  | k + 1 => match refP1 (A.get k), refP1 (B.get k) with
    | some r, some s => match Nat.beq r s with
      | true => needSw A B k
      | false => true
    | _, _ => needSw A B k
def swL (m : Nat) : Nat → List Nat → List Nat
  | 0, acc => acc
  | k + 1, acc => swL m k ((match Nat.beq k m with
    | true => m + 1
    | false => match Nat.beq k (m + 1) with
      | true => m
      | false => k) :: acc)
def normB (n m : Nat) (A B : St) : Option St := match needSw A.E B.E n with
  | false => some B
  | true => match nodupB (swL m B.L.length []) && (envIn (swL m B.L.length []) B.E && heapIn (swL m B.L.length []) B.L (swL m B.L.length [])) with
    | true => some ⟨B.path, B.dec, renE (swL m B.L.length []) B.E, pickL (swL m B.L.length []) B.L, B.cs, B.pins⟩
    | false => none
theorem normB_spec {n m : Nat} {A B B' : St} (h : normB n m A B = some B') : B'.cs = B.cs ∧ B'.pins = B.pins ∧ ∀ {k : Nat} {K : Ctx} {G : Nat → Prop} {w0 w : World} {a : Act} {V : Nat → Value} {own : Nat → List Nat}, RelV k K w0 G w a B.E B.L V own → ∃ V' own', RelV k K w0 G w a B'.E B'.L V' own' := by
  unfold normB at h
  split at h
  · cases h
    exact ⟨rfl, rfl, fun hr => ⟨_, _, hr⟩⟩
  · split at h
    · rename_i hc
      simp only [Bool.and_eq_true] at hc
      cases h
      exact ⟨rfl, rfl, fun hr => ⟨_, _, hr.renum hc.1 hc.2.1 hc.2.2⟩⟩
    · cases h
def eqNs : List Nat → List Nat → Bool
  | [], [] => true
  | a :: r, b :: s => match Nat.beq a b with
    | true => eqNs r s
    | false => false
  | _, _ => false
theorem eqNs_spec : ∀ {l m : List Nat}, eqNs l m = true → l = m
  | [], [], _ => rfl
  | [], _ :: _, h => by cases h
  | _ :: _, [], h => by cases h
  | a :: r, b :: s, h => by
    unfold eqNs at h
    split at h
    · rename_i e
      rw [Nat.eq_of_beq_eq_true e, eqNs_spec h]
    · cases h

def schedS (tab : List TI) (ext : Ext) (wr : Bool) (n : Nat) (ops : Array Oper) : Nat → Array Bool → St → Option St
  | 0, listed, S => match Region.ready .any ops listed with
    | [] => some S
    | _ => none
  | m + 1, listed, S => match Region.ready .any ops listed with
    | [] => some S
    | i :: r => match decOs ops.toList (i :: r) S with
      | none => none
      | some S => match firstQ tab ext wr n ops listed S (i :: r) with
        | some (j, S') => schedS tab ext wr n ops m (listed.setIfInBounds j true) S'
        | none => match r, nthO ops.toList i with
          | [], some o => match stepB tab ext wr n ops listed i S o with
            | some S' => schedS tab ext wr n ops m (listed.setIfInBounds i true) S'
            | none => none
          | [j], some o => match nthO ops.toList j with
            | some p => match stepB tab ext wr n ops listed i S o, stepB tab ext wr n ops listed j ⟨S.path, S.dec, S.E, S.L, [], S.pins⟩ p with
              | some S1, some S2 => match schedS tab ext wr n ops m (listed.setIfInBounds i true) S1, schedS tab ext wr n ops m (listed.setIfInBounds j true) S2 with
                | some A, some B => match normB n S.L.length A B with
                  | some B' => match eqNs A.pins B'.pins with
                    | true => some (joinS n A B')
                    | false => none
                  | none => none
                | _, _ => none
              | _, _ => none
            | none => none
          | _, _ => none

theorem decO1_cs {all : List Oper} {S S' : St} {o : Oper} (h : decO1 all S o = some S') (hc : All S'.cs) : All S.cs := by
  unfold decO1 at h
  split at h
  · cases h
  · rename_i hg; cases h; exact guardS_cs hg hc
  · rename_i hg
    refine guardS_cs hg ?_
    split at h
    · split at h
      · rename_i hd; cases h; exact decideS_cs hd hc
      · cases h
    · cases h; exact hc

theorem decO1_spec {ops : Array Oper} {S S' : St} {o : Oper} (hR : RelV n K w0 G w a S.E S.L V own) (hd : DecOk q a S) (h : decO1 ops.toList S o = some S') (hc : All S'.cs) :
    S'.E = S.E ∧ S'.L = S.L ∧ DecOk q a S' := by
  unfold decO1 at h
  split at h
  · cases h
  · rename_i S1 hg
    cases h
    obtain ⟨_, h2, h3, h4, _⟩ := guardS_spec hR hd hg hc
    exact ⟨h2, h3, h4⟩
  · rename_i S1 hg
    split at h
    · split at h
      · rename_i hdec
        cases h
        obtain ⟨_, h2, h3, h4, _⟩ := guardS_spec hR hd hg (decideS_cs hdec hc)
        have hR1 : RelV n K w0 G w a S1.E S1.L V own := by rw [h2, h3]; exact hR
        obtain ⟨_, k2, k3, k4, _⟩ := decideS_spec hR1 h4 hdec hc
        exact ⟨k2.trans h2, k3.trans h3, k4⟩
      · cases h
    · cases h
      obtain ⟨_, h2, h3, h4, _⟩ := guardS_spec hR hd hg hc
      exact ⟨h2, h3, h4⟩

theorem decOs_cs {all : List Oper} : ∀ {is : List Nat} {S S' : St}, decOs all is S = some S' → All S'.cs → All S.cs
  | [], _, _, h, hc => by cases h; exact hc
  | i :: r, S, S', h, hc => by
    simp only [decOs] at h
    split at h
    · split at h
      · rename_i h1
        exact decO1_cs h1 (decOs_cs h hc)
      · cases h
    · cases h

theorem decOs_spec {ops : Array Oper} : ∀ {is : List Nat} {S S' : St}, RelV n K w0 G w a S.E S.L V own → DecOk q a S → decOs ops.toList is S = some S' → All S'.cs → S'.E = S.E ∧ S'.L = S.L ∧ DecOk q a S'
  | [], _, _, _, hd, h, hc => by cases h; exact ⟨rfl, rfl, hd⟩
  | i :: r, S, S', hR, hd, h, hc => by
    simp only [decOs] at h
    split at h
    · split at h
      · rename_i S1 h1
        obtain ⟨e1, e2, e3⟩ := decO1_spec hR hd h1 (decOs_cs h hc)
        obtain ⟨f1, f2, f3⟩ := decOs_spec (S := S1) (by rw [e1, e2]; exact hR) e3 h hc
        exact ⟨f1.trans e1, f2.trans e2, f3⟩
      · cases h
    · cases h

theorem firstQ_spec {tab : List TI} {ext : Ext} {wr : Bool} {ops : Array Oper} {listed : Array Bool} {S : St} {j : Nat} {S' : St} : ∀ {rs : List Nat}, firstQ tab ext wr n ops listed S rs = some (j, S') →
    j ∈ rs ∧ ∃ o, ops[j]? = some o ∧ Region.free .any ops listed j = true ∧ stepO tab ext wr n true ops.toList S o = some S'
  | [], h => by cases h
  | i :: r, h => by
    simp only [firstQ] at h
    have rest : firstQ tab ext wr n ops listed S r = some (j, S') → j ∈ i :: r ∧ ∃ o, ops[j]? = some o ∧ Region.free .any ops listed j = true ∧ stepO tab ext wr n true ops.toList S o = some S' := fun h => by
      obtain ⟨h1, h2⟩ := firstQ_spec h
      exact ⟨List.mem_cons_of_mem _ h1, h2⟩
    split at h
    · rename_i o ho hf
      split at h
      · rename_i S1 h1
        cases h
        rw [nthO_eq] at ho
        exact ⟨List.mem_cons_self .., o, by simpa using ho, hf, h1⟩
      · exact rest h
    · exact rest h

theorem stepK_cs {tab : List TI} {ext : Ext} {all : List Oper} {S S' : St} {o : Oper} (h : stepK tab ext n all S o = some S') (hc : All S'.cs) : All S.cs := by
  unfold stepK at h
  split at h
  · rename_i hg
    split at h
    · have := putS_cs h
      rw [this] at hc
      exact guardS_cs hg (All.append.1 hc).1
    · cases h
  · cases h

theorem stepB_cs {tab : List TI} {ext : Ext} {wr : Bool} {ops : Array Oper} {listed : Array Bool} {i : Nat} {S S' : St} {o : Oper} (h : stepB tab ext wr n ops listed i S o = some S') (hc : All S'.cs) : All S.cs := by
  unfold stepB at h
  split at h
  · rename_i h1; cases h; exact stepK_cs h1 hc
  · split at h
    · exact stepO_cs h hc
    · split at h
      · rename_i h1
        cases h
        have := stepO_cs h1 hc
        exact this
      · have := stepK_cs h hc
        exact this

theorem stepK_wp {tab : List TI} {ext : Ext} (hT : TabOk P tab) (hX : ExtOk P ext) {ops : Array Oper} {S S' : St} {o : Oper} (hR : RelV n K w0 G w a S.E S.L V own) (hd : DecOk q a S)
    (h : stepK tab ext n ops.toList S o = some S') (hc : All S'.cs) {Kt : Act → World → Prop} {Q : Exit → Act → World → Prop}
    (hK : ∀ a' w0' G' w' V' own', Kept [] w w' → RelV n K w0' G' w' a' S'.E S'.L V' own' → DecOk q a' S' → Kt a' w') :
    if Region.wanted o (yielded ops a.tmps) then o.wp P a w Kt Q else Kt (a.put o.dst undef) w := by
  unfold stepK at h
  split at h
  · rename_i S1 hg
    split at h
    · rename_i cs pv L hop
      have hcs := putS_cs h
      rw [hcs] at hc
      obtain ⟨h1, h2, h3, h4, h5⟩ := guardS_spec hR hd hg (All.append.1 hc).1
      rw [h1, if_pos rfl]
      have hR1 : RelV n K w0 G w a S1.E S1.L V own := by rw [h2, h3]; exact hR
      refine opK_spec hT hX hR1 hop (All.append.1 hc).2 fun v w0' G' w' V' own' k hR' hv => ?_
      obtain ⟨g1, g2, _⟩ := putS_spec h hR' h4 hv
      exact hK _ _ _ _ _ _ k g1 g2
    · cases h
  · cases h

theorem stepB_wp {tab : List TI} {ext : Ext} (hT : TabOk P tab) (hX : ExtOk P ext) {wr : Bool} {ops : Array Oper} {listed : Array Bool} {i : Nat} {S S' : St} {o : Oper} (hR : RelV n K w0 G w a S.E S.L V own) (hd : DecOk q a S)
    (h : stepB tab ext wr n ops listed i S o = some S') (hc : All S'.cs) {Kt : Act → World → Prop} {Q : Exit → Act → World → Prop}
    (hK : ∀ a' w0' G' w' V' own', (barB ops listed i = true ∨ Kept [] w w') → RelV n K w0' G' w' a' S'.E S'.L V' own' → DecOk q a' S' → Kt a' w') :
    if Region.wanted o (yielded ops a.tmps) then o.wp P a w Kt Q else Kt (a.put o.dst undef) w := by
  unfold stepB at h
  split at h
  · rename_i h1
    cases h
    exact stepK_wp hT hX hR hd h1 hc fun a' w0' G' w' V' own' k => hK a' w0' G' w' V' own' (.inr k)
  · split at h
    · rename_i hb
      exact stepO_wp hT hX hR hd h hc fun a' w0' G' w' V' own' => hK a' w0' G' w' V' own' (.inl hb)
    · obtain ⟨w1, G1, hR1⟩ := frzOp_spec hR o.op
      have hR1 : RelV n K w1 G1 w a (frzS S o.op).E (frzS S o.op).L V own := hR1
      have hd1 : DecOk q a (frzS S o.op) := hd
      split at h
      · rename_i h1
        cases h
        obtain ⟨v, hy, g1, g2⟩ := stepO_quiet hT hX hR1 hd1 h1 hc
        rcases hy with ⟨hw, hv⟩ | ⟨hw, rfl⟩
        · rw [hw, if_pos rfl]
          refine Oper.wp_of_quiet (C := Kept [] w) (K := fun a' => a' = a.put o.dst v) (Kept.refl _ _) (fun a' w' k e => by subst e; exact hK _ _ _ _ _ _ (.inr k) (g1.ext k) g2) ⟨v, fun w' k => ?_, rfl⟩
          have := hv w' k
          unfold Oper.quietAt at this ⊢
          generalize (execOp a.eval o).run P w' = r at *
          cases r with
          | ok nx w2 =>
            cases nx <;> simp only [Oper.quietUpon] at this ⊢
            case value u => exact this
            case skip => exact this
            case enter f args => exact ⟨this.1, this.2.mono fun e w3 hh => ⟨hh.1, k.trans hh.2⟩⟩
          | halt x w2 => simp only [Oper.quietUpon] at this
        · rw [hw]
          exact hK _ _ _ _ _ _ (.inr (Kept.refl _ _)) g1 g2
      · exact stepK_wp hT hX hR1 hd1 h hc fun a' w0' G' w' V' own' k => hK a' w0' G' w' V' own' (.inr k)

theorem schedS_cs {tab : List TI} {ext : Ext} {wr : Bool} {ops : Array Oper} {S' : St} : ∀ {m : Nat} {listed : Array Bool} {S : St}, schedS tab ext wr n ops m listed S = some S' → All S'.cs → All S.cs
  | 0, listed, S, h, hc => by
    simp only [schedS] at h
    split at h
    · cases h; exact hc
    · cases h
  | m + 1, listed, S, h, hc => by
    simp only [schedS] at h
    split at h
    · cases h; exact hc
    · split at h
      · cases h
      · rename_i S1 hdec
        refine decOs_cs hdec ?_
        split at h
        · rename_i j S2 hq
          obtain ⟨_, o, _, _, hst⟩ := firstQ_spec hq
          exact stepO_cs hst (schedS_cs h hc)
        · split at h
          · split at h
            · rename_i S2 hB
              exact stepB_cs hB (schedS_cs h hc)
            · cases h
          · split at h
            · split at h
              · rename_i S2 S3 hA hB
                split at h
                · rename_i A B hA2 hB2
                  split at h
                  · split at h
                    · cases h
                      exact stepB_cs hA (schedS_cs hA2 (All.append.1 hc).1)
                    · cases h
                  · cases h
                · cases h
              · cases h
            · cases h
          · cases h

theorem schedS_spec {tab : List TI} {ext : Ext} (hT : TabOk P tab) (hX : ExtOk P ext) {wr : Bool} {ops : Array Oper} {Q : Exit → Act → World → Prop} (hs : Region.noSelect ops = true) (hQ : ∀ c a w, ¬ Q (.panic c) a w) {S' : St}
    (hc : All S'.cs) (hK : ∀ a' w0' G' w' V' own', RelV n K w0' G' w' a' S'.E S'.L V' own' → DecOk q a' S' → Q .normal a' w') : ∀ {w0 : World} {G : Nat → Prop} {m : Nat} {listed : Array Bool} {S : St} {a : Act} {w : World} {V : Nat → Value} {own : Nat → List Nat},
    RelV n K w0 G w a S.E S.L V own → DecOk q a S → Down ops listed → schedS tab ext wr n ops m listed S = some S' → wpAnyK P ops Q [] m listed a w
  | w0, G, 0, listed, S, a, w, V, own, hR, hd, hD, h => by
    simp only [schedS] at h
    split at h
    · rename_i hr
      cases h
      exact fun w1 k => ⟨hr, hK _ _ _ _ _ _ (hR.ext k) hd⟩
    · cases h
  | w0, G, m + 1, listed, S, a, w, V, own, hR, hd, hD, h => by
    simp only [schedS] at h
    split at h
    · rename_i hr
      cases h
      exact fun w1 k => ⟨fun _ => hK _ _ _ _ _ _ (hR.ext k) hd, by rw [hr]; simp⟩
    · rename_i i r hr
      split at h
      · cases h
      · rename_i S1 hdec
        split at h
        · rename_i j S2 hq
          obtain ⟨hjr, o, ho, hf, hst⟩ := firstQ_spec hq
          rw [← hr] at hjr
          have hc2 : All S2.cs := schedS_cs h hc
          have hc1 : All S1.cs := stepO_cs hst hc2
          obtain ⟨e1, e2, e3⟩ := decOs_spec hR hd hdec hc1
          have hR1 : RelV n K w0 G w a S1.E S1.L V own := by rw [e1, e2]; exact hR
          obtain ⟨v, hy, g1, g2⟩ := stepO_quiet hT hX hR1 e3 hst hc2
          refine wpAnyK_first ho (Region.noSelect_spec hs) hQ m listed a w hD (Region.free_spec ho hf) hjr hy ?_
          exact schedS_spec hT hX hs hQ hc hK g1 g2 (hD.set hjr) h
        · split at h
          · rename_i o hno _
            rw [nthO_eq] at hno
            have ho : ops[i]? = some o := by simpa using hno
            split at h
            · rename_i S2 hB
              have hc2 : All S2.cs := schedS_cs h hc
              have hc1 : All S1.cs := stepB_cs hB hc2
              obtain ⟨e1, e2, e3⟩ := decOs_spec hR hd hdec hc1
              have hir : i ∈ Region.ready .any ops listed := by rw [hr]; simp
              refine fun w1 k => ⟨fun h0 => by (rw [hr] at h0; cases h0), fun j hj => ?_⟩
              have hji : j = i := by rw [hr] at hj; simpa using hj
              subst hji
              have hR1 : RelV n K w0 G w1 a S1.E S1.L V own := by rw [e1, e2]; exact hR.ext k
              unfold wpOp
              simp only [ho]
              have := stepB_wp (Kt := fun a' w' => (barB ops listed j = true ∨ Kept [] w1 w') ∧ wpAnyK P ops Q [] m (listed.setIfInBounds j true) a' w') (Q := Q) hT hX hR1 e3 hB hc2 (fun a' w0' G' w' V' own' hb hR' hd' => ⟨hb, schedS_spec hT hX hs hQ hc hK hR' hd' (hD.set hir) h⟩)
              split
              · rename_i hw; rw [if_pos hw] at this; exact .inl this
              · rename_i hw; rw [if_neg hw] at this; exact this
            · cases h
          · rename_i j o hno _
            split at h
            · rename_i p hnp
              rw [nthO_eq] at hno hnp
              have ho : ops[i]? = some o := by simpa using hno
              have hp : ops[j]? = some p := by simpa using hnp
              split at h
              · rename_i S2 S3 hA hB
                split at h
                · rename_i A B hA2 hB2
                  split at h
                  case h_2 => cases h
                  rename_i B' hnB
                  obtain ⟨nb1, nb2, nb3⟩ := normB_spec hnB
                  split at h
                  case h_2 => cases h
                  rename_i hpn
                  have hpn := eqNs_spec hpn
                  cases h
                  have hcA : All A.cs := (All.append.1 hc).1
                  have hcB : All B.cs := by rw [← nb1]; exact (All.append.1 (All.append.1 hc).2).1
                  have heq : (tabE A.E n [], A.L) = (tabE B'.E n [], B'.L) := (All.append.1 (All.append.1 hc).2).2.1
                  have hc2 : All S2.cs := schedS_cs hA2 hcA
                  have hc3 : All S3.cs := schedS_cs hB2 hcB
                  have hc1 : All S1.cs := stepB_cs hA hc2
                  obtain ⟨e1, e2, e3⟩ := decOs_spec hR hd hdec hc1
                  have hKA : ∀ a' w0' G' w' V' own', RelV n K w0' G' w' a' A.E A.L V' own' → DecOk q a' A → Q .normal a' w' := fun a' w0' G' w' V' own' hr' hd' =>
                    hK a' w0' G' w' V' own' hr'.tab ⟨fun t d hl => (by cases hl), hd'.2⟩
                  have hKB : ∀ a' w0' G' w' V' own', RelV n K w0' G' w' a' B.E B.L V' own' → DecOk q a' B → Q .normal a' w' := fun a' w0' G' w' V' own' hr' hd' => by
                    obtain ⟨V2, own2, hr2⟩ := nb3 hr'
                    refine hK a' w0' G' w' V2 own2 ?_ ⟨fun t d hl => (by cases hl), ?_⟩
                    · have k1 : tabE A.E n [] = tabE B'.E n [] := congrArg Prod.fst heq
                      have k2 : A.L = B'.L := congrArg Prod.snd heq
                      show RelV n K w0' G' w' a' (tabE A.E n []) A.L V2 own2
                      rw [k1, k2]; exact hr2.tab
                    · show ∀ t ∈ A.pins, a'.tmps.getD t undef = q t
                      rw [hpn, nb2]; exact hd'.2
                  have hir : i ∈ Region.ready .any ops listed := by rw [hr]; simp
                  have hjr : j ∈ Region.ready .any ops listed := by rw [hr]; simp
                  refine fun w1 k => ⟨fun h0 => by (rw [hr] at h0; cases h0), fun c hk => ?_⟩
                  have hkk : c = i ∨ c = j := by rw [hr] at hk; simpa using hk
                  have hR1 : RelV n K w0 G w1 a S1.E S1.L V own := by rw [e1, e2]; exact hR.ext k
                  rcases hkk with rfl | rfl
                  · unfold wpOp
                    simp only [ho]
                    have := stepB_wp (Kt := fun a' w' => (barB ops listed c = true ∨ Kept [] w1 w') ∧ wpAnyK P ops Q [] m (listed.setIfInBounds c true) a' w') (Q := Q) hT hX hR1 e3 hA hc2 (fun a' w0' G' w' V' own' hb hR' hd' => ⟨hb, schedS_spec hT hX hs hQ hcA hKA hR' hd' (hD.set hir) hA2⟩)
                    split
                    · rename_i hw; rw [if_pos hw] at this; exact .inl this
                    · rename_i hw; rw [if_neg hw] at this; exact this
                  · unfold wpOp
                    simp only [hp]
                    have := stepB_wp (Kt := fun a' w' => (barB ops listed c = true ∨ Kept [] w1 w') ∧ wpAnyK P ops Q [] m (listed.setIfInBounds c true) a' w') (Q := Q) (S := ⟨S1.path, S1.dec, S1.E, S1.L, [], S1.pins⟩) hT hX hR1 e3 hB hc3 (fun a' w0' G' w' V' own' hb hR' hd' => ⟨hb, schedS_spec hT hX hs hQ hcB hKB hR' hd' (hD.set hjr) hB2⟩)
                    split
                    · rename_i hw; rw [if_pos hw] at this; exact .inl this
                    · rename_i hw; rw [if_neg hw] at this; exact this
                · cases h
              · cases h
            · cases h
          · cases h


def bitsL : List Nat → Nat
  | [] => 0
  | d :: r => Nat.lor (Nat.shiftLeft 1 d) (bitsL r)

theorem one_shl_bit (x d : Nat) : (1 <<< x).testBit d = decide (x = d) := by
  rw [Nat.one_shiftLeft, Nat.testBit_two_pow]

theorem bitsL_mem : ∀ (l : List Nat) (d : Nat), (bitsL l).testBit d = decide (d ∈ l)
  | [], d => by simp [bitsL]
  | x :: r, d => by
    have e : bitsL (x :: r) = (1 <<< x) ||| bitsL r := rfl
    rw [e, Nat.testBit_or, bitsL_mem r d, one_shl_bit]
    by_cases hx : x = d
    · subst hx; simp
    · have : ¬ d = x := fun h => hx h.symm
      simp [hx, this]

structure OpI where
  looks : Nat
  dst : Nat
  pre : Nat
  loud : Bool

def loudOp : Op → Bool
  | .call { callee := .builtin .len, .. } => false
  | .call _ => true
  | .box _ _ => true
  | .alloc _ => true
  | .buildSlice _ _ _ => true
  | .makeSlice _ _ _ => true
  | .store _ _ _ => true
  | .convert _ _ _ => true
  | _ => false

def dstL (o : Oper) : List Nat := match o.dst with | some d => [d] | none => []
def preL (o : Oper) : List Nat := (o.after.toList.filter fun e => Region.binds .any e).map fun e => e.on

def opI (ops : Array Oper) (o : Oper) : OpI := ⟨bitsL (o.looksAt ops), bitsL (dstL o), bitsL (preL o), loudOp o.op⟩

def pairsB (y : OpI) (j : Nat) : Nat → List OpI → Bool
  | _, [] => true
  | k, x :: r => match Nat.beq k j with
    | true => true
    | false => match Nat.beq (Nat.land y.pre (Nat.shiftLeft 1 k)) 0 with
      | false => pairsB y j (k + 1) r
      | true => Nat.beq (Nat.land (Nat.lor y.looks y.dst) x.dst) 0 && (Nat.beq (Nat.land x.looks y.dst) 0 && pairsB y j (k + 1) r)

def onlyB (j : Nat) : List OpI → Bool
  | [] => true
  | x :: r => !Nat.beq (Nat.shiftRight x.pre j) 0 && onlyB j r

def seqB (all : List OpI) : Nat → List OpI → Bool
  | _, [] => true
  | j, y :: r => Nat.beq (Nat.shiftRight y.pre j) 0 && (pairsB y j 0 all && ((match y.loud with | true => onlyB j r | false => true) && seqB all (j + 1) r))

def seqOk (ops : Array Oper) : Bool := match ops.toList.map (opI ops) with
  | all => seqB all 0 all

def seqS (tab : List TI) (ext : Ext) (wr : Bool) (n : Nat) (ops : Array Oper) : Nat → Array Bool → List Oper → St → Option St
  | _, _, [], S => some S
  | j, listed, o :: r, S => match loudOp o.op with
    | false => match stepO tab ext wr n true ops.toList S o with
      | some S' => seqS tab ext wr n ops (j + 1) (listed.setIfInBounds j true) r S'
      | none => none
    | true => match stepO tab ext wr n true ops.toList S o with
      | some S' => seqS tab ext wr n ops (j + 1) (listed.setIfInBounds j true) r S'
      | none => match stepB tab ext wr n ops listed j S o with
        | some S' => seqS tab ext wr n ops (j + 1) (listed.setIfInBounds j true) r S'
        | none => none

theorem seqS_cs {tab : List TI} {ext : Ext} {wr : Bool} {ops : Array Oper} {S' : St} : ∀ {l : List Oper} {j : Nat} {listed : Array Bool} {S : St}, seqS tab ext wr n ops j listed l S = some S' → All S'.cs → All S.cs
  | [], j, listed, S, h, hc => by cases h; exact hc
  | o :: r, j, listed, S, h, hc => by
    simp only [seqS] at h
    split at h
    · split at h
      · rename_i h1; exact stepO_cs h1 (seqS_cs h hc)
      · cases h
    · split at h
      · rename_i h1; exact stepO_cs h1 (seqS_cs h hc)
      · split at h
        · rename_i h1; exact stepB_cs h1 (seqS_cs h hc)
        · cases h

theorem pairsB_spec {ops : Array Oper} {y : Oper} {j : Nat} : ∀ {l : List Oper} {k : Nat}, pairsB (opI ops y) j k (l.map (opI ops)) = true → ∀ (i : Nat) (x : Oper), l[i]? = some x → k + i < j →
    (∃ e ∈ y.after, Region.binds .any e = true ∧ e.on = k + i) ∨ x.apart ops y = true
  | [], k, _, i, x, hx, _ => by simp at hx
  | z :: r, k, h, i, x, hx, hi => by
    simp only [List.map_cons, pairsB] at h
    have hkj : Nat.beq k j = false := nbeq_false (by omega)
    rw [hkj] at h
    simp only at h
    have rest : pairsB (opI ops y) j (k + 1) (r.map (opI ops)) = true → ∀ i', i = i' + 1 → (∃ e ∈ y.after, Region.binds .any e = true ∧ e.on = k + i) ∨ x.apart ops y = true := by
      rintro h i' rfl
      have := pairsB_spec h i' x (by simpa using hx) (by omega)
      rw [show k + (i' + 1) = k + 1 + i' by omega]
      exact this
    split at h
    · rename_i hb
      cases i with
      | zero =>
        left
        have hb2 : (bitsL (preL y)).testBit k = true := by
          cases ht : (bitsL (preL y)).testBit k with
          | true => rfl
          | false =>
            exfalso
            have h0 : Nat.beq (Nat.land (bitsL (preL y)) (Nat.shiftLeft 1 k)) 0 = true := by
              have : (bitsL (preL y)) &&& (1 <<< k) = 0 := by
                apply Nat.eq_of_testBit_eq
                intro m
                rw [Nat.testBit_and, one_shl_bit]
                by_cases hm : k = m
                · subst hm; simp [ht]
                · simp [hm]
              have h1 : Nat.land (bitsL (preL y)) (Nat.shiftLeft 1 k) = 0 := this
              rw [h1]; rfl
            have h2 : Nat.beq (Nat.land (opI ops y).pre (Nat.shiftLeft 1 k)) 0 = true := h0
            rw [h2] at hb
            cases hb
        rw [bitsL_mem] at hb2
        have := of_decide_eq_true hb2
        obtain ⟨e, he, rfl⟩ := List.mem_map.1 this
        obtain ⟨he, hbe⟩ := List.mem_filter.1 he
        exact ⟨e, by simpa using he, hbe, by simp⟩
      | succ i' => exact rest h i' rfl
    · simp only [Bool.and_eq_true] at h
      obtain ⟨h1, h2, h3⟩ := h
      cases i with
      | zero =>
        right
        simp at hx
        subst hx
        have land0 : ∀ {a b d : Nat}, Nat.beq (Nat.land a b) 0 = true → b.testBit d = true → a.testBit d = false := by
          intro a b d h hb
          have h := Nat.eq_of_beq_eq_true h
          have h' : a &&& b = 0 := h
          have h3 : (a &&& b).testBit d = false := by rw [h']; simp
          rw [Nat.testBit_and, hb] at h3
          simpa using h3
        have hdst : ∀ (o : Oper) d, o.dst = some d → (opI ops o).dst.testBit d = true := by
          intro o d hd
          show (bitsL (dstL o)).testBit d = true
          rw [bitsL_mem]
          simp [dstL, hd]
        unfold Oper.apart
        rw [Bool.and_eq_true]
        constructor
        · split
          · rename_i d hd
            have h4 := land0 h1 (hdst _ d hd)
            have h4' : ((bitsL (y.looksAt ops)) ||| (bitsL (dstL y))).testBit d = false := h4
            rw [Nat.testBit_or, bitsL_mem, bitsL_mem, Bool.or_eq_false_iff] at h4'
            obtain ⟨g1, g2⟩ := h4'
            have g1 := of_decide_eq_false g1
            have g2 := of_decide_eq_false g2
            rw [Bool.and_eq_true]
            refine ⟨by simpa using g1, ?_⟩
            simp only [bne_iff_ne, ne_eq]
            intro hy
            exact g2 (by simp [dstL, hy])
          · rfl
        · split
          · rename_i d hd
            have h4 := land0 h2 (hdst _ d hd)
            have h4' : (bitsL (z.looksAt ops)).testBit d = false := h4
            rw [bitsL_mem] at h4'
            have g1 := of_decide_eq_false h4'
            simpa using g1
          · rfl
      | succ i' => exact rest h3 i' rfl

def FirstJ (ops : Array Oper) (listed : Array Bool) (j : Nat) : Prop := listed.size = ops.size ∧ ∀ k, k < ops.size → listed.getD k true = decide (k < j)

theorem FirstJ.false {ops : Array Oper} {listed : Array Bool} {j : Nat} (h : FirstJ ops listed j) {k : Nat} : listed.getD k false = decide (k < j ∧ k < ops.size) := by
  by_cases hk : k < ops.size
  · have := h.2 k hk
    rw [Array.getD_eq_getD_getElem?] at this ⊢
    rw [Array.getElem?_eq_getElem (by rw [h.1]; exact hk)] at this ⊢
    simp only [Option.getD_some] at this ⊢
    rw [this]
    simp [hk]
  · rw [Array.getD_eq_getD_getElem?, Array.getElem?_eq_none (by rw [h.1]; omega)]
    simp [hk]

theorem FirstJ.set {ops : Array Oper} {listed : Array Bool} {j : Nat} (h : FirstJ ops listed j) : FirstJ ops (listed.setIfInBounds j true) (j + 1) := by
  refine ⟨by simpa using h.1, fun k hk => ?_⟩
  by_cases hkj : j = k
  · subst hkj
    rw [Array.getD_eq_getD_getElem?, Array.getElem?_setIfInBounds_self_of_lt (by rw [h.1]; exact hk)]
    simp
  · rw [getD_set_ne true hkj, h.2 k hk]
    simp only [decide_eq_decide]
    omega

theorem pre_lt {ops : Array Oper} {o : Oper} {j : Nat} (h : Nat.beq (Nat.shiftRight (opI ops o).pre j) 0 = true) : ∀ e ∈ o.after, Region.binds .any e = true → e.on < j := by
  intro e he hb
  rcases Nat.lt_or_ge e.on j with h1 | h1
  · exact h1
  · exfalso
    have h := Nat.eq_of_beq_eq_true h
    have h' : (bitsL (preL o)) >>> j = 0 := h
    have h2 : ((bitsL (preL o)) >>> j).testBit (e.on - j) = true := by
      rw [Nat.testBit_shiftRight, bitsL_mem, show j + (e.on - j) = e.on by omega]
      refine decide_eq_true (List.mem_map.2 ⟨e, List.mem_filter.2 ⟨by simpa using he, hb⟩, rfl⟩)
    rw [h'] at h2
    simp at h2

theorem pre_ge {ops : Array Oper} {o : Oper} {j : Nat} (h : Nat.beq (Nat.shiftRight (opI ops o).pre j) 0 = false) : ∃ e ∈ o.after, Region.binds .any e = true ∧ j ≤ e.on := by
  apply Classical.byContradiction
  intro hn
  have h' : (bitsL (preL o)) >>> j = 0 := by
    apply Nat.eq_of_testBit_eq
    intro m
    rw [Nat.testBit_shiftRight, bitsL_mem, Nat.zero_testBit]
    refine decide_eq_false fun hm => hn ?_
    obtain ⟨e, he, h1⟩ := List.mem_map.1 hm
    obtain ⟨he, hb⟩ := List.mem_filter.1 he
    exact ⟨e, by simpa using he, hb, by omega⟩
  have h2 : Nat.shiftRight (opI ops o).pre j = 0 := h'
  rw [h2] at h
  cases h

theorem onlyB_spec {ops : Array Oper} {j : Nat} : ∀ (l : List Oper), onlyB j (l.map (opI ops)) = true → ∀ x ∈ l, ∃ e ∈ x.after, Region.binds .any e = true ∧ j ≤ e.on := by
  intro l
  induction l with
  | nil => intro _ x hx; cases hx
  | cons x r ih =>
    intro h y hy
    rw [List.map_cons, onlyB, Bool.and_eq_true, Bool.not_eq_true'] at h
    rcases List.mem_cons.1 hy with rfl | hy
    · exact pre_ge h.1
    · exact ih h.2 y hy

theorem seqB_tail {all : List OpI} : ∀ {l : List OpI} {j : Nat}, seqB all j l = true → ∀ i y, l[i]? = some y → Nat.beq (Nat.shiftRight y.pre (j + i)) 0 = true ∧ pairsB y (j + i) 0 all = true
  | x :: r, j, h, i, y, hy => by
    simp only [seqB, Bool.and_eq_true] at h
    obtain ⟨h1, h2, _, h4⟩ := h
    cases i with
    | zero => simp at hy; subst hy; exact ⟨h1, h2⟩
    | succ i =>
      have := seqB_tail h4 i y (by simpa using hy)
      rw [show j + (i + 1) = j + 1 + i by omega]
      exact this

theorem seqS_spec {tab : List TI} {ext : Ext} (hT : TabOk P tab) (hX : ExtOk P ext) {wr : Bool} {ops : Array Oper} {Q : Exit → Act → World → Prop} (hs : Region.noSelect ops = true) (hQ : ∀ c a w, ¬ Q (.panic c) a w) {S' : St}
    (hc : All S'.cs) (hK : ∀ a' w0' G' w' V' own', RelV n K w0' G' w' a' S'.E S'.L V' own' → DecOk q a' S' → Q .normal a' w')
    (hall : seqB (ops.toList.map (opI ops)) 0 (ops.toList.map (opI ops)) = true) : ∀ {l : List Oper} {w0 : World} {G : Nat → Prop} {j : Nat} {listed : Array Bool} {S : St} {a : Act} {w : World} {V : Nat → Value} {own : Nat → List Nat},
    RelV n K w0 G w a S.E S.L V own → DecOk q a S → Down ops listed → FirstJ ops listed j → ops.toList.drop j = l → seqB (ops.toList.map (opI ops)) j (l.map (opI ops)) = true → seqS tab ext wr n ops j listed l S = some S' → wpAnyK P ops Q [] l.length listed a w
  | [], w0, G, j, listed, S, a, w, V, own, hR, hd, hD, hF, hl, _, h => by
    cases h
    have hge : ops.size ≤ j := by
      have := congrArg List.length hl
      simp at this
      omega
    refine fun w1 k => ⟨?_, hK _ _ _ _ _ _ (hR.ext k) hd⟩
    apply List.eq_nil_iff_forall_not_mem.2
    intro i hi
    obtain ⟨h1, o, ho, _⟩ := mem_ready.1 hi
    have hlt := (Array.getElem?_eq_some_iff.1 ho).1
    rw [hF.2 i hlt] at h1
    have := of_decide_eq_false h1
    omega
  | o :: r, w0, G, j, listed, S, a, w, V, own, hR, hd, hD, hF, hl, hB, h => by
    have hlen := congrArg List.length hl
    simp only [List.length_drop, Array.length_toList, List.length_cons] at hlen
    have hj : j < ops.size := by omega
    have ho : ops[j]? = some o := by
      have := congrArg (fun l => l[0]?) hl
      simpa using this
    have hr : ops.toList.drop (j + 1) = r := by
      have := congrArg List.tail hl
      simpa using this
    simp only [List.map_cons, seqB, Bool.and_eq_true] at hB
    obtain ⟨b1, b2, b3, b4⟩ := hB
    have hready : j ∈ Region.ready .any ops listed := by
      refine mem_ready.2 ⟨by rw [hF.2 j hj]; simp, o, ho, fun e he hb => ?_⟩
      have := pre_lt b1 e he hb
      rw [hF.false]
      exact decide_eq_true ⟨this, by omega⟩
    have hfree : ∀ i oi, ops[i]? = some oi → i ≠ j → listed.getD i true = false → (∀ e ∈ oi.after, Region.binds .any e = true → e.on ≠ j) → o.apart ops oi = true := by
      intro i oi hi hij hun hno
      have hlt := (Array.getElem?_eq_some_iff.1 hi).1
      rw [hF.2 i hlt] at hun
      have hge := of_decide_eq_false hun
      have hy : (ops.toList.map (opI ops))[i]? = some (opI ops oi) := by simp [hi]
      obtain ⟨_, hp⟩ := seqB_tail hall i _ hy
      rw [Nat.zero_add] at hp
      rcases pairsB_spec hp j o (by simpa using ho) (by omega) with ⟨e, he, hb, he2⟩ | hap
      · exact absurd (by rw [he2]; simp) (hno e he hb)
      · exact hap
    have quiet : ∀ {S2 : St}, stepO tab ext wr n true ops.toList S o = some S2 → seqS tab ext wr n ops (j + 1) (listed.setIfInBounds j true) r S2 = some S' → wpAnyK P ops Q [] (o :: r).length listed a w := by
      intro S2 hst h
      obtain ⟨v, hy, g1, g2⟩ := stepO_quiet hT hX hR hd hst (seqS_cs h hc)
      exact wpAnyK_first ho (Region.noSelect_spec hs) hQ r.length listed a w hD hfree hready hy (seqS_spec hT hX hs hQ hc hK hall g1 g2 (hD.set hready) hF.set hr b4 h)
    simp only [seqS] at h
    split at h
    · split at h
      · rename_i S2 hst; exact quiet hst h
      · cases h
    · rename_i hloud
      split at h
      · rename_i S2 hst; exact quiet hst h
      · split at h
        · rename_i S2 hB
          have hlo : (opI ops o).loud = true := hloud
          rw [hlo] at b3
          simp only at b3
          have hc2 : All S2.cs := seqS_cs h hc
          refine fun w1 k => ⟨fun h0 => by (rw [h0] at hready; cases hready), fun i hi => ?_⟩
          have hji : i = j := by
            obtain ⟨h1, oi, hoi, hai⟩ := mem_ready.1 hi
            have hlt := (Array.getElem?_eq_some_iff.1 hoi).1
            rw [hF.2 i hlt] at h1
            have hge := of_decide_eq_false h1
            apply Classical.byContradiction
            intro hne
            have hmem : oi ∈ r := by
              rw [← hr]
              refine List.mem_of_getElem? (i := i - (j + 1)) ?_
              rw [List.getElem?_drop, show j + 1 + (i - (j + 1)) = i by omega]
              simpa using hoi
            obtain ⟨e, he, hb, hle⟩ := onlyB_spec _ b3 oi hmem
            have := hai e he hb
            rw [hF.false] at this
            have := (of_decide_eq_true this).1
            omega
          subst hji
          have hR1 : RelV n K w0 G w1 a S.E S.L V own := hR.ext k
          unfold wpOp
          simp only [ho]
          have := stepB_wp (Kt := fun a' w' => (barB ops listed i = true ∨ Kept [] w1 w') ∧ wpAnyK P ops Q [] r.length (listed.setIfInBounds i true) a' w') (Q := Q) hT hX hR1 hd hB hc2 (fun a' w0' G' w' V' own' hb hR' hd' => ⟨hb, seqS_spec hT hX hs hQ hc hK hall hR' hd' (hD.set hready) hF.set hr b4 h⟩)
          split
          · rename_i hw; rw [if_pos hw] at this; exact .inl this
          · rename_i hw; rw [if_neg hw] at this; exact this
        · cases h


theorem stepF_cs {tab : List TI} {ext : Ext} {wr : Bool} {r0 : Nat} {all : List Oper} {S S' : St} {o : Oper} (h : stepF tab ext wr n r0 all S o = some S') (hc : All S'.cs) : All S.cs := by
  unfold stepF at h
  split at h
  · cases h
  · rename_i S1 hg
    have := putS_cs h
    rw [this] at hc
    exact guardS_cs hg (All.append.1 hc).1
  · rename_i S1 hg
    refine guardS_cs hg ?_
    split at h
    · split at h
      · rename_i d S2 hdec
        have := putS_cs h
        rw [this] at hc
        exact decideS_cs hdec (All.append.1 hc).1
      · cases h
    · split at h
      · split at h
        · have := putS_cs h
          rw [this] at hc
          exact (All.append.1 hc).1
        · cases h
      · split at h
        · split at h
          · have := putS_cs h
            rw [this] at hc
            exact (All.append.1 hc).1
          · cases h
        · cases h

theorem stepL_cs {tab : List TI} {ext : Ext} {r0 : Nat} {all : List Oper} {S S' : St} {o : Oper} (h : stepL tab ext n r0 all S o = some S') (hc : All S'.cs) : All S.cs := by
  unfold stepL at h
  split at h
  · rename_i S1 hg
    split at h
    · split at h
      · split at h
        · have := putS_cs h
          rw [this] at hc
          exact guardS_cs hg (All.append.1 hc).1
        · cases h
      · cases h
    · split at h
      · split at h
        · have := putS_cs h
          rw [this] at hc
          exact guardS_cs hg (All.append.1 hc).1
        · cases h
      · cases h
    · cases h
  · cases h

theorem stepF_quiet {tab : List TI} {ext : Ext} (hT : TabOk P tab) (hX : ExtOk P ext) {wr : Bool} {r0 : Nat} {A : Arr} {ops : Array Oper} {S S' : St} {o : Oper} (hR : RelV n K w0 G w a S.E S.L V own) (hA : hget S.L r0 = some A) (hd : DecOk q a S)
    (h : stepF tab ext wr n r0 ops.toList S o = some S') (hc : All S'.cs) :
    ∃ v, YieldsK P ops (own r0) o v a w ∧ RelV n K w0 G w (a.put o.dst v) S'.E S'.L V own ∧ DecOk q (a.put o.dst v) S' := by
  unfold stepF at h
  split at h
  · cases h
  · rename_i S1 hg
    have hcs := putS_cs h
    rw [hcs] at hc
    obtain ⟨h1, h2, h3, h4, h5⟩ := guardS_spec hR hd hg (All.append.1 hc).1
    have hR1 : RelV n K w0 G w a S1.E S1.L V own := by rw [h2, h3]; exact hR
    obtain ⟨g1, g2, _⟩ := putS_spec (v := undef) h hR1 h4 ⟨rfl, trivial⟩
    exact ⟨undef, .inr ⟨h1, rfl⟩, g1, g2⟩
  · rename_i S1 hg
    have hc1 : All S1.cs := by
      split at h
      · split at h
        · rename_i d S2 hdec
          have hcs := putS_cs h
          rw [hcs] at hc
          exact decideS_cs hdec (All.append.1 hc).1
        · cases h
      · split at h
        · split at h
          · have hcs := putS_cs h
            rw [hcs] at hc
            exact (All.append.1 hc).1
          · cases h
        · split at h
          · split at h
            · have hcs := putS_cs h
              rw [hcs] at hc
              exact (All.append.1 hc).1
            · cases h
          · cases h
    obtain ⟨h1, h2, h3, h4, h5⟩ := guardS_spec hR hd hg hc1
    have hR1 : RelV n K w0 G w a S1.E S1.L V own := by rw [h2, h3]; exact hR
    have hA1 : hget S1.L r0 = some A := by rw [h3]; exact hA
    split at h
    · rename_i c x y ho
      split at h
      · rename_i d S2 hdec
        have hcs := putS_cs h
        rw [hcs] at hc
        obtain ⟨k1, k2, k3, k4, k5⟩ := decideS_spec hR1 h4 hdec (All.append.1 hc).1
        have hR2 : RelV n K w0 G w a S2.E S2.L V own := by rw [k2, k3]; exact hR1
        obtain ⟨g1, g2, _⟩ := putS_spec h hR2 k4 (cond_rep (d := d) (hR2.opnd x) (hR2.opnd y))
        refine ⟨_, .inl ⟨h1, fun w' k => ?_⟩, g1, g2⟩
        unfold Oper.quietAt
        rw [pick_run ho k1 w']
        exact ⟨rfl, rfl⟩
      · cases h
    · split at h
      · rename_i hnm
        split at h
        · rename_i cs pv hop
          have hcs := putS_cs h
          rw [hcs] at hc
          obtain ⟨v, hv, hq⟩ := noMem_spec (P := P) hR1 hnm hop
          obtain ⟨g1, g2, _⟩ := putS_spec h hR1 h4 hv
          refine ⟨v, .inl ⟨h1, fun w' k => ?_⟩, g1, g2⟩
          unfold Oper.quietAt
          rw [hq w']
          exact ⟨rfl, rfl⟩
        · cases h
      · split at h
        · rename_i cs pv hop
          split at h
          · rename_i hdet
            have hcs := putS_cs h
            rw [hcs] at hc
            obtain ⟨v, hv, hq⟩ := opQ_specF hT hX hR1 hA1 hop hdet (All.append.1 hc).2
            obtain ⟨g1, g2, _⟩ := putS_spec h hR1 h4 hv
            exact ⟨v, .inl ⟨h1, hq⟩, g1, g2⟩
          · cases h
        · cases h

theorem stepL_wp {tab : List TI} (hT : TabOk P tab) {ext : Ext} (hX : ExtOk P ext) {r0 : Nat} {ops : Array Oper} {S S' : St} {o : Oper} (hR : RelV n K w0 G w a S.E S.L V own) (hd : DecOk q a S)
    (h : stepL tab ext n r0 ops.toList S o = some S') (hc : All S'.cs) {Kt : Act → World → Prop} {Q : Exit → Act → World → Prop}
    (hK : ∀ a' w0' G' w' V' own', Kept (own r0) w w' → RelV n K w0' G' w' a' S'.E S'.L V' own' → DecOk q a' S' → Kt a' w') :
    if Region.wanted o (yielded ops a.tmps) then o.wp P a w Kt Q else Kt (a.put o.dst undef) w := by
  unfold stepL at h
  split at h
  · rename_i S1 hg
    split at h
    · rename_i f args ts ho
      split at h
      · rename_i g ps hgp
        split at h
        · rename_i cs pv E L hop
          have hcs := putS_cs h
          rw [hcs] at hc
          obtain ⟨h1, h2, h3, h4, h5⟩ := guardS_spec hR hd hg (All.append.1 hc).1
          rw [h1, if_pos rfl]
          have hR1 : RelV n K w0 G w a S1.E S1.L V own := by rw [h2, h3]; exact hR
          obtain ⟨vs, hv, hps⟩ := calleeA_spec hR1 hgp
          obtain ⟨hcall, hcalls⟩ := callF_spec hX hR1 hps hop (All.append.1 hc).2
          unfold Oper.wp
          rw [call_run hcall ho hv]
          refine hcalls.mono ?_
          rintro e w' ⟨v, w0', G', V', own', rfl, hk, hR', hv'⟩
          obtain ⟨g1, g2, _⟩ := putS_spec h hR' h4 hv'
          exact hK _ _ _ _ _ _ hk g1 g2
        · cases h
      · cases h
    · rename_i T x y ho
      split at h
      · rename_i r L1 ht hL
        split at h
        · rename_i hr
          have hcs := putS_cs h
          rw [hcs] at hc
          obtain ⟨h1, h2, h3, h4, h5⟩ := guardS_spec hR hd hg (All.append.1 hc).1
          rw [h1, if_pos rfl]
          have hR1 : RelV n K w0 G w a S1.E S1.L V own := by rw [h2, h3]; exact hR
          obtain ⟨w1, hrun, hR2, r2, ht2, hk⟩ := store_spec hT hR1 hL
          rw [ht] at ht2; cases ht2
          obtain rfl := Nat.eq_of_beq_eq_true hr
          unfold Oper.wp
          have : (execOp a.eval o).run P w = .ok .skip w1 := by simp [execOp, ho, hrun]
          rw [this]
          obtain ⟨g1, g2, _⟩ := putS_spec h hR2 h4 (v := undef) trivial
          exact hK _ _ _ _ _ _ hk g1 g2
        · cases h
      · cases h
    · cases h
  · cases h

def srcOf : Nat → Heap → Option Nat
  | _, [] => none
  | k, some A :: l => match A.sm with
    | some true => some k
    | _ => srcOf (k + 1) l
  | k, none :: l => srcOf (k + 1) l

def firstF (tab : List TI) (ext : Ext) (wr : Bool) (n r0 : Nat) (ops : Array Oper) (listed : Array Bool) (S : St) : List Nat → Option (Nat × St)
  | [] => none
  | i :: r => match nthO ops.toList i, Region.free .any ops listed i with
    | some o, true => match stepF tab ext wr n r0 ops.toList S o with
      | some S' => some (i, S')
      | none => firstF tab ext wr n r0 ops listed S r
    | _, _ => firstF tab ext wr n r0 ops listed S r

def schedF (tab : List TI) (ext : Ext) (wr : Bool) (n r0 : Nat) (ops : Array Oper) : Nat → Array Bool → St → Option St
  | 0, _, _ => none
  | m + 1, listed, S => match Region.ready .any ops listed with
    | [] => none
    | i :: r => match decOs ops.toList (i :: r) S with
      | none => none
      | some S => match hget S.L r0 with
        | none => none
        | some _ => match firstF tab ext wr n r0 ops listed S (i :: r) with
          | some (j, S') => schedF tab ext wr n r0 ops m (listed.setIfInBounds j true) S'
          | none => match r, nthO ops.toList i with
            | [], some o => match stepL tab ext n r0 ops.toList S o with
              | some S' => schedS tab ext wr n ops m (listed.setIfInBounds i true) S'
              | none => none
            | _, _ => none

theorem firstF_spec {tab : List TI} {ext : Ext} {wr : Bool} {r0 : Nat} {ops : Array Oper} {listed : Array Bool} {S : St} {j : Nat} {S' : St} : ∀ {rs : List Nat}, firstF tab ext wr n r0 ops listed S rs = some (j, S') →
    j ∈ rs ∧ ∃ o, ops[j]? = some o ∧ Region.free .any ops listed j = true ∧ stepF tab ext wr n r0 ops.toList S o = some S'
  | [], h => by cases h
  | i :: r, h => by
    simp only [firstF] at h
    have rest : firstF tab ext wr n r0 ops listed S r = some (j, S') → j ∈ i :: r ∧ ∃ o, ops[j]? = some o ∧ Region.free .any ops listed j = true ∧ stepF tab ext wr n r0 ops.toList S o = some S' := fun h => by
      obtain ⟨h1, h2⟩ := firstF_spec h
      exact ⟨List.mem_cons_of_mem _ h1, h2⟩
    split at h
    · rename_i o ho hf
      split at h
      · rename_i S1 h1
        cases h
        rw [nthO_eq] at ho
        exact ⟨List.mem_cons_self .., o, by simpa using ho, hf, h1⟩
      · exact rest h
    · exact rest h

theorem schedF_cs {tab : List TI} {ext : Ext} {wr : Bool} {r0 : Nat} {ops : Array Oper} {S' : St} : ∀ {m : Nat} {listed : Array Bool} {S : St}, schedF tab ext wr n r0 ops m listed S = some S' → All S'.cs → All S.cs
  | 0, listed, S, h, hc => by
    simp only [schedF] at h
    cases h
  | m + 1, listed, S, h, hc => by
    simp only [schedF] at h
    split at h
    · cases h
    · split at h
      · cases h
      · rename_i S1 hdec
        refine decOs_cs hdec ?_
        split at h
        · cases h
        · split at h
          · rename_i j S2 hq
            obtain ⟨_, o, _, _, hst⟩ := firstF_spec hq
            exact stepF_cs hst (schedF_cs h hc)
          · split at h
            · split at h
              · rename_i S2 hB
                exact stepL_cs hB (schedS_cs h hc)
              · cases h
            · cases h

theorem schedF_spec {tab : List TI} {ext : Ext} (hT : TabOk P tab) (hX : ExtOk P ext) {wr : Bool} {ops : Array Oper} {Q : Exit → Act → World → Prop} (hs : Region.noSelect ops = true) (hQ : ∀ c a w, ¬ Q (.panic c) a w) {S' : St}
    (hc : All S'.cs) (hK : ∀ a' w0' G' w' V' own', RelV n K w0' G' w' a' S'.E S'.L V' own' → DecOk q a' S' → Q .normal a' w') {r0 : Nat} : ∀ {m : Nat} {listed : Array Bool} {S : St} {a : Act} {w : World},
    RelV n K w0 G w a S.E S.L V own → DecOk q a S → Down ops listed → schedF tab ext wr n r0 ops m listed S = some S' → wpAnyK P ops Q (own r0) m listed a w
  | 0, listed, S, a, w, hR, hd, hD, h => by
    simp only [schedF] at h
    cases h
  | m + 1, listed, S, a, w, hR, hd, hD, h => by
    simp only [schedF] at h
    split at h
    · cases h
    · rename_i i r hr
      split at h
      · cases h
      · rename_i S1 hdec
        split at h
        · cases h
        · rename_i A0 hA0
          split at h
          · rename_i j S2 hq
            obtain ⟨hjr, o, ho, hf, hst⟩ := firstF_spec hq
            rw [← hr] at hjr
            have hc2 : All S2.cs := schedF_cs h hc
            have hc1 : All S1.cs := stepF_cs hst hc2
            obtain ⟨e1, e2, e3⟩ := decOs_spec hR hd hdec hc1
            have hR1 : RelV n K w0 G w a S1.E S1.L V own := by rw [e1, e2]; exact hR
            obtain ⟨v, hy, g1, g2⟩ := stepF_quiet (ops := ops) hT hX hR1 hA0 e3 hst hc2
            refine wpAnyK_first ho (Region.noSelect_spec hs) hQ m listed a w hD (Region.free_spec ho hf) hjr hy ?_
            exact schedF_spec hT hX hs hQ hc hK g1 g2 (hD.set hjr) h
          · split at h
            · rename_i o hno _
              rw [nthO_eq] at hno
              have ho : ops[i]? = some o := by simpa using hno
              split at h
              · rename_i S2 hB
                have hc2 : All S2.cs := schedS_cs h hc
                have hc1 : All S1.cs := stepL_cs hB hc2
                obtain ⟨e1, e2, e3⟩ := decOs_spec hR hd hdec hc1
                have hir : i ∈ Region.ready .any ops listed := by rw [hr]; simp
                refine fun w1 k => ⟨fun h0 => by (rw [hr] at h0; cases h0), fun j hj => ?_⟩
                have hji : j = i := by rw [hr] at hj; simpa using hj
                subst hji
                have hR1 : RelV n K w0 G w1 a S1.E S1.L V own := by rw [e1, e2]; exact hR.ext k
                unfold wpOp
                simp only [ho]
                have := stepL_wp (Kt := fun a' w' => (barB ops listed j = true ∨ Kept (own r0) w1 w') ∧ wpAnyK P ops Q (own r0) m (listed.setIfInBounds j true) a' w') (Q := Q) hT hX hR1 e3 hB hc2 (fun a' w0' G' w' V' own' hb hR' hd' => ⟨.inr hb, (schedS_spec hT hX hs hQ hc hK hR' hd' (hD.set hir) h).mono (by simp)⟩)
                split
                · rename_i hw; rw [if_pos hw] at this; exact .inl this
                · rename_i hw; rw [if_neg hw] at this; exact this
              · cases h
            · cases h

def firstT (tab : List TI) (wr : Bool) (n : Nat) (ops : Array Oper) (listed : Array Bool) (S : St) : List Nat → Option (Nat × St)
  | [] => none
  | i :: r => match nthO ops.toList i, Region.free .any ops listed i with
    | some o, true => match stepT tab wr n ops.toList S o with
      | some S' => some (i, S')
      | none => firstT tab wr n ops listed S r
    | _, _ => firstT tab wr n ops listed S r

def schedT (tab : List TI) (ext : Ext) (wr : Bool) (n : Nat) (ops : Array Oper) : Nat → Array Bool → St → Option St
  | 0, listed, S => match Region.ready .any ops listed with
    | [] => some S
    | _ => none
  | m + 1, listed, S => match Region.ready .any ops listed with
    | [] => some S
    | i :: r => match decOs ops.toList (i :: r) S with
      | none => none
      | some S => match firstT tab wr n ops listed S (i :: r) with
        | some (j, S') => schedT tab ext wr n ops m (listed.setIfInBounds j true) S'
        | none => match r, nthO ops.toList i with
          | [], some o => match stepO tab ext wr n false ops.toList S o with
            | some S' => schedT tab ext wr n ops m (listed.setIfInBounds i true) S'
            | none => none
          | [j], some o => match nthO ops.toList j with
            | some p => match stepO tab ext wr n false ops.toList S o, stepO tab ext wr n false ops.toList ⟨S.path, S.dec, S.E, S.L, [], S.pins⟩ p with
              | some S1, some S2 => match schedT tab ext wr n ops m (listed.setIfInBounds i true) S1, schedT tab ext wr n ops m (listed.setIfInBounds j true) S2 with
                | some A, some B => match normB n S.L.length A B with
                  | some B' => match eqNs A.pins B'.pins with
                    | true => some (joinS n A B')
                    | false => none
                  | none => none
                | _, _ => none
              | _, _ => none
            | none => none
          | _, _ => none

theorem firstT_spec {tab : List TI} {wr : Bool} {ops : Array Oper} {listed : Array Bool} {S : St} {j : Nat} {S' : St} : ∀ {rs : List Nat}, firstT tab wr n ops listed S rs = some (j, S') →
    j ∈ rs ∧ ∃ o, ops[j]? = some o ∧ Region.free .any ops listed j = true ∧ stepT tab wr n ops.toList S o = some S'
  | [], h => by cases h
  | i :: r, h => by
    simp only [firstT] at h
    have rest : firstT tab wr n ops listed S r = some (j, S') → j ∈ i :: r ∧ ∃ o, ops[j]? = some o ∧ Region.free .any ops listed j = true ∧ stepT tab wr n ops.toList S o = some S' := fun h => by
      obtain ⟨h1, h2⟩ := firstT_spec h
      exact ⟨List.mem_cons_of_mem _ h1, h2⟩
    split at h
    · rename_i o ho hf
      split at h
      · rename_i S1 h1
        cases h
        rw [nthO_eq] at ho
        exact ⟨List.mem_cons_self .., o, by simpa using ho, hf, h1⟩
      · exact rest h
    · exact rest h

theorem stepT_cs {tab : List TI} {wr : Bool} {all : List Oper} {S S' : St} {o : Oper} (h : stepT tab wr n all S o = some S') (hc : All S'.cs) : All S.cs := by
  unfold stepT at h
  split at h
  · cases h
  · rename_i S1 hg
    have hcs := putS_cs h
    rw [hcs] at hc
    exact guardS_cs hg (All.append.1 hc).1
  · rename_i S1 hg
    refine guardS_cs hg ?_
    split at h
    · split at h
      · rename_i d S2 hdec
        have hcs := putS_cs h
        rw [hcs] at hc
        exact decideS_cs hdec (All.append.1 hc).1
      · cases h
    · split at h
      · cases h
      · split at h
        · have hcs := putS_cs h
          rw [hcs] at hc
          exact (All.append.1 hc).1
        · cases h

theorem stepT_quiet {tab : List TI} (hT : TabOk P tab) {wr : Bool} {ops : Array Oper} {S S' : St} {o : Oper} (hR : RelV n K w0 G w a S.E S.L V own) (hd : DecOk q a S)
    (h : stepT tab wr n ops.toList S o = some S') (hc : All S'.cs) :
    ∃ v, YieldsT P ops o v a ∧ RelV n K w0 G w (a.put o.dst v) S'.E S'.L V own ∧ DecOk q (a.put o.dst v) S' := by
  have hc0 := stepT_cs h hc
  unfold stepT at h
  split at h
  · cases h
  · rename_i S1 hg
    have hcs := putS_cs h
    rw [hcs] at hc
    obtain ⟨h1, h2, h3, h4, h5⟩ := guardS_spec hR hd hg (All.append.1 hc).1
    have hR1 : RelV n K w0 G w a S1.E S1.L V own := by rw [h2, h3]; exact hR
    obtain ⟨g1, g2, _⟩ := putS_spec (v := undef) h hR1 h4 ⟨rfl, trivial⟩
    exact ⟨undef, .inr ⟨h1, rfl⟩, g1, g2⟩
  · rename_i S1 hg
    have hc1 : All S1.cs := by
      split at h
      · split at h
        · rename_i d S2 hdec
          have hcs := putS_cs h
          rw [hcs] at hc
          exact decideS_cs hdec (All.append.1 hc).1
        · cases h
      · split at h
        · cases h
        · split at h
          · have hcs := putS_cs h
            rw [hcs] at hc
            exact (All.append.1 hc).1
          · cases h
    obtain ⟨h1, h2, h3, h4, h5⟩ := guardS_spec hR hd hg hc1
    have hR1 : RelV n K w0 G w a S1.E S1.L V own := by rw [h2, h3]; exact hR
    split at h
    · rename_i c x y ho
      split at h
      · rename_i d S2 hdec
        have hcs := putS_cs h
        rw [hcs] at hc
        obtain ⟨k1, k2, k3, k4, k5⟩ := decideS_spec hR1 h4 hdec (All.append.1 hc).1
        have hR2 : RelV n K w0 G w a S2.E S2.L V own := by rw [k2, k3]; exact hR1
        have hv : RepP w0 G S2.L V (cond d (opnd S2.E x) (opnd S2.E y)) (if d then a.eval x else a.eval y) := by
          cases d
          · exact hR2.opnd y
          · exact hR2.opnd x
        obtain ⟨g1, g2, _⟩ := putS_spec h hR2 k4 hv
        exact ⟨_, .inl ⟨h1, fun w' => pick_run ho k1 w'⟩, g1, g2⟩
      · cases h
    · split at h
      · cases h
      · rename_i hnl
        split at h
        · rename_i cs pv hop
          have hcs := putS_cs h
          rw [hcs] at hc
          obtain ⟨v, hv, hq⟩ := absQ_spec hT hR1 hop (All.append.1 hc).2
          obtain ⟨g1, g2, _⟩ := putS_spec h hR1 h4 hv
          exact ⟨v, .inl ⟨h1, fun w' => hq w' fun hl => by rw [hnl] at hl; cases hl⟩, g1, g2⟩
        · cases h

theorem schedT_cs {tab : List TI} {ext : Ext} {wr : Bool} {ops : Array Oper} {S' : St} : ∀ {m : Nat} {listed : Array Bool} {S : St}, schedT tab ext wr n ops m listed S = some S' → All S'.cs → All S.cs
  | 0, listed, S, h, hc => by
    simp only [schedT] at h
    split at h
    · cases h; exact hc
    · cases h
  | m + 1, listed, S, h, hc => by
    simp only [schedT] at h
    split at h
    · cases h; exact hc
    · split at h
      · cases h
      · rename_i S1 hdec
        refine decOs_cs hdec ?_
        split at h
        · rename_i j S2 hq
          obtain ⟨_, o, _, _, hst⟩ := firstT_spec hq
          exact stepT_cs hst (schedT_cs h hc)
        · split at h
          · split at h
            · rename_i S2 hB
              exact stepO_cs hB (schedT_cs h hc)
            · cases h
          · split at h
            · split at h
              · rename_i S2 S3 hA hB
                split at h
                · rename_i A B hA2 hB2
                  split at h
                  · split at h
                    · cases h
                      exact stepO_cs hA (schedT_cs hA2 (All.append.1 hc).1)
                    · cases h
                  · cases h
                · cases h
              · cases h
            · cases h
          · cases h

theorem schedT_spec {tab : List TI} {ext : Ext} (hT : TabOk P tab) (hX : ExtOk P ext) {wr : Bool} {ops : Array Oper} {Q : Exit → Act → World → Prop} (hs : Region.noSelect ops = true) (hQ : ∀ c a w, ¬ Q (.panic c) a w) {S' : St}
    (hc : All S'.cs) (hK : ∀ a' w0' G' w' V' own', RelV n K w0' G' w' a' S'.E S'.L V' own' → DecOk q a' S' → Q .normal a' w') : ∀ {w0 : World} {G : Nat → Prop} {m : Nat} {listed : Array Bool} {S : St} {a : Act} {w : World} {V : Nat → Value} {own : Nat → List Nat},
    RelV n K w0 G w a S.E S.L V own → DecOk q a S → Down ops listed → schedT tab ext wr n ops m listed S = some S' → wpAny P .any ops Q m listed a w
  | w0, G, 0, listed, S, a, w, V, own, hR, hd, hD, h => by
    simp only [schedT] at h
    split at h
    · rename_i hr
      cases h
      exact ⟨hr, hK _ _ _ _ _ _ hR hd⟩
    · cases h
  | w0, G, m + 1, listed, S, a, w, V, own, hR, hd, hD, h => by
    simp only [schedT] at h
    split at h
    · rename_i hr
      cases h
      exact ⟨fun _ => hK _ _ _ _ _ _ hR hd, fun i hi => by rw [hr] at hi; cases hi⟩
    · rename_i i r hr
      split at h
      · cases h
      · rename_i S1 hdec
        split at h
        · rename_i j S2 hq
          obtain ⟨hjr, o, ho, hf, hst⟩ := firstT_spec hq
          rw [← hr] at hjr
          have hc2 : All S2.cs := schedT_cs h hc
          have hc1 : All S1.cs := stepT_cs hst hc2
          obtain ⟨e1, e2, e3⟩ := decOs_spec hR hd hdec hc1
          have hR1 : RelV n K w0 G w a S1.E S1.L V own := by rw [e1, e2]; exact hR
          obtain ⟨v, hy, g1, g2⟩ := stepT_quiet (ops := ops) hT hR1 e3 hst hc2
          refine wpAny_firstT ho (Region.noSelect_spec hs) hQ m listed a w hD (Region.free_spec ho hf) hjr hy ?_
          exact schedT_spec hT hX hs hQ hc hK g1 g2 (hD.set hjr) h
        · split at h
          · rename_i o hno _
            rw [nthO_eq] at hno
            have ho : ops[i]? = some o := by simpa using hno
            split at h
            · rename_i S2 hB
              have hc2 : All S2.cs := schedT_cs h hc
              have hc1 : All S1.cs := stepO_cs hB hc2
              obtain ⟨e1, e2, e3⟩ := decOs_spec hR hd hdec hc1
              have hir : i ∈ Region.ready .any ops listed := by rw [hr]; simp
              refine ⟨fun h0 => by (rw [hr] at h0; cases h0), fun j hj => ?_⟩
              have hji : j = i := by rw [hr] at hj; simpa using hj
              subst hji
              have hR1 : RelV n K w0 G w a S1.E S1.L V own := by rw [e1, e2]; exact hR
              unfold wpOp
              simp only [ho]
              have := stepO_wp (Kt := wpAny P .any ops Q m (listed.setIfInBounds j true)) (Q := Q) hT hX hR1 e3 hB hc2 (fun a' w0' G' w' V' own' hR' hd' => schedT_spec hT hX hs hQ hc hK hR' hd' (hD.set hir) h)
              split
              · rename_i hw; rw [if_pos hw] at this; exact .inl this
              · rename_i hw; rw [if_neg hw] at this; exact this
            · cases h
          · rename_i j o hno _
            split at h
            · rename_i p hnp
              rw [nthO_eq] at hno hnp
              have ho : ops[i]? = some o := by simpa using hno
              have hp : ops[j]? = some p := by simpa using hnp
              split at h
              · rename_i S2 S3 hA hB
                split at h
                · rename_i A B hA2 hB2
                  split at h
                  case h_2 => cases h
                  rename_i B' hnB
                  obtain ⟨nb1, nb2, nb3⟩ := normB_spec hnB
                  split at h
                  case h_2 => cases h
                  rename_i hpn
                  have hpn := eqNs_spec hpn
                  cases h
                  have hcA : All A.cs := (All.append.1 hc).1
                  have hcB : All B.cs := by rw [← nb1]; exact (All.append.1 (All.append.1 hc).2).1
                  have heq : (tabE A.E n [], A.L) = (tabE B'.E n [], B'.L) := (All.append.1 (All.append.1 hc).2).2.1
                  have hc2 : All S2.cs := schedT_cs hA2 hcA
                  have hc3 : All S3.cs := schedT_cs hB2 hcB
                  have hc1 : All S1.cs := stepO_cs hA hc2
                  obtain ⟨e1, e2, e3⟩ := decOs_spec hR hd hdec hc1
                  have hR1 : RelV n K w0 G w a S1.E S1.L V own := by rw [e1, e2]; exact hR
                  have hKA : ∀ a' w0' G' w' V' own', RelV n K w0' G' w' a' A.E A.L V' own' → DecOk q a' A → Q .normal a' w' := fun a' w0' G' w' V' own' hr' hd' =>
                    hK a' w0' G' w' V' own' hr'.tab ⟨fun t d hl => (by cases hl), hd'.2⟩
                  have hKB : ∀ a' w0' G' w' V' own', RelV n K w0' G' w' a' B.E B.L V' own' → DecOk q a' B → Q .normal a' w' := fun a' w0' G' w' V' own' hr' hd' => by
                    obtain ⟨V2, own2, hr2⟩ := nb3 hr'
                    refine hK a' w0' G' w' V2 own2 ?_ ⟨fun t d hl => (by cases hl), ?_⟩
                    · have k1 : tabE A.E n [] = tabE B'.E n [] := congrArg Prod.fst heq
                      have k2 : A.L = B'.L := congrArg Prod.snd heq
                      show RelV n K w0' G' w' a' (tabE A.E n []) A.L V2 own2
                      rw [k1, k2]; exact hr2.tab
                    · show ∀ t ∈ A.pins, a'.tmps.getD t undef = q t
                      rw [hpn, nb2]; exact hd'.2
                  have hir : i ∈ Region.ready .any ops listed := by rw [hr]; simp
                  have hjr : j ∈ Region.ready .any ops listed := by rw [hr]; simp
                  refine ⟨fun h0 => by (rw [hr] at h0; cases h0), fun k hk => ?_⟩
                  have hkk : k = i ∨ k = j := by rw [hr] at hk; simpa using hk
                  rcases hkk with rfl | rfl
                  · unfold wpOp
                    simp only [ho]
                    have := stepO_wp (Kt := wpAny P .any ops Q m (listed.setIfInBounds k true)) (Q := Q) hT hX hR1 e3 hA hc2 (fun a' w0' G' w' V' own' hR' hd' => schedT_spec hT hX hs hQ hcA hKA hR' hd' (hD.set hir) hA2)
                    split
                    · rename_i hw; rw [if_pos hw] at this; exact .inl this
                    · rename_i hw; rw [if_neg hw] at this; exact this
                  · unfold wpOp
                    simp only [hp]
                    have := stepO_wp (Kt := wpAny P .any ops Q m (listed.setIfInBounds k true)) (Q := Q) (S := ⟨S1.path, S1.dec, S1.E, S1.L, [], S1.pins⟩) hT hX hR1 e3 hB hc3 (fun a' w0' G' w' V' own' hR' hd' => schedT_spec hT hX hs hQ hcB hKB hR' hd' (hD.set hjr) hB2)
                    split
                    · rename_i hw; rw [if_pos hw] at this; exact .inl this
                    · rename_i hw; rw [if_neg hw] at this; exact this
                · cases h
              · cases h
            · cases h
          · cases h

def storeOf (E : Env) : List Oper → Option Nat
  | [] => none
  | o :: r => match o.op with
    | .store _ x _ => match tgt (opnd E x) with
      | some k => some k
      | none => storeOf E r
    | _ => storeOf E r

def fO (tab : List TI) (ext : Ext) (wr : Bool) (n : Nat) (ops : Array Oper) (S : St) : Option Nat → Option St
  | some r0 => schedF tab ext wr n r0 ops ops.size (Array.replicate ops.size false) S
  | none => none

def regionS (tab : List TI) (ext : Ext) (wr : Bool) (n : Nat) (ops : Array Oper) (draw : Bool) (S : St) : Option St :=
  match draw with
  | false => stepsO tab ext wr n false ops.toList ops.toList S
  | true => match Region.noSelect ops with
    | true => match (match seqOk ops with
      | true => seqS tab ext wr n ops 0 (Array.replicate ops.size false) ops.toList S
      | false => schedS tab ext wr n ops ops.size (Array.replicate ops.size false) S) with
      | some S' => some S'
      | none => match fO tab ext wr n ops S (srcOf 0 S.L) with
        | some S' => some S'
        | none => match fO tab ext wr n ops S (storeOf S.E ops.toList) with
          | some S' => some S'
          | none => schedT tab ext wr n ops ops.size (Array.replicate ops.size false) S
    | false => none

theorem fO_cs {tab : List TI} {ext : Ext} {wr : Bool} {ops : Array Oper} {S S' : St} {o : Option Nat} (h : fO tab ext wr n ops S o = some S') (hc : All S'.cs) : All S.cs := by
  cases o with
  | none => cases h
  | some r0 => exact schedF_cs h hc

theorem regionS_cs {tab : List TI} {ext : Ext} {wr : Bool} {ops : Array Oper} {draw : Bool} {S S' : St} (h : regionS tab ext wr n ops draw S = some S') (hc : All S'.cs) : All S.cs := by
  unfold regionS at h
  split at h
  · exact stepsO_cs h hc
  · split at h
    · split at h
      · rename_i S1 h1
        cases h
        split at h1
        · exact seqS_cs h1 hc
        · exact schedS_cs h1 hc
      · split at h
        · rename_i h1
          cases h
          exact fO_cs h1 hc
        · split at h
          · rename_i h1
            cases h
            exact fO_cs h1 hc
          · exact schedT_cs h hc
    · cases h

theorem regionS_wp {tab : List TI} {ext : Ext} (hT : TabOk P tab) (hX : ExtOk P ext) (hm : P.follows .mixedOrders = true) {wr : Bool} {id : Nat} {ops : Array Oper} {draw : Bool} {Q : Exit → Act → World → Prop} (hQ : ∀ c a w, ¬ Q (.panic c) a w) {S S' : St}
    (hR : RelV n K w0 G w a S.E S.L V own) (hd : DecOk q a S)
    (h : regionS tab ext wr n ops draw S = some S') (hc : All S'.cs) (hK : ∀ a' w0' G' w' V' own', RelV n K w0' G' w' a' S'.E S'.L V' own' → DecOk q a' S' → Q .normal a' w') : (Code.region id ops draw).wp P Q a w := by
  unfold regionS at h
  split at h
  · exact wp_region_list (stepsO_wp hT hX hR hd h hc hK)
  · split at h
    · rename_i hs
      split at h
      · rename_i S1 h1
        cases h
        refine wp_region_any hm (wpAny_of_K (F := []) _ _ _ _ ?_)
        split at h1
        · rename_i hok
          have := seqS_spec hT hX hs hQ hc hK hok (hR.ext (Kept.refl _ _).drew) hd (Down.start ops ops.size) ⟨by simp, fun k hk => by rw [Array.getD_eq_getD_getElem?]; simp [hk]⟩ (by simp) hok h1
          simpa using this
        · exact schedS_spec hT hX hs hQ hc hK (hR.ext (Kept.refl _ _).drew) hd (Down.start ops _) h1
      · have key : ∀ o S1, fO tab ext wr n ops S o = some S1 → S1 = S' → (Code.region id ops true).wp P Q a w := by
          intro o S1 h1 e
          subst e
          cases o with
          | none => cases h1
          | some r0 =>
            refine wp_region_any hm (wpAny_of_K (F := own r0) _ _ _ _ ?_)
            exact schedF_spec hT hX hs hQ hc hK (hR.ext (Kept.refl _ _).drew) hd (Down.start ops _) h1
        split at h
        · rename_i h1
          cases h
          exact key _ _ h1 rfl
        · split at h
          · rename_i h1
            cases h
            exact key _ _ h1 rfl
          · refine wp_region_any hm ?_
            exact schedT_spec hT hX hs hQ hc hK (hR.ext (Kept.refl _ _).drew) hd (Down.start ops _) h
    · cases h
end
end Go.Am

/- The abstract machine, part 20: runs between cut points. -/
namespace Go.Am
set_option linter.unusedVariables false
set_option linter.unusedSimpArgs false

def RunK (P : Program) (f : FuncId) (R : Ending → World → Prop) (k : List Item) (a : Act) (w : World) : Prop :=
  ∀ (b : Frame) cs, b.fn = f → b.kind = .normal → ∃ e w' fr, R e w' ∧ Comes P (lone (b.at a k) cs w) (lone fr cs w') e ∧ fr.fn = f ∧ fr.leaving P w' e

section
variable {P : Program} {f : FuncId} {R : Ending → World → Prop} {k k' : List Item} {a a' : Act} {w w' : World}

theorem RunK.step (h : ∀ (b : Frame) cs, step P (lone (b.at a k) cs w) = .next (lone (b.at a' k') cs w')) (hr : RunK P f R k' a' w') : RunK P f R k a w := fun b cs hb hk => by
  obtain ⟨e, w2, fr, h1, h2, h3, h4⟩ := hr b cs hb hk
  exact ⟨e, w2, fr, h1, Comes.of_steps (.one (h b cs)) h2, h3, h4⟩

theorem RunK.of_wp {c : Code} (h : c.wp P (fun e a' w' => e = .normal ∧ RunK P f R k a' w') a w) : RunK P f R (.code c :: k) a w := fun b cs hb hk => by
  obtain ⟨e, a', w', ⟨rfl, hr⟩, harr⟩ := h b k cs
  obtain ⟨e, w2, fr, h1, h2, h3, h4⟩ := hr b cs hb hk
  exact ⟨e, w2, fr, h1, Comes.of_steps harr h2, h3, h4⟩

def FinK (P : Program) (f : FuncId) (R : Ending → World → Prop) (a : Act) (w : World) : Prop :=
  a.defers = [] ∧ ∃ fn v, P.funcs[f]? = some fn ∧ (results fn a.tmps).run P w = .ok v w ∧ R (.returned v) w

theorem RunK.nil (h : FinK P f R a w) : RunK P f R [] a w := fun b cs hb hk => by
  obtain ⟨hd, fn, v, hf, hr, hR⟩ := h
  exact ⟨.returned v, w, _, hR, Steps.one step_end, hb, rfl, hd, hk, fn, by rw [show (b.at a []).fn = f from hb]; exact hf, hr⟩

theorem RunK.ret (h : FinK P f R a w) : RunK P f R (.code .ret :: k) a w := fun b cs hb hk => by
  obtain ⟨hd, fn, v, hf, hr, hR⟩ := h
  exact ⟨.returned v, w, _, hR, Steps.one step_ret, hb, rfl, hd, hk, fn, by rw [show (b.at a (.code .ret :: k)).fn = f from hb]; exact hf, hr⟩

theorem calls_of_run {fn : Func} {c : Code} {args : Array Value} (hf : P.funcs[f]? = some fn) (hb : fn.body = some c)
    (h : RunK P f R [.code c] { tmps := args ++ Array.replicate (fn.ntmps - args.size) undef, defers := [] } w) : Calls P f args w R := by
  intro cs
  let b : Frame := { (default : Frame) with fn := f, kind := .normal }
  have henter : Frame.enter P f args .normal =
      b.at { tmps := args ++ Array.replicate (fn.ntmps - args.size) undef, defers := [] } [.code c] := by
    simp [Frame.enter, Frame.at, hf, hb, b]
  rw [henter]
  exact h b cs rfl rfl
end


inductive OutS where
  | stop (k : List Item) (S : St)
  | fin (S : St)

def OutS.st : OutS → St
  | .stop _ S => S
  | .fin S => S

def decideO (S : St) : Operand → Option (Bool × St)
  | .tmp t => decideS S t
  | .const (.bool b) => some (b, S)
  | _ => none

def runA (tab : List TI) (ext : Ext) (wr : Bool) (n : Nat) (stops : List Nat) : Nat → Bool → List Item → St → Option OutS
  | 0, _, _, _ => none
  | _ + 1, _, [], S => some (.fin S)
  | m + 1, first, .inBlock _ :: k, S => runA tab ext wr n stops m first k S
  | m + 1, first, .inLoop c :: k, S => match memB 1000007 stops with
    | true => runA tab ext wr n stops m first (.code c :: .inLoop c :: k) S
    | false => some (.stop (.code c :: .inLoop c :: k) S)
  | m + 1, first, .code c :: k, S => match c with
    | .skip => runA tab ext wr n stops m first k S
    | .label _ => runA tab ext wr n stops m first k S
    | .seq x y => runA tab ext wr n stops m first (.code x :: .code y :: k) S
    | .block id c => runA tab ext wr n stops m first (.code c :: .inBlock id :: k) S
    | .loop c => match memB 1000007 stops with
      | true => runA tab ext wr n stops m first (.code c :: .inLoop c :: k) S
      | false => some (.stop (.code c :: .inLoop c :: k) S)
    | .exit id => match exitTo id k with
      | some k' => runA tab ext wr n stops m first k' S
      | none => none
    | .ret => some (.fin S)
    | .cond c x y => match decideO S c with
      | some (d, S') => runA tab ext wr n stops m false (.code (cond d x y) :: k) S'
      | none => none
    | .region id ops draw => match !first && memB id stops with
      | true => some (.stop (.code (.region id ops draw) :: k) S)
      | false => match regionS tab ext wr n ops draw S with
        | some S' => runA tab ext wr n stops m false k S'
        | none => none
    | _ => none
  | _ + 1, _, _, _ => none

section
variable {P : Program} {n : Nat} {q : Nat → Value} {K : Ctx} {G : Nat → Prop} {w0 w : World} {a : Act} {V : Nat → Value} {own : Nat → List Nat} {f : FuncId} {R : Ending → World → Prop}

def AtV (P : Program) (f : FuncId) (R : Ending → World → Prop) (n : Nat) (K : Ctx) (q : Nat → Value) (ps : List Nat) (k : List Item) (E : Env) (L : Heap) : Prop :=
  ∀ a w w0 G V own, RelV n K w0 G w a E L V own → (∀ t ∈ ps, a.tmps.getD t undef = q t) → RunK P f R k a w

def FinV (P : Program) (f : FuncId) (R : Ending → World → Prop) (n : Nat) (K : Ctx) (q : Nat → Value) (ps : List Nat) (E : Env) (L : Heap) : Prop :=
  ∀ a w w0 G V own, RelV n K w0 G w a E L V own → (∀ t ∈ ps, a.tmps.getD t undef = q t) → FinK P f R a w

def OutOk (P : Program) (f : FuncId) (R : Ending → World → Prop) (n : Nat) (K : Ctx) (q : Nat → Value) : OutS → Prop
  | .stop k S => AtV P f R n K q S.pins k S.E S.L
  | .fin S => FinV P f R n K q S.pins S.E S.L

theorem decideO_spec {S S' : St} {x : Operand} {d : Bool} (hR : RelV n K w0 G w a S.E S.L V own) (hd : DecOk q a S) (h : decideO S x = some (d, S')) (hc : All S'.cs) :
    a.eval x = .bool d ∧ S'.E = S.E ∧ S'.L = S.L ∧ DecOk q a S' ∧ All S.cs := by
  unfold decideO at h
  split at h
  · exact decideS_spec hR hd h hc
  · cases h; exact ⟨rfl, rfl, rfl, hd, hc⟩
  · cases h

theorem decideO_cs {S S' : St} {x : Operand} {d : Bool} (h : decideO S x = some (d, S')) (hc : All S'.cs) : All S.cs := by
  unfold decideO at h
  split at h
  · exact decideS_cs h hc
  · cases h; exact hc
  · cases h

theorem runA_cs {tab : List TI} {ext : Ext} {wr : Bool} {stops : List Nat} : ∀ {m : Nat} {first : Bool} {k : List Item} {S : St} {out : OutS}, runA tab ext wr n stops m first k S = some out → All out.st.cs → All S.cs := by
  intro m
  induction m with
  | zero => intro first k S out h; cases h
  | succ m ih =>
    intro first k S out h hc
    match k, h with
    | [], h => cases h; exact hc
    | .inBlock _ :: k, h => simp only [runA] at h; exact ih h hc
    | .inLoop c :: k, h =>
      simp only [runA] at h
      split at h
      · exact ih h hc
      · cases h; exact hc
    | .code c :: k, h =>
      cases c with
      | skip => simp only [runA] at h; exact ih h hc
      | label _ => simp only [runA] at h; exact ih h hc
      | seq x y => simp only [runA] at h; exact ih h hc
      | block id c => simp only [runA] at h; exact ih h hc
      | loop c =>
        simp only [runA] at h
        split at h
        · exact ih h hc
        · cases h; exact hc
      | exit id =>
        simp only [runA] at h
        split at h
        · exact ih h hc
        · cases h
      | ret => cases h; exact hc
      | cond c x y =>
        simp only [runA] at h
        split at h
        · rename_i hd; exact decideO_cs hd (ih h hc)
        · cases h
      | region id ops draw =>
        simp only [runA] at h
        split at h
        · cases h; exact hc
        · split at h
          · rename_i hr; exact regionS_cs hr (ih h hc)
          · cases h
      | _ => cases h

theorem runA_run {tab : List TI} {ext : Ext} (hT : TabOk P tab) (hX : ExtOk P ext) (hm : P.follows .mixedOrders = true) {wr : Bool} {stops : List Nat} : ∀ {w0 : World} {G : Nat → Prop} {m : Nat} {first : Bool} {k : List Item} {S : St} {out : OutS} {a : Act} {w : World} {V : Nat → Value} {own : Nat → List Nat},
    runA tab ext wr n stops m first k S = some out → All out.st.cs → RelV n K w0 G w a S.E S.L V own → DecOk q a S → OutOk P f R n K q out → RunK P f R k a w := by
  intro w0 G m
  induction m generalizing w0 G with
  | zero => intro first k S out a w V own h; cases h
  | succ m ih =>
    intro first k S out a w V own h hc hR hd ho
    match k, h with
    | [], h => cases h; exact RunK.nil (ho _ _ _ _ _ _ hR hd.2)
    | .inBlock _ :: k, h => simp only [runA] at h; exact RunK.step (fun b cs => step_inBlock) (ih h hc hR hd ho)
    | .inLoop c :: k, h =>
      simp only [runA] at h
      split at h
      · exact RunK.step (fun b cs => step_inLoop) (ih h hc hR hd ho)
      · cases h; exact RunK.step (fun b cs => step_inLoop) (ho _ _ _ _ _ _ hR hd.2)
    | .code c :: k, h =>
      cases c with
      | skip => simp only [runA] at h; exact RunK.step (fun b cs => step_skip) (ih h hc hR hd ho)
      | label _ => simp only [runA] at h; exact RunK.step (fun b cs => step_label) (ih h hc hR hd ho)
      | seq x y => simp only [runA] at h; exact RunK.step (fun b cs => step_seq) (ih h hc hR hd ho)
      | block id c => simp only [runA] at h; exact RunK.step (fun b cs => step_block) (ih h hc hR hd ho)
      | loop c =>
        simp only [runA] at h
        split at h
        · exact RunK.step (fun b cs => step_loop) (ih h hc hR hd ho)
        · cases h; exact RunK.step (fun b cs => step_loop) (ho _ _ _ _ _ _ hR hd.2)
      | exit id =>
        simp only [runA] at h
        split at h
        · rename_i k' he; exact RunK.step (fun b cs => step_exit he) (ih h hc hR hd ho)
        · cases h
      | ret => cases h; exact RunK.ret (ho _ _ _ _ _ _ hR hd.2)
      | cond c x y =>
        simp only [runA] at h
        split at h
        · rename_i d S' hdec
          obtain ⟨h1, h2, h3, h4, h5⟩ := decideO_spec hR hd hdec (runA_cs h hc)
          refine RunK.step (fun b cs => step_cond h1) ?_
          have := ih h hc (by rw [h2, h3]; exact hR) h4 ho
          cases d <;> exact this
        · cases h
      | region id ops draw =>
        simp only [runA] at h
        split at h
        · cases h; exact ho _ _ _ _ _ _ hR hd.2
        · split at h
          · rename_i S' hr
            refine RunK.of_wp (regionS_wp hT hX hm (fun c a w hh => by cases hh.1) hR hd hr (runA_cs h hc) fun a' w0' G' w' V' own' hR' hd' => ⟨rfl, ih h hc hR' hd' ho⟩)
          · cases h
      | _ => cases h
end

end Go.Am

/- The abstract machine, part 21: how a function is entered and left. -/
namespace Go.Am
set_option linter.unusedVariables false
set_option linter.unusedSimpArgs false


def capsA : (caps : List (Bool × Ty)) → capsDen caps → List Atom
  | [], _ => []
  | (true, t) :: r, x => .ptr t x.1 :: capsA r x.2
  | (false, t) :: r, x => toAtom t x.1 :: capsA r x.2

def argA (k : Nat) : (a : AT) → a.den → PV × Heap
  | .v t, x => (.a (toAtom t x), [])
  | .p t, x => (.a (.ptr t x), [])
  | .own t, xs => (.a (.osl k none), [some ⟨t, xs, false, none, none⟩])
  | .pb t, x => (.a (.optr k 0 []), [some ⟨t, [x], true, none, some true⟩])
  | .po t, x => match expl k t x with
    | (ls, es) => (.a (.bptr (k + es.length) 0 t), es ++ [some ⟨t, [], false, some ls, none⟩])
  | .sv t, x => match expl k t x with
    | (ls, es) => (.a (.rcd t ls), es)
  | .fn f caps, x => (.fn f (capsA caps x), [])
  | .fns fs, _ => (.a (.sl .fn (fs.map some)), [])

def entE : Nat → Nat → (sig : List AT) → sigDen sig → Env
  | _, _, [], _ => []
  | i, k, a :: r, x => match argA k a x.1 with
    | (p, es) => (i, p) :: entE (i + 1) (k + es.length) r x.2

def entH : Nat → (sig : List AT) → sigDen sig → Heap
  | _, [], _ => []
  | k, a :: r, x => match argA k a x.1 with
    | (_, es) => es ++ entH (k + es.length) r x.2

def entL (sig : List AT) (x : sigDen sig) : Heap := entH 0 sig x

def pinsOf : Nat → List AT → List Nat
  | _, [] => []
  | i, a :: r => match isOwn a with
    | true => i :: pinsOf (i + 1) r
    | false => pinsOf (i + 1) r

def wfCaps : (caps : List (Bool × Ty)) → capsDen caps → Prop
  | [], _ => True
  | (_, t) :: r, x => Wf t x.1 ∧ wfCaps r x.2

def wfA : (a : AT) → a.den → Prop
  | .v t, x => Wf t x
  | .p t, x => Wf t x
  | .own t, xs => Wf (.sl t) xs
  | .pb t, x => Wf t x
  | .po t, x => Wf t x
  | .sv t, x => Wf t x
  | .fn _ caps, x => wfCaps caps x
  | .fns _, _ => True

def wfSig : (sig : List AT) → sigDen sig → Prop
  | [], _ => True
  | a :: r, x => wfA a x.1 ∧ wfSig r x.2

section
variable {P : Program} {n : Nat} {K : Ctx} {G : Nat → Prop} {w0 w : World} {a : Act} {V : Nat → Value} {own : Nat → List Nat} {f : FuncId} {R : Ending → World → Prop} {E : Env} {L : Heap}

theorem repB_wf {G : Nat → Prop} {t : Ty} {x : t.den} {v : Value} (h : RepB w G (toAtom t x) v) : Wf t x := by
  cases t with
  | int k => exact h.2
  | bool => trivial
  | fn => trivial
  | str => exact h.2
  | sl e => exact wf_slAt (fun _ _ => RepC.wf) h
  | unit => trivial
  | cons a b => obtain ⟨cs, _, h⟩ := h; exact h.wf

theorem ptr_wf {G : Nat → Prop} {t : Ty} {x : t.den} {v : Value} (h : PtrAt w G t x v) : Wf t x := by
  obtain ⟨_, _, _, _, _, _, h⟩ := h
  exact h.wf

theorem caps_wf {G : Nat → Prop} : ∀ {caps : List (Bool × Ty)} {x : capsDen caps} {vs : List Value}, CapsRep w G caps x vs → wfCaps caps x
  | [], _, _, _ => trivial
  | (true, t) :: r, x, vs, ⟨_, _, _, h, h2⟩ => ⟨ptr_wf h, caps_wf h2⟩
  | (false, t) :: r, x, vs, ⟨_, _, _, h, h2⟩ => ⟨repB_wf h, caps_wf h2⟩

theorem argsK_wf {G G0 : Nat → Prop} : ∀ {sig : List AT} {x : sigDen sig} {vs : List Value} {bss : List (List Nat)}, ArgsK w G G0 sig x vs bss → wfSig sig x
  | [], _, _, _, _ => trivial
  | a :: r, x, vs, bss, ⟨_, _, _, _, _, _, h, h2⟩ => by
    refine ⟨?_, argsK_wf h2⟩
    cases a with
    | v t => exact repB_wf h.2
    | p t => exact ptr_wf h.2
    | own t => exact OwnC.wf h
    | pb t => obtain ⟨b, off, _, h⟩ := h; exact (EntC.wf h).2 _ (List.mem_singleton.2 rfl)
    | po t => obtain ⟨b, off, _, h⟩ := h; exact (wf_ownSl (fun _ _ _ => OwnC.wf) h).2 _ (List.mem_singleton.2 rfl)
    | sv t => obtain ⟨cs, _, h⟩ := h; exact h.wf
    | fn g caps => obtain ⟨_, _, _, h⟩ := h; exact caps_wf h
    | fns _ => trivial

theorem args_wf {G : Nat → Prop} {sig : List AT} {x : sigDen sig} {vs : List Value} {bss : List (List Nat)} (h : ArgsRep w G sig x vs bss) : wfSig sig x := argsK_wf h

theorem repA_ofB {t : Ty} {x : t.den} {v : Value} (h : RepB w0 G (toAtom t x) v) : RepA w0 G L V (toAtom t x) v := by
  cases t <;> exact h

theorem caps_rep : ∀ {caps : List (Bool × Ty)} {x : capsDen caps} {vs : List Value}, CapsRep w0 G caps x vs → RepAs w0 G L V (capsA caps x) vs
  | [], _, _, h => h
  | (true, t) :: r, x, vs, ⟨v, s, h1, h, h2⟩ => ⟨v, s, h1, h, caps_rep h2⟩
  | (false, t) :: r, x, vs, ⟨v, s, h1, h, h2⟩ => ⟨v, s, h1, repA_ofB h, caps_rep h2⟩

theorem arg_spec (hR : RelV n K w G w a E L V own) {o : AT} {x : o.den} {v : Value} {bs : List Nat} (h : ArgRep w G K.G0 o x v bs) (hn : bs.Nodup) (hg : ∀ b ∈ bs, Out K G b) (hd : ∀ r A, hget L r = some A → ∀ b ∈ own r, b ∉ bs) :
    ∃ V' own', RelV n K w G w a E (L ++ (argA L.length o x).2) V' own' ∧ Grown L (argA L.length o x).2 V V' own own' bs ∧ RepP w G (L ++ (argA L.length o x).2) V' (argA L.length o x).1 v := by
  cases o with
  | v t =>
    exact ⟨V, own, by simpa [argA] using hR, Grown.refl _ _ _, repA_ofB h.2⟩
  | p t =>
    exact ⟨V, own, by simpa [argA] using hR, Grown.refl _ _ _, h.2⟩
  | fns fs =>
    exact ⟨V, own, by simpa [argA] using hR, Grown.refl _ _ _, repA_ofB (L := L ++ []) (V := V) (t := .sl .fn) (x := fs.map some) h.2⟩
  | fn f caps =>
    obtain ⟨_, vs, hv, hh⟩ := h
    exact ⟨V, own, by simpa [argA] using hR, Grown.refl _ _ _, vs, hv, caps_rep hh⟩
  | own t =>
    have hE : EntC w G w ⟨t, x, false, none, none⟩ v bs := EntC.own.2 h
    obtain ⟨h1, h2⟩ := grow_one hR hE hn hg hd
    exact ⟨_, _, h1, h2, repA_new (w0 := w) (G := G) (u := w) (G' := G) hE⟩
  | pb t =>
    obtain ⟨b, off, rfl, hE0⟩ := h
    have hE : EntC w G w ⟨t, [x], true, none, some true⟩ (.slice (some ⟨b, off, none⟩) 1 1) bs := EntC.keepG (A := ⟨t, [x], true, none, none⟩) hR.gsub (fun _ _ => rfl) (fun _ _ => rfl) hE0
    obtain ⟨h1, h2⟩ := grow_one hR hE hn hg hd (hsm := fun q hq => ⟨⟨b, off, rfl⟩, fun _ => ⟨rfl, hE0⟩⟩)
    refine ⟨_, _, h1, h2, ⟨t, [x], true, none, some true⟩, hget_new _ _, by simp, b, off, 1, 1, 0, t, upd1_same _ _ _, rfl, by simp⟩
  | po t =>
    obtain ⟨b, off, rfl, hO⟩ := h
    rcases hO.2 with ⟨_, h1, _, _⟩ | ⟨b2, off2, cap, cur, ty, fz, bss, h1, h2, h3, h4, h5, h6, h7, h8, h9⟩
    · cases h1
    · simp only [Value.slice.injEq, Option.some.injEq, Addr.mk.injEq] at h1
      obtain ⟨⟨q1, q2, _⟩, _, q3⟩ := h1
      subst q1 q2 q3
      obtain ⟨bi, rfl⟩ : ∃ bi, bss = [bi] := by
        match bss, h7 with
        | [bi], _ => exact ⟨bi, rfl⟩
      obtain ⟨cs, g1, g2, g3⟩ := h9 0 x bi rfl rfl
      have hcells : CellsAt w b off cs := fun j c hj => by
        simp only [World.cell?, h5]
        have := g2 j c hj
        simpa using this
      have h8 : bs = b :: bi := by rw [h8]; simp
      subst h8
      obtain ⟨hb, hni⟩ := List.nodup_cons.1 hn
      obtain ⟨V1, own1, r1, k1, l1, n1⟩ := expl_spec hR g3 hni (fun c hc => hg c (List.mem_cons_of_mem _ hc)) (fun r A hA c hc hm => hd r A hA c hc (List.mem_cons_of_mem _ hm))
      have hE : EntC w G w ⟨t, [], false, some (expl L.length t x).1, none⟩ (.slice (some ⟨b, off, none⟩) 0 1) [b] :=
        ⟨by simp [maxLen], .inr ⟨b, off, 1, cur, ty, fz, [], rfl, Nat.zero_le _, h3, h4, h5, h6, rfl, rfl, fun i y bi hy => by simp at hy⟩⟩
      have hap := k1.apart (rest := [b]) (fun r A hA c hc hm => hd r A hA c hc (by rw [List.mem_singleton.1 hm]; exact List.mem_cons_self ..)) (fun c hc hm => hb (by rw [← List.mem_singleton.1 hm]; exact hc))
      obtain ⟨h10, h11⟩ := grow_one r1 hE (by simp) (fun c hc => by rw [List.mem_singleton.1 hc]; exact hg b (List.mem_cons_self ..)) hap (hbox := fun l hl => by cases hl; exact ⟨b, off, cs, rfl, g1, n1, hcells, l1⟩)
      have e2 : (argA L.length (.po t) x).2 = (expl L.length t x).2 ++ [some ⟨t, [], false, some (expl L.length t x).1, none⟩] := rfl
      have e1 : (argA L.length (.po t) x).1 = .a (.bptr (L.length + (expl L.length t x).2.length) 0 t) := rfl
      rw [e1, e2, ← List.append_assoc]
      have hlen : (L ++ (expl L.length t x).2).length = L.length + (expl L.length t x).2.length := by simp
      refine ⟨_, _, h10, k1.trans h11 (fun c hc => List.mem_cons_of_mem _ hc) (fun c hc => by rw [List.mem_singleton.1 hc]; exact List.mem_cons_self ..), ?_⟩
      rw [← hlen]
      exact ⟨_, _, b, off, hget_new _ _, rfl, upd1_same _ _ _, rfl, by simp⟩
  | sv t =>
    obtain ⟨cs, rfl, ho⟩ := h
    obtain ⟨V1, own1, r1, k1, l1, n1⟩ := expl_spec hR ho hn hg hd
    exact ⟨V1, own1, r1, k1, cs, rfl, n1, l1⟩

theorem ent_spec : ∀ {sig : List AT} {x : sigDen sig} {vs : List Value} {bss : List (List Nat)} {L : Heap} {V : Nat → Value} {own : Nat → List Nat} {i : Nat}, RelV n K w G w a E L V own → ArgsK w G K.G0 sig x vs bss → bss.flatten.Nodup → (∀ b ∈ bss.flatten, Out K G b) → (∀ r A, hget L r = some A → ∀ b ∈ own r, b ∉ bss.flatten) →
    (∀ j v, vs[j]? = some v → a.tmps.getD (i + j) undef = v) →
    ∃ V' own', RelV n K w G w a E (L ++ entH L.length sig x) V' own' ∧ (∀ r, (∃ B, hget L r = some B) → Agree L V (L ++ entH L.length sig x) V' r) ∧ ∀ j, RepP w G (L ++ entH L.length sig x) V' ((entE i L.length sig x).get j) (a.tmps.getD j undef)
  | [], x, vs, bss, L, V, own, i, hR, _, _, _, _, _ => ⟨V, own, by simpa [entH] using hR, fun r _ => Agree.of_same rfl (by simp [entH]), fun j => trivial⟩
  | o :: sig, x, vs, bss, L, V, own, i, hR, ⟨v, s, b, bs, h1, h2, h, h3⟩, hn, hg, hd, ht => by
    subst h1 h2
    obtain ⟨hn1, hn2, hn3⟩ := nodup_flatten_cons hn
    obtain ⟨V1, own1, r1, g1, p1⟩ := arg_spec hR h hn1 (fun c hc => hg c (by simp [hc])) (fun r A hA c hc hm => hd r A hA c hc (by simp [hm]))
    have hlen : (L ++ (argA L.length o x.1).2).length = L.length + (argA L.length o x.1).2.length := by simp
    obtain ⟨V2, own2, r2, a2, p2⟩ := ent_spec (i := i + 1) r1 h3 hn2 (fun c hc => hg c (by rw [List.flatten_cons]; exact List.mem_append_right _ hc)) (g1.apart (fun r A hA c hc hm => hd r A hA c hc (by rw [List.flatten_cons]; exact List.mem_append_right _ hm)) hn3) (fun j u hj => by
      have := ht (j + 1) u (by simpa using hj)
      rwa [show i + (j + 1) = i + 1 + j from by omega] at this)
    rw [hlen] at r2 a2 p2
    have e1 : entH L.length (o :: sig) x = (argA L.length o x.1).2 ++ entH (L.length + (argA L.length o x.1).2.length) sig x.2 := rfl
    have e2 : entE i L.length (o :: sig) x = (i, (argA L.length o x.1).1) :: entE (i + 1) (L.length + (argA L.length o x.1).2.length) sig x.2 := rfl
    rw [e1, e2, ← List.append_assoc]
    refine ⟨V2, own2, r2, fun r hr => ?_, fun j => ?_⟩
    · have a1 := g1.agree r hr
      obtain ⟨B, hB⟩ := hr
      obtain ⟨B', hB', _⟩ := a1.2 B hB
      exact a1.trans (a2 r ⟨B', hB'⟩)
    · simp only [Env.get]
      cases hij : Nat.beq i j with
      | true =>
        obtain rfl := Nat.eq_of_beq_eq_true hij
        simp only [cond_true]
        have := ht 0 v rfl
        rw [Nat.add_zero] at this
        rw [this]
        exact repP_agree p1 fun r hr => a2 r (repP_live p1 r hr)
      | false =>
        simp only [cond_false]
        exact p2 j

theorem own_vals {G G0 : Nat → Prop} : ∀ {sig : List AT} {x : sigDen sig} {vs : List Value} {bss : List (List Nat)} {i : Nat} {q : Nat → Value}, ArgsK w G G0 sig x vs bss → (∀ j v, vs[j]? = some v → q (i + j) = v) → ownVals sig vs = (pinsOf i sig).map q
  | [], x, vs, bss, i, q, h, _ => by obtain ⟨rfl, rfl⟩ := h; rfl
  | a :: r, x, vs, bss, i, q, ⟨v, s, b, bs, h1, h2, h, h3⟩, hq => by
    subst h1 h2
    have h0 : q i = v := by have := hq 0 v rfl; simpa using this
    have ih := own_vals (i := i + 1) (q := q) h3 (fun j u hj => by have := hq (j + 1) u (by simpa using hj); rw [show i + 1 + j = i + (j + 1) by omega]; exact this)
    cases a with
    | v t => exact ih
    | p t => exact ih
    | fn g caps => exact ih
    | fns _ => exact ih
    | own t => simp only [ownVals, pinsOf, isOwn, List.map_cons, h0, ih]
    | pb t => simp only [ownVals, pinsOf, isOwn, List.map_cons, h0, ih]
    | po t => simp only [ownVals, pinsOf, isOwn, List.map_cons, h0, ih]
    | sv t => simp only [ownVals, pinsOf, isOwn, List.map_cons, h0, ih]


def PostR (kds : List RK) (oks : List AT) (ds : List Dyn) (us : List (Option Lst)) (pins : List Nat) (q : Nat → Value) (K : Ctx) (e : Ending) (w' : World) : Prop :=
  PostC K.w0 K.O K.Ga K.G0 kds ds oks us (pins.map q) e w'

theorem contract_of {fn : Func} {c : Code} {S : Spec} (hf : P.funcs[f]? = some fn) (hb : fn.body = some c) (hl : S.sig.length ≤ fn.ntmps)
    (h : ∀ x, S.pre x → wfSig S.sig x → ∀ K q, AtV P f (PostR S.kds (owns S.sig) (S.res x) (S.upd x) (pinsOf 0 S.sig) q K) fn.ntmps K q (pinsOf 0 S.sig) [.code c] (entE 0 0 S.sig x) (entL S.sig x)) : Contract P f S := by
  intro w G G0 x vs bss hgo hG hG0 hpre hargs hnd
  have hlen := args_len hargs
  have hget0 : ∀ j v, vs[j]? = some v → (vs.toArray ++ Array.replicate (fn.ntmps - vs.toArray.size) undef).getD j undef = v := fun j v hj => by
    have hlt := (List.getElem?_eq_some_iff.1 hj).1
    rw [Array.getD_eq_getD_getElem?, Array.getElem?_append_left (by simpa using hlt)]
    simp [hj]
  let q : Nat → Value := fun i => (vs.toArray ++ Array.replicate (fn.ntmps - vs.toArray.size) undef).getD i undef
  let K : Ctx := ⟨w, bss.flatten, G0, G⟩
  let a0 : Act := { tmps := vs.toArray ++ Array.replicate (fn.ntmps - vs.toArray.size) undef, defers := [] }
  have hov : ownVals S.sig vs = (pinsOf 0 S.sig).map q := own_vals hargs (fun j v hj => by rw [Nat.zero_add]; exact hget0 j v hj)
  have h0 : RelV fn.ntmps K w G w a0 [] [] (fun _ => undef) (fun _ => []) := by
    refine ⟨hgo, Kept.refl _ _, ?_, rfl, fun b hb => (hG b hb).1, fun _ _ => rfl, hG0, fun b hb => hG b (hG0 b hb), fun b hb => .inl hb, (fun r A hr => by cases hr), (fun r A hr => by cases hr), (fun r A hr => by cases hr), (fun r s A B hr => by cases hr), (fun r A ls hr => by cases hr), (fun r A q hr => by cases hr), fun i => trivial⟩
    show (vs.toArray ++ Array.replicate (fn.ntmps - vs.toArray.size) undef).size = fn.ntmps
    simp [hlen]; omega
  obtain ⟨V, own, h1, _, h2⟩ := ent_spec (i := 0) h0 hargs hnd (fun b hb => ⟨fun h => h.2 hb, fun h => (hG b h).2 hb⟩) (fun r A hr => by cases hr) (fun j v hj => by rw [Nat.zero_add]; exact hget0 j v hj)
  have h3 : RelV fn.ntmps K w G w a0 (entE 0 0 S.sig x) (entL S.sig x) V own := { h1 with env := fun i => h2 i }
  refine (calls_of_run hf hb (h x hpre (argsK_wf hargs) K q a0 w w G V own h3 (fun t ht => rfl))).mono ?_
  intro e w' hp
  rw [hov]
  exact hp

def updOne (L : Heap) : AT → PV → Option (Lst × List Nat)
  | .own t, .a (.osl k none) => match hget L k with
    | some A => match A.bor with
      | false => some (⟨A.t, A.xs⟩, [k])
      | true => none
    | none => none
  | .pb t, .a (.optr k 0 []) => match hget L k with
    | some A => match A.sm with
      | some true => if h : A.t = t then (match one1 (castL h A.xs) with | some x => some (⟨t, [x]⟩, [k]) | none => none) else none
      | _ => none
    | none => none
  | .po t, .a A => match decPo L t A with
    | some (x, us) => some (⟨t, [x]⟩, us)
    | none => none
  | .sv t, .a A => match decSv L t A with
    | some (x, us) => some (⟨t, [x]⟩, us)
    | none => none
  | _, _ => none

def updO (E : Env) (L : Heap) (gone : List Nat) : List Nat → List AT → List (Option Lst) × List Nat
  | i :: r, o :: os => match updO E L gone r os with
    | (us, rs) => match updOne L o (E.get i) with
      | some (A, ks) => match disjB ks gone with
        | true => (some A :: us, ks ++ rs)
        | false => (none :: us, rs)
      | none => (none :: us, rs)
  | _ :: r, [] => (none :: (updO E L gone r []).1, [])
  | [], _ => ([], [])

theorem updOne_spec (hR : RelV n K w0 G w a E L V own) {o : AT} {p : PV} {A : Lst} {ks : List Nat} {v : Value} (hp : RepP w0 G L V p v) (h : updOne L o p = some (A, ks)) : UpdOne w K.G0 o A v (ks.map own).flatten ∧ ∀ r ∈ ks, ∃ B, hget L r = some B := by
  unfold updOne at h
  split at h
  · rename_i t k
    split at h
    · rename_i B hB
      split at h
      · rename_i hbor
        cases h
        obtain ⟨B', hB', h1, _⟩ := hp
        rw [hB] at hB'; cases hB'
        have hE := hR.heap k B hB
        obtain ⟨tB, xB, bB, lB, sB⟩ := B
        simp only at hbor
        subst hbor
        refine ⟨?_, fun r hr => by rw [List.mem_singleton.1 hr]; exact ⟨_, hB⟩⟩
        rw [h1 rfl]
        simp only [List.map_cons, List.map_nil, List.flatten_cons, List.flatten_nil, List.append_nil]
        exact EntC.own.1 hE
      · cases h
    · cases h
  · rename_i t k
    split at h
    · rename_i B hB
      split at h
      · rename_i hsm
        split at h
        · rename_i ht
          split at h
          · rename_i x hx
            cases h
            obtain ⟨B', hB', hi, b, off, m, cap, po, t', hv, hpp, rfl⟩ := hp
            rw [hB] at hB'; cases hB'
            simp only [pathOff, Option.some.injEq, Prod.mk.injEq] at hpp
            obtain ⟨rfl, rfl⟩ := hpp
            obtain ⟨⟨b1, off1, hv1⟩, hsm2⟩ := hR.small k B true hB hsm
            obtain ⟨hbor, hE⟩ := hsm2 rfl
            obtain ⟨tB, xB, bB, lB, sB⟩ := B
            simp only at hbor ht
            subst ht
            have hy : xB = [x] := one1_eq hx
            subst hbor hy
            rw [hv1] at hv hE
            cases hv
            refine ⟨⟨x, rfl, b, off, by simp, ?_⟩, fun r hr => by rw [List.mem_singleton.1 hr]; exact ⟨_, hB⟩⟩
            simp only [List.map_cons, List.map_nil, List.flatten_cons, List.flatten_nil, List.append_nil]
            exact EntC.keepG (A := ⟨tB, [x], true, none, none⟩) (fun _ h => h) (fun c hc => hR.gref c (hR.gsub c hc)) (fun _ _ => rfl) hE
          · cases h
        · cases h
      · cases h
    · cases h
  · rename_i t A1
    split at h
    · rename_i x us hpo
      cases h
      obtain ⟨h1, h2, _⟩ := decPo_rep hR (Kept.refl _ _) hp hpo
      exact ⟨⟨x, rfl, h1⟩, h2⟩
    · cases h
  · rename_i t A1
    split at h
    · rename_i x us hsv
      cases h
      obtain ⟨h1, h2⟩ := decSv_rep hR (Kept.refl _ _) hp hsv
      exact ⟨⟨x, rfl, h1⟩, h2⟩
    · cases h
  · cases h

theorem updO_spec {q : Nat → Value} {gone : List Nat} (hR : RelV n K w0 G w a E L V own) : ∀ {ps : List Nat} {os : List AT}, ps.length ≤ os.length → (∀ t ∈ ps, a.tmps.getD t undef = q t) →
    ∃ ubs, UpdK w K.G0 os (updO E L gone ps os).1 (ps.map q) ubs ∧ ubs.flatten = ((updO E L gone ps os).2.map own).flatten ∧ ∀ r ∈ (updO E L gone ps os).2, ∃ B, hget L r = some B
  | [], os, _, _ => ⟨[], by cases os <;> exact ⟨rfl, rfl⟩, by cases os <;> rfl, fun r hr => by cases os <;> cases hr⟩
  | i :: ps, [], hl, _ => by simp at hl
  | i :: ps, o :: os, hl, hq => by
    obtain ⟨ubs, h1, h2, h3⟩ := updO_spec hR (ps := ps) (os := os) (by simpa using hl) (fun t ht => hq t (List.mem_cons_of_mem _ ht))
    simp only [updO]
    have skip : ∃ ubs, UpdK w K.G0 (o :: os) (none :: (updO E L gone ps os).1) ((i :: ps).map q) ubs ∧ ubs.flatten = ((updO E L gone ps os).2.map own).flatten ∧ ∀ r ∈ (updO E L gone ps os).2, ∃ B, hget L r = some B :=
      ⟨[] :: ubs, ⟨_, _, _, rfl, rfl, h1⟩, by simpa using h2, h3⟩
    split
    · rename_i A ks hk
      split
      · have hv := hR.env i
        rw [hq i (List.mem_cons_self ..)] at hv
        obtain ⟨g1, g2⟩ := updOne_spec hR hv hk
        refine ⟨(ks.map own).flatten :: ubs, ⟨_, _, _, _, rfl, rfl, g1, h1⟩, by simp [h2], fun r hr => ?_⟩
        rcases List.mem_append.1 hr with hr | hr
        · exact g2 r hr
        · exact h3 r hr
      · exact skip
    · exact skip

def decO (L : Heap) : (t : Ty) → Atom → Option (t.den × List Nat)
  | .sl e, .osl r none => match hget L r with
    | some A => match A.bor with
      | true => none
      | false => if h : A.t = e then some (castL h A.xs, [r]) else none
    | none => none
  | .sl e, .osl r (some (lo, hi)) => match hget L r with
    | some A => match e.flat && !A.bor with
      | true => if h : A.t = e then some (rgL (some (lo, hi)) (castL h A.xs), [r]) else none
      | false => none
    | none => none
  | .sl e, .val (.slice none _ _) => some ([], [])
  | t, .rcd t' ls => match decide (t' = t), t.agg with
    | true, true => ownLs L t ls
    | _, _ => none
  | t, A => match t.flat with
    | true => match decB t A with
      | some x => some (x, [])
      | none => none
    | false => none

def decK (L : Heap) : RK → (t : Ty) → Atom → Option (t.den × List Nat)
  | .own, t, A => decO L t A
  | .frz, t, A => match decB t (stAtom A) with
    | some x => some (x, [])
    | none => none
  | .bx, t, A => match decPb L t A with
    | some (x, us) => some (x, us)
    | none => none

def cellA (tab : List TI) (L : Heap) (T : TypeId) (A : Atom) : Option Atom :=
  match (tabGet tab T).ty with
  | some t => loadA L t A
  | none => none

def finA (tab : List TI) (E : Env) (L : Heap) : List RK → List Ty → List ResultVar → Option (List Dyn × List Nat)
  | _, [], [] => some ([], [])
  | ks, t :: ts, .tmp i :: r => match E.get i with
    | .a A => match decK L (RK.hd ks) t A, finA tab E L ks.tail ts r with
      | some (x, us), some (ds, vs) => some (⟨t, x⟩ :: ds, us ++ vs)
      | _, _ => none
    | _ => none
  | ks, t :: ts, .cell i T :: r => match E.get i with
    | .a A => match cellA tab L T A with
      | some B => match decK L (RK.hd ks) t B, finA tab E L ks.tail ts r with
        | some (x, us), some (ds, vs) => some (⟨t, x⟩ :: ds, us ++ vs)
        | _, _ => none
      | none => none
    | _ => none
  | _, _, _ => none

def frzF (tab : List TI) (E : Env) (L : Heap) : List RK → List ResultVar → List Nat
  | .frz :: ks, .tmp i :: r => (match E.get i with
    | .a A => refA A
    | _ => []) ++ frzF tab E L ks r
  | .frz :: ks, .cell i T :: r => (match E.get i with
    | .a A => match cellA tab L T A with
      | some B => refA B
      | none => []
    | _ => []) ++ frzF tab E L ks r
  | _ :: ks, _ :: r => frzF tab E L ks r
  | _, _ => []

theorem isVal_of {t : Ty} {cs : List Value} (hl : cs.length = t.size) : IsVal t cs (valOf t cs) := by
  cases t <;> simp only [IsVal, valOf, Ty.agg, if_true, if_false, Bool.false_eq_true]
  all_goals (match cs, hl with | [c], _ => rfl)

theorem cell_run {T : TypeId} {u v : Value} (h : (Instr.loadAt T u).run P w = .ok v w) : (do loadVar T (← asAddr u) : Sem Value).run P w = .ok v w := by
  cases u with
  | pointer a =>
    cases a with
    | none => simp [Instr.loadAt, Instr.sureAddr] at h
    | some a => simpa [Instr.loadAt, Instr.sureAddr, asAddr] using h
  | _ => simp [Instr.loadAt, Instr.sureAddr] at h

theorem decO_flat (hR : RelV n K w0 G w a E L V own) {t : Ty} {A : Atom} {x : t.den} {us : List Nat} {v : Value} (hv : RepA w0 G L V A v) (h : (match t.flat with | true => (match decB t A with | some x => some (x, ([] : List Nat)) | none => none) | false => none) = some (x, us)) :
    us = [] ∧ ∃ cs, OwnC w t x cs [] ∧ IsVal t cs v := by
  split at h
  · rename_i hf
    split at h
    · rename_i y hd
      cases h
      obtain ⟨cs, hv, _, _, hent⟩ := entR_of_decB (repB_of_decB hv hd) hd false (fun _ => hf)
      exact ⟨rfl, cs, hent w, by rw [hv]; exact isVal_of (OwnC.length (hent w))⟩
    · cases h
  · cases h

theorem decO_spec (hR : RelV n K w0 G w a E L V own) {t : Ty} {A : Atom} {x : t.den} {us : List Nat} {v : Value} (hv : RepA w0 G L V A v) (h : decO L t A = some (x, us)) :
    (∃ cs, OwnC w t x cs (us.map own).flatten ∧ IsVal t cs v) ∧ ∀ r ∈ us, ∃ B, hget L r = some B := by
  unfold decO at h
  split at h
  · rename_i e r
    have h' : slW L e (.osl r none) = some (x, us) := h
    obtain ⟨h1, h2⟩ := slW_rep hR (l := .osl r none) (v := v) hv h'
    exact ⟨⟨[v], h1, rfl⟩, h2⟩
  · rename_i e r lo hi
    have h' : slW L e (.osl r (some (lo, hi))) = some (x, us) := h
    obtain ⟨h1, h2⟩ := slW_rep hR (l := .osl r (some (lo, hi))) (v := v) hv h'
    exact ⟨⟨[v], h1, rfl⟩, h2⟩
  · rename_i e n c
    cases h
    obtain ⟨rfl, hn, hc⟩ := hv
    subst hn hc
    exact ⟨⟨_, ⟨_, rfl, by simp [maxLen], .inl ⟨_, rfl, rfl, rfl⟩⟩, rfl⟩, fun r hr => by cases hr⟩
  · rename_i t' ls
    split at h
    · rename_i ht ha
      obtain rfl := of_decide_eq_true ht
      obtain ⟨cs, rfl, hl, hr⟩ := hv
      obtain ⟨h1, h2⟩ := ownLs_rep hR hr h
      refine ⟨⟨cs, h1, ?_⟩, h2⟩
      have := isVal_of h1.length
      rwa [valOf, if_pos ha] at this
    · cases h
  · obtain ⟨rfl, cs, h1, h2⟩ := decO_flat hR hv h
    exact ⟨⟨cs, by simpa using h1, h2⟩, fun r hr => by cases hr⟩

def NewG (K : Ctx) (G : Nat → Prop) (b : Nat) : Prop := G b ∧ ¬ Good K.w0 K.O b

theorem decK_spec (hR : RelV n K w0 G w a E L V own) {k : RK} {t : Ty} {A : Atom} {x : t.den} {us : List Nat} {v : Value} (hv : RepA w0 G L V A v) (h : decK L k t A = some (x, us)) :
    ResOne w K.Ga (NewG K G) k ⟨t, x⟩ v (us.map own).flatten ∧ ∀ r ∈ us, ∃ B, hget L r = some B := by
  have hup : ∀ b, G b → K.Ga b ∨ NewG K G b := fun b hb => (hR.gup b hb).imp_right fun h => ⟨hb, h⟩
  cases k with
  | own => exact decO_spec hR hv h
  | frz =>
    simp only [decK] at h
    split at h
    · rename_i y hd
      cases h
      obtain ⟨cs, hr, hvv⟩ := decB_spec (repB_of_decB (stAtom_rep hv) hd) hd
      refine ⟨⟨rfl, cs, hr.keep hup hR.gref, ?_⟩, fun r hr => by cases hr⟩
      rw [hvv]
      exact isVal_of hr.length
    · cases h
  | bx =>
    simp only [decK] at h
    split at h
    · rename_i y us' hd
      cases h
      obtain ⟨⟨b, off, h1, h2⟩, r, B, b', off', e1, _, e3, _⟩ := decPb_rep (q := false) hR (Kept.refl _ _) hv hd (fun h => by cases h)
      refine ⟨⟨b, off, h1, EntC.keepG (A := ⟨t, [x], true, none, none⟩) (fun c hc => hup c hc) (fun _ _ => rfl) (fun _ _ => rfl) h2⟩, fun s hs => ?_⟩
      rw [e1] at hs
      rw [List.mem_singleton.1 hs]
      exact ⟨B, e3⟩
    · cases h

theorem finA_spec {tab : List TI} (hT : TabOk P tab) (hR : RelV n K w0 G w a E L V own) : ∀ {ks : List RK} {ts : List Ty} {rv : List ResultVar} {ds : List Dyn} {us : List Nat}, finA tab E L ks ts rv = some (ds, us) →
    ∃ rs bss, (rv.mapM fun x => (match x with | .tmp t => pure (a.tmps.getD t undef) | .cell b t => do loadVar t (← asAddr (a.tmps.getD b undef)) : Sem Value)).run P w = .ok rs w ∧ rs.length = rv.length ∧ ResK w K.Ga (NewG K G) ks ds rs bss ∧ bss.flatten = (us.map own).flatten ∧ ∀ r ∈ us, ∃ B, hget L r = some B
  | ks, [], [], ds, us, h => by
    have h' : ds = [] ∧ us = [] := by cases ks <;> (cases h; exact ⟨rfl, rfl⟩)
    obtain ⟨rfl, rfl⟩ := h'
    exact ⟨[], [], by simp, rfl, by cases ks <;> exact ⟨rfl, rfl⟩, rfl, fun r hr => by cases hr⟩
  | ks, t :: ts, .tmp i :: rv, ds, us, h => by
    simp only [finA] at h
    split at h
    · rename_i A hA
      split at h
      · rename_i x u ds' vs hd hf
        cases h
        have hv : RepA w0 G L V A (a.tmps.getD i undef) := by
          have := hR.env i
          rw [hA] at this
          exact this
        obtain ⟨h1, h3⟩ := decK_spec hR hv hd
        obtain ⟨rs, bss, g1, g2, g3, g4, g5⟩ := finA_spec hT hR hf
        refine ⟨a.tmps.getD i undef :: rs, (u.map own).flatten :: bss, ?_, by simp [g2], by cases ks <;> exact ⟨_, _, _, _, rfl, rfl, h1, g3⟩, ?_, ?_⟩
        · rw [List.mapM_cons]
          simp only [Sem.run_bind, Sem.run_pure, Result.andThen_ok]
          rw [g1]
          rfl
        · simp [g4]
        · intro r hr
          rcases List.mem_append.1 hr with hr | hr
          · exact h3 r hr
          · exact g5 r hr
      · cases h
    · cases h
  | ks, t :: ts, .cell i T :: rv, ds, us, h => by
    simp only [finA] at h
    split at h
    · rename_i A hA
      split at h
      · rename_i B hB
        split at h
        · rename_i x u ds' vs hd hf
          cases h
          have hv : RepA w0 G L V A (a.tmps.getD i undef) := by
            have := hR.env i
            rw [hA] at this
            exact this
          unfold cellA at hB
          split at hB
          · rename_i t0 ht0
            obtain ⟨v, hv', hrun⟩ := loadA_spec (P := P) hR (TI.ty_ok (hT T) ht0) hv hB
            obtain ⟨h1, h3⟩ := decK_spec hR hv' hd
            obtain ⟨rs, bss, g1, g2, g3, g4, g5⟩ := finA_spec hT hR hf
            refine ⟨v :: rs, (u.map own).flatten :: bss, ?_, by simp [g2], by cases ks <;> exact ⟨_, _, _, _, rfl, rfl, h1, g3⟩, ?_, ?_⟩
            · have hc := cell_run (hrun w (Kept.refl _ _))
              rw [List.mapM_cons, Sem.run_bind]
              refine (congrArg (fun r => Result.andThen r _) hc).trans ?_
              simp only [Result.andThen_ok, Sem.run_bind]
              rw [g1]
              rfl
            · simp [g4]
            · intro r hr
              rcases List.mem_append.1 hr with hr | hr
              · exact h3 r hr
              · exact g5 r hr
          · cases hB
        · cases h
      · cases h
    · cases h
  | ks, [], _ :: _, _, _, h => by cases ks <;> cases h
  | ks, _ :: _, [], _, _, h => by cases ks <;> cases h

def runF (tab : List TI) (ext : Ext) (wr : Bool) (n : Nat) (stops : List Nat) (m : Nat) (pins : List Nat) (oks : List AT) (kds : List RK) (ts : List Ty) (rv : Array ResultVar) (path : List Bool) (k : List Item) (E : Env) (L : Heap) : Option (List Dyn × List (Option Lst) × List Prop) :=
  match runA tab ext wr n stops m true k ⟨path, [], E, L, [], pins⟩ with
  | some (.fin S) => match frzAll (frzF tab S.E S.L kds rv.toList) (S.E, S.L) with
    | (E1, L1) => match finA tab E1 L1 kds ts rv.toList with
      | some (ds, us) => match nodupB ((updO E1 L1 us pins oks).2 ++ us) && decide (S.pins = pins) && Nat.ble pins.length oks.length with
        | true => some (ds, (updO E1 L1 us pins oks).1, S.cs)
        | false => none
      | none => none
  | _ => none

theorem AtV.mono {R' : Ending → World → Prop} {q : Nat → Value} {ps : List Nat} {k : List Item} (h : AtV P f R n K q ps k E L) (hm : ∀ e w, R e w → R' e w) : AtV P f R' n K q ps k E L := by
  intro a w w0 G V own hR hq b cs hb hk
  obtain ⟨e, w', fr, h1, h2⟩ := h a w w0 G V own hR hq b cs hb hk
  exact ⟨e, w', fr, hm _ _ h1, h2⟩

theorem AtV.fin {fn : Func} (hf : P.funcs[f]? = some fn) {tab : List TI} {ext : Ext} (hT : TabOk P tab) (hX : ExtOk P ext) (hm : P.follows .mixedOrders = true) {q : Nat → Value} {pins : List Nat} {oks : List AT} {kds : List RK} {wr : Bool} {stops : List Nat} {m : Nat} {ts : List Ty} {path : List Bool} {k : List Item} {ds : List Dyn} {us : List (Option Lst)} {cs : List Prop}
    (h : runF tab ext wr n stops m pins oks kds ts fn.results path k E L = some (ds, us, cs)) (hc : All cs) : AtV P f (PostR kds oks ds us pins q K) n K q pins k E L := by
  intro a w w0 G V own hR hq
  unfold runF at h
  split at h
  · rename_i S hr
    split at h
    rename_i E1 L1 hfrz
    split at h
    · rename_i ds' us' hfin
      split at h
      · rename_i hnd
        simp only [Bool.and_eq_true, decide_eq_true_eq, Nat.ble_eq] at hnd
        obtain ⟨⟨hnd, hp⟩, hpl⟩ := hnd
        cases h
        refine runA_run hT hX hm hr hc hR ⟨fun t d ht => by simp [lookB] at ht, hq⟩ ?_
        intro a' w' w1 G1 V' own' hR1 hq'
        rw [hp] at hq'
        obtain ⟨w2, G2, hR'⟩ := frzAll_spec (rs := frzF tab S.E S.L kds fn.results.toList) hR1
        rw [hfrz] at hR'
        obtain ⟨rs, bss, g1, g2, g3, g4, g5⟩ := finA_spec (P := P) hT hR' hfin
        obtain ⟨ubs, k1, k2, k3⟩ := updO_spec (gone := us') hR' hpl hq'
        have hall : ubs.flatten ++ bss.flatten = (((updO E1 L1 us' pins oks).2 ++ us').map own').flatten := by rw [k2, g4, List.map_append, List.flatten_append]
        have hlive : ∀ r ∈ (updO E1 L1 us' pins oks).2 ++ us', ∃ B, hget L1 r = some B := fun r hr => by
          rcases List.mem_append.1 hr with hr | hr
          · exact k3 r hr
          · exact g5 r hr
        have hout : ∀ b ∈ ubs.flatten ++ bss.flatten, Am.Out K G2 b := by
          intro b hb
          rw [hall] at hb
          obtain ⟨l, hl, hb⟩ := List.mem_flatten.1 hb
          obtain ⟨r, hr, rfl⟩ := List.mem_map.1 hl
          obtain ⟨B, hB⟩ := hlive r hr
          exact hR'.good r B hB b hb
        refine ⟨hR'.defers, fn, packV rs, hf, ?_, rs, ubs, bss, NewG K G2, rfl, hR'.kept, g3, k1, ?_, fun b hb => (hout b hb).1, fun b hb => ⟨hR'.glt b hb.1, hb.2, fun hm => (hout b hm).2 hb.1⟩⟩
        · unfold results
          have hm' : (fn.results.mapM fun x => (match x with | .tmp t => pure (a'.tmps.getD t undef) | .cell b t => do loadVar t (← asAddr (a'.tmps.getD b undef)) : Sem Value)).run P w' = .ok rs.toArray w' := by
            rw [show fn.results = fn.results.toList.toArray from rfl, List.mapM_toArray]
            simp only [map_eq_pure_bind, Sem.run_bind, g1, Result.andThen_ok, Sem.run_pure]
          simp only [Sem.run_bind]
          refine (congrArg (fun r => Result.andThen r _) hm').trans ?_
          simp only [Result.andThen_ok, Sem.run_pure]
          congr 1
          match rs with
          | [] => rfl
          | [v] => rfl
          | _ :: _ :: _ => simp [packV]
        · rw [hall]; exact own_nodup hR' (nodupB_spec hnd) hlive
      · cases h
    · cases h
  · cases h
end
end Go.Am

/- The abstract machine, part 22: a law's arguments, and its statement. -/
namespace Go.Am
open Go.ChangeShapes Go.WideShapes Go.ChangeAt Go.RowKit
set_option linter.unusedVariables false
set_option linter.unusedSimpArgs false

def wrapB (P : Program) (agg : Bool) (T : TypeId) (k : TypeId ⊕ (List Field × Nat) → Bool) : Bool :=
  match agg with
  | true => match P.underlying T with
    | some (.struct fs) => k (.inr (fs.toList, 0))
    | _ => false
  | false => k (.inl T)


def readsB (P : Program) : Ty → TypeId ⊕ (List Field × Nat) → Bool
  | .int k, .inl T => isIntB k (P.underlying T)
  | .bool, .inl T => isBoolB (P.underlying T)
  | .str, .inl T => isStrB (P.underlying T)
  | .unit, .inr ([], _) => true
  | .cons a b, .inr (f :: fs, o) => Nat.beq f.offset o && (Nat.beq (P.cellsOf f.type) a.size && (wrapB P a.agg f.type (readsB P a) && readsB P b (.inr (fs, o + a.size))))
  | _, _ => false

def readsT (P : Program) (t : Ty) (T : TypeId) : Bool := Nat.beq (P.cellsOf T) t.size && wrapB P t.agg T (readsB P t)

section
variable {H : Type} {enc : TypeId × Value → H} {P : Program} {w : World} {base : Nat} {spare : Nat → Bool} {held : Bool} {G : Nat → Prop}


def TrodOne (enc : TypeId × Value → H) (P : Program) (w : World) (base : Nat) (spare : Nat → Bool) (held : Bool) (cs : List Value) (f : Field) : Prop :=
  ∃ n x, DataW.trod enc P w base spare held n f.type ((cs.drop f.offset).take (P.cellsOf f.type)) = some x

theorem trod_fields {T : TypeId} {fs : Array Field} {fuel : Nat} {cs : List Value} {x : DataW H × List MemPlace} (ht : P.underlying T = some (.struct fs)) (h : DataW.trod enc P w base spare held fuel T cs = some x) :
    cs.length = P.cellsOf T ∧ ∀ f ∈ fs.toList, TrodOne enc P w base spare held cs f := by
  obtain ⟨xs, n, _, _, hl, hx, hf⟩ := DataW.trod_struct ht h
  refine ⟨hl, fun f hf' => ?_⟩
  obtain ⟨i, hi⟩ := List.getElem?_of_mem hf'
  rw [Array.getElem?_toList] at hi
  have hlt : i < fs.size := (Array.getElem?_eq_some_iff.1 hi).1
  have := hf i f hi
  exact ⟨n, xs[i]'(by omega), by rw [this]; exact List.getElem?_eq_getElem _⟩

theorem trod_rep : ∀ (t : Ty),
    (∀ T fuel cs x, wrapB P t.agg T (readsB P t) = true → P.cellsOf T = t.size → DataW.trod enc P w base spare held fuel T cs = some x → ∃ y, RepC w G t y cs) ∧
    (∀ fs o cs, readsB P t (.inr (fs, o)) = true → (∀ f ∈ fs, TrodOne enc P w base spare held cs f) → cs.length = o + t.size → ∃ y, RepC w G t y (cs.drop o))
  | .int k => by
    refine ⟨fun T fuel cs x h _ ht => ?_, fun fs o cs h => by simp [readsB] at h⟩
    have hu := isIntB_eq (by simpa [wrapB, Ty.agg, readsB] using h)
    obtain ⟨n, rfl, _, hw⟩ := DataW.trod_int hu ht
    exact ⟨n, rfl, by simpa [Lit.wf, InR] using hw⟩
  | .bool => by
    refine ⟨fun T fuel cs x h _ ht => ?_, fun fs o cs h => by simp [readsB] at h⟩
    have hu := isBoolB_eq (by simpa [wrapB, Ty.agg, readsB] using h)
    obtain ⟨b, rfl, _⟩ := DataW.trod_bool hu ht
    exact ⟨b, rfl⟩
  | .fn => ⟨fun T fuel cs x h => by simp [wrapB, Ty.agg, readsB] at h, fun fs o cs h => by simp [readsB] at h⟩
  | .str => by
    refine ⟨fun T fuel cs x h _ ht => ?_, fun fs o cs h => by simp [readsB] at h⟩
    have hu := isStrB_eq (by simpa [wrapB, Ty.agg, readsB] using h)
    obtain ⟨s, rfl, _, hs⟩ := DataW.trod_string hu ht
    exact ⟨s, rfl, hs⟩
  | .sl e => by
    exact ⟨fun T fuel cs x h => by simp [wrapB, Ty.agg, readsB] at h, fun fs o cs h => by simp [readsB] at h⟩
  | .unit => by
    have hB : ∀ fs o cs, readsB P .unit (.inr (fs, o)) = true → (∀ f ∈ fs, TrodOne enc P w base spare held cs f) → cs.length = o + Ty.unit.size → ∃ y, RepC w G .unit y (cs.drop o) := by
      intro fs o cs h _ hl
      refine ⟨(), ?_⟩
      show cs.drop o = []
      rw [List.drop_eq_nil_iff]
      simp [Ty.size] at hl
      omega
    refine ⟨fun T fuel cs x h hc ht => ?_, hB⟩
    simp only [wrapB, Ty.agg] at h
    split at h
    · rename_i fs hu
      obtain ⟨h1, h2⟩ := trod_fields hu ht
      simpa using hB _ _ cs h h2 (by rw [h1, hc]; simp)
    · cases h
  | .cons a b => by
    obtain ⟨ha, _⟩ := trod_rep a
    obtain ⟨_, hb⟩ := trod_rep b
    have hB : ∀ fs o cs, readsB P (.cons a b) (.inr (fs, o)) = true → (∀ f ∈ fs, TrodOne enc P w base spare held cs f) → cs.length = o + (Ty.cons a b).size → ∃ y, RepC w G (.cons a b) y (cs.drop o) := by
      intro fs o cs h hf hl
      match fs, h with
      | [], h => simp [readsB] at h
      | f :: fs, h =>
        simp only [readsB, Bool.and_eq_true] at h
        obtain ⟨h1, h2, h3, h4⟩ := h
        have h1 := Nat.eq_of_beq_eq_true h1
        have h2 := Nat.eq_of_beq_eq_true h2
        simp only [Ty.size] at hl
        obtain ⟨n, x, hx⟩ := hf f (List.mem_cons_self ..)
        rw [h1, h2] at hx
        obtain ⟨y1, hy1⟩ := ha _ _ _ _ h3 h2 hx
        obtain ⟨y2, hy2⟩ := hb fs (o + a.size) cs h4 (fun g hg => hf g (List.mem_cons_of_mem _ hg)) (by omega)
        refine ⟨(y1, y2), _, _, ?_, hy1, hy2⟩
        rw [← List.drop_drop]
        exact (List.take_append_drop _ _).symm
    refine ⟨fun T fuel cs x h hc ht => ?_, hB⟩
    simp only [wrapB, Ty.agg] at h
    split at h
    · rename_i fs hu
      obtain ⟨h1, h2⟩ := trod_fields hu ht
      simpa using hB _ _ cs h h2 (by rw [h1, hc]; simp)
    · cases h

theorem cells_list {a : Addr} {n : Nat} {cs : List Value} (h : w.cells? base a n = some cs) : cs.length = n ∧ ∀ j c, cs[j]? = some c → w.cell? (a.add j) = some c := by
  unfold World.cells? at h
  split at h
  · have key : ∀ (l : List Nat) (cs : List Value), (l.mapM fun i => w.cell? (a.add i)) = some cs → cs.length = l.length ∧ ∀ (j : Nat) (c : Value) (i : Nat), cs[j]? = some c → l[j]? = some i → w.cell? (a.add i) = some c := by
      intro l
      induction l with
      | nil => intro cs h; simp at h; subst h; simp
      | cons i l ih =>
        intro cs h
        rw [List.mapM_cons] at h
        cases hc : w.cell? (a.add i) with
        | none => simp [hc] at h
        | some c =>
          cases hr : l.mapM fun i => w.cell? (a.add i) with
          | none => simp [hc, hr] at h
          | some r =>
            simp [hc, hr] at h
            subst h
            obtain ⟨h1, h2⟩ := ih r hr
            refine ⟨by simp [h1], fun j c' i' hj hi => ?_⟩
            cases j with
            | zero => simp at hj hi; subst hj hi; exact hc
            | succ j => exact h2 j c' i' (by simpa using hj) (by simpa using hi)
    obtain ⟨h1, h2⟩ := key _ _ h
    refine ⟨by simpa using h1, fun j c hj => h2 j c j hj ?_⟩
    have hlt := (List.getElem?_eq_some_iff.1 hj).1
    have h1' : cs.length = n := by simpa using h1
    rw [List.getElem?_range (by omega)]
  · cases h

def FitV (w : World) (v : Value) : Prop := ∀ a len cap, v = .slice (some a) len cap → a.spot = none ∧ a.block < w.heap.size

theorem has_fit {r : Reach} {b0 : Nat} {a : Addr} {e : TypeId} {n : Nat} (h : w.has P r b0 a e n) : a.spot = none ∧ a.block < w.heap.size := by
  obtain ⟨_, hs, row, cells, hsh, _⟩ := h
  refine ⟨hs, ?_⟩
  rcases Nat.lt_or_ge a.block w.heap.size with hlt | hge
  · exact hlt
  · simp [World.shape?, Array.getElem?_eq_none hge] at hsh

theorem cell_fit {r : Reach} {b0 : Nat} {u : TypeId} {v : Value} (h : Cell.okWide P w r b0 u v) : FitV w v := by
  rintro a len cap rfl
  unfold Cell.okWide at h
  split at h
  all_goals first
    | (rename_i hv; cases hv; done)
    | skip
  unfold Cell.ok at h
  split at h
  all_goals first
    | (rename_i hv; cases hv; done)
    | (cases h; done)
    | skip
  rename_i hv
  cases hv
  exact has_fit h.2.2

theorem row_fit {r : Reach} {b0 : Nat} {T : TypeId} {cs : Array Value} (h : Row.okWide P w r b0 T cs) : ∀ v ∈ cs.toList, FitV w v := by
  obtain ⟨ts, _, _, h⟩ := h
  intro v hv
  obtain ⟨i, hi⟩ := List.getElem?_of_mem hv
  rw [Array.getElem?_toList] at hi
  obtain ⟨u, _, hu⟩ := h i v hi
  exact cell_fit hu

theorem trod_slice_rep {e : Ty} {E T : TypeId} {fuel : Nat} {cs : List Value} {x : DataW H × List MemPlace} (hu : P.underlying T = some (.slice E)) (hr : readsT P e E = true) (hz : e.size ≠ 0) (hf : ∀ v ∈ cs, FitV w v)
    (h : DataW.trod enc P w base spare held fuel T cs = some x) : ∃ (v : Value) (ys : List e.den), cs = [v] ∧ SlAt w (Good w []) (RepC w (Good w []) e) e.size ys v := by
  simp only [readsT, Bool.and_eq_true] at hr
  obtain ⟨hc, hr⟩ := hr
  have hc := Nat.eq_of_beq_eq_true hc
  rcases DataW.trod_slice hu h with ⟨h1, _⟩ | ⟨a, len, cap, elems, rest, n, _, h1, _, _, hl, hm, hlen, hel, _⟩
  · exact ⟨_, [], h1, by simp [maxLen], .inl ⟨_, rfl, rfl⟩⟩
  · subst h1
    obtain ⟨hs, hb⟩ := hf _ (List.mem_singleton.2 rfl) _ _ _ rfl
    obtain ⟨b, off, spot⟩ := a
    simp only at hs hb
    subst hs
    have each : ∀ i, i < len → ∃ y cs, cs.length = e.size ∧ (∀ j c, cs[j]? = some c → w.cell? ⟨b, off + i * e.size + j, none⟩ = some c) ∧ RepC w (Good w []) e y cs := by
      intro i hi
      have hx := hel i hi
      rw [List.getElem?_eq_getElem (by omega)] at hx
      simp only [Option.bind_eq_some_iff] at hx
      obtain ⟨cs, g1, g2⟩ := hx
      obtain ⟨k1, k2⟩ := cells_list g1
      obtain ⟨y, hy⟩ := (trod_rep (G := Good w []) e).1 E _ _ _ hr hc g2
      refine ⟨y, cs, by rw [k1, hc], fun j c hj => ?_, hy⟩
      have := k2 j c hj
      rw [hc] at this
      rw [Addr.add_lit, Addr.add_lit] at this
      exact this
    have build : ∀ k, k ≤ len → ∃ ys : List e.den, ys.length = k ∧ ∀ i y, ys[i]? = some y → ∃ cs, cs.length = e.size ∧ (∀ j c, cs[j]? = some c → w.cell? ⟨b, off + i * e.size + j, none⟩ = some c) ∧ RepC w (Good w []) e y cs := by
      intro k
      induction k with
      | zero => intro _; exact ⟨[], rfl, fun i y h => by simp at h⟩
      | succ k ih =>
        intro hk
        obtain ⟨ys, h1, h2⟩ := ih (by omega)
        obtain ⟨y, cs, g1, g2, g3⟩ := each k (by omega)
        refine ⟨ys ++ [y], by simp [h1], fun i z hz => ?_⟩
        by_cases hi : i < ys.length
        · rw [List.getElem?_append_left hi] at hz
          exact h2 i z hz
        · have hlt := (List.getElem?_eq_some_iff.1 hz).1
          simp at hlt
          have : i = k := by omega
          subst this
          rw [List.getElem?_append_right (by omega)] at hz
          simp [h1] at hz
          subst hz
          exact ⟨cs, g1, g2, g3⟩
    obtain ⟨ys, h1, h2⟩ := build len (Nat.le_refl _)
    exact ⟨_, ys, rfl, by omega, .inr ⟨b, off, cap, by rw [h1], by omega, by omega, ⟨hb, by simp⟩, h2⟩⟩

def readsW (P : Program) : Ty → TypeId ⊕ (List Field × Nat) → Bool
  | .sl e, .inl T => match P.underlying T with
    | some (.slice E) => readsT P e E && !Nat.beq e.size 0
    | _ => false
  | .unit, .inr ([], _) => true
  | .cons a b, .inr (f :: fs, o) => Nat.beq f.offset o && (Nat.beq (P.cellsOf f.type) a.size && (wrapB P a.agg f.type (readsW P a) && readsW P b (.inr (fs, o + a.size))))
  | .int k, x => readsB P (.int k) x
  | .bool, x => readsB P .bool x
  | .str, x => readsB P .str x
  | _, _ => false

theorem trod_repW : ∀ (t : Ty),
    (∀ T fuel cs x, wrapB P t.agg T (readsW P t) = true → P.cellsOf T = t.size → (∀ v ∈ cs, FitV w v) → DataW.trod enc P w base spare held fuel T cs = some x → ∃ y, RepC w (Good w []) t y cs) ∧
    (∀ fs o cs, readsW P t (.inr (fs, o)) = true → (∀ f ∈ fs, TrodOne enc P w base spare held cs f) → (∀ v ∈ cs, FitV w v) → cs.length = o + t.size → ∃ y, RepC w (Good w []) t y (cs.drop o))
  | .int k => by
    refine ⟨fun T fuel cs x h hc _ ht => (trod_rep (.int k)).1 T fuel cs x ?_ hc ht, fun fs o cs h => by simp [readsW, readsB] at h⟩
    simpa [wrapB, Ty.agg, readsW] using h
  | .bool => by
    refine ⟨fun T fuel cs x h hc _ ht => (trod_rep .bool).1 T fuel cs x ?_ hc ht, fun fs o cs h => by simp [readsW, readsB] at h⟩
    simpa [wrapB, Ty.agg, readsW] using h
  | .fn => ⟨fun T fuel cs x h => by simp [wrapB, Ty.agg, readsW] at h, fun fs o cs h => by simp [readsW] at h⟩
  | .str => by
    refine ⟨fun T fuel cs x h hc _ ht => (trod_rep .str).1 T fuel cs x ?_ hc ht, fun fs o cs h => by simp [readsW, readsB] at h⟩
    simpa [wrapB, Ty.agg, readsW] using h
  | .sl e => by
    refine ⟨fun T fuel cs x h hc hf ht => ?_, fun fs o cs h => by simp [readsW] at h⟩
    simp only [wrapB, Ty.agg, readsW] at h
    split at h
    · rename_i E hu
      simp only [Bool.and_eq_true, Bool.not_eq_true'] at h
      obtain ⟨v, ys, h1, h2⟩ := trod_slice_rep hu h.1 (fun hz => by have := h.2; rw [hz] at this; simp at this) hf ht
      exact ⟨ys, v, h1, h2⟩
    · cases h
  | .unit => by
    have hB : ∀ fs o cs, readsW P .unit (.inr (fs, o)) = true → (∀ f ∈ fs, TrodOne enc P w base spare held cs f) → cs.length = o + Ty.unit.size → ∃ y, RepC w (Good w []) .unit y (cs.drop o) := by
      intro fs o cs h _ hl
      refine ⟨(), ?_⟩
      show cs.drop o = []
      rw [List.drop_eq_nil_iff]
      simp [Ty.size] at hl
      omega
    refine ⟨fun T fuel cs x h hc _ ht => ?_, fun fs o cs h1 h2 _ h3 => hB fs o cs h1 h2 h3⟩
    simp only [wrapB, Ty.agg] at h
    split at h
    · rename_i fs hu
      obtain ⟨h1, h2⟩ := trod_fields hu ht
      simpa using hB _ _ cs h h2 (by rw [h1, hc]; simp)
    · cases h
  | .cons a b => by
    obtain ⟨ha, _⟩ := trod_repW a
    obtain ⟨_, hb⟩ := trod_repW b
    have hB : ∀ fs o cs, readsW P (.cons a b) (.inr (fs, o)) = true → (∀ f ∈ fs, TrodOne enc P w base spare held cs f) → (∀ v ∈ cs, FitV w v) → cs.length = o + (Ty.cons a b).size → ∃ y, RepC w (Good w []) (.cons a b) y (cs.drop o) := by
      intro fs o cs h hf hfit hl
      match fs, h with
      | [], h => simp [readsW] at h
      | f :: fs, h =>
        simp only [readsW, Bool.and_eq_true] at h
        obtain ⟨h1, h2, h3, h4⟩ := h
        have h1 := Nat.eq_of_beq_eq_true h1
        have h2 := Nat.eq_of_beq_eq_true h2
        simp only [Ty.size] at hl
        obtain ⟨n, x, hx⟩ := hf f (List.mem_cons_self ..)
        rw [h1, h2] at hx
        obtain ⟨y1, hy1⟩ := ha _ _ _ _ h3 h2 (fun v hv => hfit v (List.mem_of_mem_drop (List.mem_of_mem_take hv))) hx
        obtain ⟨y2, hy2⟩ := hb fs (o + a.size) cs h4 (fun g hg => hf g (List.mem_cons_of_mem _ hg)) hfit (by omega)
        refine ⟨(y1, y2), _, _, ?_, hy1, hy2⟩
        rw [← List.drop_drop]
        exact (List.take_append_drop _ _).symm
    refine ⟨fun T fuel cs x h hc hfit ht => ?_, hB⟩
    simp only [wrapB, Ty.agg] at h
    split at h
    · rename_i fs hu
      obtain ⟨h1, h2⟩ := trod_fields hu ht
      simpa using hB _ _ cs h h2 hfit (by rw [h1, hc]; simp)
    · cases h

def argB (P : Program) : Ty → TypeId → Bool
  | .sl e, T => match P.underlying T with
    | some (.slice E) => readsT P e E && !Nat.beq e.size 0
    | _ => false
  | t, T => readsT P t T || (t.agg && (Nat.beq (P.cellsOf T) t.size && wrapB P true T (readsW P t)))

theorem okWide_agg {r : Reach} {b0 : Nat} {T : TypeId} {v : Value} {fs : Array Field} (hu : P.underlying T = some (.struct fs)) (h : Value.okWide P w r b0 T v) : ∃ cs, v = .agg cs := by
  simp only [Value.okWide, hu] at h
  obtain ⟨cs, hv, _⟩ := h
  exact ⟨cs, hv⟩

theorem trod_flat_arg {r : Reach} {b0 : Nat} {t : Ty} {T : TypeId} {v : Value} {d : DataW H} {ps : List MemPlace} (hB : readsT P t T = true) (hv : Value.okWide P w r b0 T v) (h : DataW.Trod enc P w base spare held T v d ps) :
    ∃ x : t.den, RepB w G (toAtom t x) v := by
  simp only [readsT, Bool.and_eq_true] at hB
  obtain ⟨hc, hB⟩ := hB
  have hc := Nat.eq_of_beq_eq_true hc
  obtain ⟨fuel, hf⟩ := h
  obtain ⟨y, hy⟩ := (trod_rep (G := G) t).1 T fuel _ _ hB hc hf
  refine ⟨y, ?_⟩
  cases t with
  | int k =>
    have hu := isIntB_eq (by simpa [wrapB, Ty.agg, readsB] using hB)
    obtain ⟨n, rfl⟩ := okWide_int hu hv
    obtain ⟨h1, h2⟩ := hy
    simp [Value.cells] at h1
    subst h1
    exact ⟨rfl, h2⟩
  | bool =>
    have hu := isBoolB_eq (by simpa [wrapB, Ty.agg, readsB] using hB)
    obtain ⟨b, rfl⟩ := okWide_bool hu hv
    have h1 : ([.bool b] : List Value) = [.bool y] := hy
    cases h1
    exact ⟨rfl, trivial⟩
  | fn => simp [wrapB, Ty.agg, readsB] at hB
  | str =>
    have hu := isStrB_eq (by simpa [wrapB, Ty.agg, readsB] using hB)
    obtain ⟨s, rfl⟩ := okWide_string hu hv
    obtain ⟨h1, h2⟩ := hy
    simp [Value.cells] at h1
    subst h1
    exact ⟨rfl, h2⟩
  | sl e => simp [wrapB, Ty.agg, readsB] at hB
  | unit =>
    simp only [wrapB, Ty.agg] at hB
    split at hB
    · rename_i fs hu
      obtain ⟨cs, rfl⟩ := okWide_agg hu hv
      exact ⟨cs.toList, by simp, hy⟩
    · cases hB
  | cons a b =>
    simp only [wrapB, Ty.agg] at hB
    split at hB
    · rename_i fs hu
      obtain ⟨cs, rfl⟩ := okWide_agg hu hv
      exact ⟨cs.toList, by simp, hy⟩
    · cases hB

theorem has_spot {r : Reach} {b0 : Nat} {T E : TypeId} {a : Addr} {len cap : Nat} (hu : P.underlying T = some (.slice E)) (hv : Value.okWide P w r b0 T (.slice (some a) len cap)) : a.spot = none ∧ a.block < w.heap.size := by
  simp only [Value.okWide, hu, Cell.okWide, Cell.ok] at hv
  obtain ⟨_, _, hh⟩ := hv
  obtain ⟨_, hs, row, cells, hsh, _⟩ := hh
  refine ⟨hs, ?_⟩
  rcases Nat.lt_or_ge a.block w.heap.size with hlt | hge
  · exact hlt
  · simp [World.shape?, Array.getElem?_eq_none hge] at hsh

theorem trod_arg {r : Reach} {b0 : Nat} {t : Ty} {T : TypeId} {v : Value} {d : DataW H} {ps : List MemPlace} (hB : argB P t T = true) (hv : Value.okWide P w r b0 T v) (h : DataW.Trod enc P w base spare held T v d ps) :
    ∃ x : t.den, RepB w (Good w []) (toAtom t x) v := by
  unfold argB at hB
  split at hB
  · rename_i e
    split at hB
    · rename_i E hu
      simp only [Bool.and_eq_true, Bool.not_eq_true'] at hB
      obtain ⟨a0, len, cap, rfl⟩ := okWide_slice hu hv
      obtain ⟨fuel, hf⟩ := h
      have hfit : ∀ u ∈ (Value.slice a0 len cap).cells.toList, FitV w u := fun u hu' => by
        simp [Value.cells] at hu'
        subst hu'
        rintro a l c he
        cases he
        exact has_spot hu hv
      obtain ⟨u, ys, h1, h2⟩ := trod_slice_rep hu hB.1 (fun hz => by have := hB.2; rw [hz] at this; simp at this) hfit hf
      simp [Value.cells] at h1
      subst h1
      exact ⟨ys, h2⟩
    · cases hB
  · rename_i hns
    rw [Bool.or_eq_true] at hB
    rcases hB with hB | hB
    · exact trod_flat_arg hB hv h
    · simp only [Bool.and_eq_true] at hB
      obtain ⟨ha, hc, hB⟩ := hB
      have hc := Nat.eq_of_beq_eq_true hc
      obtain ⟨fuel, hf⟩ := h
      have hB' := hB
      unfold wrapB at hB
      simp only at hB
      split at hB
      · rename_i fs hu
        simp only [Value.okWide, hu] at hv
        obtain ⟨cs, rfl, _, hrow⟩ := hv
        obtain ⟨y, hy⟩ := (trod_repW t).1 T fuel _ _ (by rw [ha]; exact hB') hc (row_fit hrow) (by simpa [Value.cells] using hf)
        refine ⟨y, ?_⟩
        cases t with
        | cons a b => exact ⟨cs.toList, by simp, hy⟩
        | unit => exact ⟨cs.toList, by simp, hy⟩
        | _ => cases ha
      · cases hB

theorem trod_args {r : Reach} {b0 : Nat} : ∀ {ts : List Ty} {Ts : List TypeId} {vs : List Value} {ds : List (DataW H)} {ps : List MemPlace}, ts.length = Ts.length → (∀ (i : Nat) (t : Ty) (T : TypeId), ts[i]? = some t → Ts[i]? = some T → argB P t T = true) →
    (∀ (j : Nat) T v, Ts[j]? = some T → vs[j]? = some v → Value.okWide P w r b0 T v) → DataW.TrodAll enc P w base spare held Ts vs ds ps →
    ∃ (x : sigDen (ts.map AT.v)) (bss : List (List Nat)), bss.flatten = [] ∧ ArgsRep w (Good w []) (ts.map AT.v) x vs bss
  | [], [], [], [], _, _, _, _, _ => ⟨(), [], rfl, rfl, rfl⟩
  | t :: ts, T :: Ts, v :: vs, d :: ds, ps, hl, hB, hv, h => by
    obtain ⟨p, q, h1, h2, _⟩ := h
    obtain ⟨x, hx⟩ := trod_arg (hB 0 t T rfl rfl) (hv 0 T v rfl rfl) h1
    obtain ⟨y, bss, hb, hy⟩ := trod_args (by simpa using hl) (fun i t T h1 h2 => hB (i + 1) t T (by simpa using h1) (by simpa using h2)) (fun j T v h1 h2 => hv (j + 1) T v (by simpa using h1) (by simpa using h2)) h2
    exact ⟨(x, y), [] :: bss, by simpa using hb, v, vs, [], bss, rfl, rfl, ⟨rfl, hx⟩, hy⟩
  | [], _ :: _, _, _, _, hl, _, _, _ => by simp at hl
  | _ :: _, [], _, _, _, hl, _, _, _ => by simp at hl
end
end Go.Am

/- The abstract machine, part 23: from a law's contract to its statement. -/
namespace Go.Am
open Go.ChangeShapes Go.WideShapes Go.ChangeAt Go.RowKit
set_option linter.unusedVariables false
set_option linter.unusedSimpArgs false

section
variable {H : Type} {enc : TypeId × Value → H} {P : Program} {W W' : World}

theorem trodAll_below (hl : laidOutB P = true) (hb : Below W.heap.size W W') : ∀ {ts : List TypeId} {vs : List Value} {ds : List (DataW H)} {ps : List MemPlace}, (∀ t ∈ ts, P.readableRec t = true ∧ t < P.types.size) →
    DataW.TrodAll enc P W 0 (fun _ => true) true ts vs ds ps → (∀ x ∈ ps, x.block < W.heap.size) → DataW.TrodAll enc P W' 0 (fun b => decide (b < W.heap.size)) true ts vs ds ps
  | [], [], [], _, _, h, _ => h
  | t :: ts, v :: vs, d :: ds, ps, hr, ⟨p, q, h1, h2, e⟩, hlt => by
    obtain ⟨r1, r2⟩ := hr t (List.mem_cons_self ..)
    refine ⟨p, q, Below.trod hl r1 r2 h1 hb (fun x hx => hlt x (by rw [e]; exact List.mem_append_left _ hx)), trodAll_below hl hb (fun t ht => hr t (List.mem_cons_of_mem _ ht)) h2 (fun x hx => hlt x (by rw [e]; exact List.mem_append_right _ hx)), e⟩
  | [], [], _ :: _, _, _, h, _ => h.elim
  | [], _ :: _, _, _, _, h, _ => h.elim
  | _ :: _, [], _, _, _, h, _ => h.elim
  | _ :: _, _ :: _, [], _, _, h, _ => h.elim

theorem trodAll_len {base : Nat} {sp : Nat → Bool} {held : Bool} : ∀ {ts : List TypeId} {vs : List Value} {ds : List (DataW H)} {ps : List MemPlace}, DataW.TrodAll enc P W base sp held ts vs ds ps → ds.length = ts.length ∧ vs.length = ts.length
  | [], [], [], _, h => ⟨rfl, rfl⟩
  | t :: ts, v :: vs, d :: ds, ps, ⟨p, q, h1, h2, e⟩ => by obtain ⟨a, b⟩ := trodAll_len h2; exact ⟨by simp [a], by simp [b]⟩
  | [], [], _ :: _, _, h => h.elim
  | [], _ :: _, _, _, h => h.elim
  | _ :: _, [], _, _, h => h.elim
  | _ :: _, _ :: _, [], _, h => h.elim
end

def argsB (P : Program) : List Ty → List TypeId → Bool
  | [], [] => true
  | t :: ts, T :: Ts => argB P t T && argsB P ts Ts
  | _, _ => false

theorem argsB_spec {P : Program} : ∀ {ts : List Ty} {Ts : List TypeId}, argsB P ts Ts = true → ts.length = Ts.length ∧ ∀ (i : Nat) (t : Ty) (T : TypeId), ts[i]? = some t → Ts[i]? = some T → argB P t T = true
  | [], [], _ => ⟨rfl, fun i t T h => by simp at h⟩
  | t :: ts, T :: Ts, h => by
    simp only [argsB, Bool.and_eq_true] at h
    obtain ⟨h1, h2⟩ := argsB_spec h.2
    refine ⟨by simp [h1], fun i u U hu hU => ?_⟩
    cases i with
    | zero => simp at hu hU; subst hu hU; exact h.1
    | succ i => exact h2 i u U (by simpa using hu) (by simpa using hU)
  | [], _ :: _, h => by cases h
  | _ :: _, [], h => by cases h

def lawSpec (ts : List Ty) : Spec := { sig := ts.map AT.v, pre := fun _ => True, res := fun _ => [⟨.bool, true⟩] }

theorem law_calls {H : Type} {enc : TypeId × Value → H} {C : Checked} {f : FuncId} {fn : Func} {s : ChangeSpec} {apart fresh handsOn : Bool}
    (hl : laidOutB C.prog = true) (hr : (fn.params.toList.all fun t => C.prog.readableRec t && Nat.blt t C.prog.types.size) = true)
    (ts : List Ty) (hts : argsB C.prog ts fn.params.toList = true) {tb : TypeId} (hres : fn.resultTypes = #[tb]) (htb : C.prog.underlying tb = some .bool) (hvars : s.vars = [])
    (hs : ∀ ds : List (DataW H), ds.length = fn.params.toList.length → (s.fn H (ds ++ [])).results = [.lit (.bool true)] ∧ (s.fn H (ds ++ [])).args = ds ∧ (s.fn H (ds ++ [])).vars = [])
    (hcon : Contract C.prog f (lawSpec ts)) {W : World} (hg : GInv W) {base : Nat} {args : Array Value} {ds gs : List (DataW H)} {before : List MemPlace}
    (hval : ∀ (j : Nat) t v, fn.params[j]? = some t → args[j]? = some v → Value.okWide C.prog W .any base t v)
    (hW : DataW.Whole enc C.prog fn.params.toList s.vars apart W args.toList ds gs before) :
    Calls C.prog f args W fun e W' => ∃ v, e = .returned v ∧ s.post enc C.prog fn apart fresh handsOn false W args v W' := by
  have hW' := hW
  obtain ⟨p, q, hA, hV, hbef, hfz, hnd⟩ := hW
  rw [hvars] at hV
  obtain ⟨rfl, rfl⟩ := trodVars_none hV
  obtain ⟨hlen, hall⟩ := argsB_spec hts
  obtain ⟨x, bss, hb0, hx⟩ := trod_args (r := .any) (b0 := base) hlen hall (fun j T v h1 h2 => hval j T v (by simpa using h1) (by simpa using h2)) hA
  have hcall := hcon W (Good W []) (Good W []) x args.toList bss (by rw [hb0]; exact ⟨hg, hg.size, fun b hb => by cases hb⟩) (by rw [hb0]; exact fun b hb => hb) (fun b hb => hb) trivial hx (by rw [hb0]; exact List.nodup_nil)
  rw [hb0] at hcall
  refine hcall.mono ?_
  rintro e W' ⟨rs, ubs, rbs, F, rfl, hk, hrr, _⟩
  have hrs : rs = [.bool true] := by
    obtain ⟨v, s', b, bs, h1, h2, ⟨cs, h3, h4⟩, h5⟩ := hrr
    obtain ⟨h3, _⟩ := h3
    simp only [IsVal] at h4
    rw [h3] at h4
    cases h4
    rw [h1, h5.1]
  subst hrs
  have hbel := hk.below
  obtain ⟨g1, g2, g3⟩ := hs ds (trodAll_len hA).1
  have hlt : ∀ y ∈ p, y.block < W.heap.size := fun y hy => hW'.lt y (by rw [hbef]; exact List.mem_append_left _ hy)
  have hr' : ∀ t ∈ fn.params.toList, C.prog.readableRec t = true ∧ t < C.prog.types.size := fun t ht => by
    have := List.all_eq_true.1 hr t ht
    simp only [Bool.and_eq_true] at this
    exact ⟨this.1, Nat.le_of_ble_eq_true this.2⟩
  refine ⟨.bool true, rfl, ds, [], before, [], p, [], hW', ?_, ?_, ?_, hbel.frame _, fun h => by cases h⟩
  · rw [hres, g1]
    exact trodAll_mk1 (shut_bool htb true)
  · rw [g2]
    exact trodAll_below hl hbel hr' hA hlt
  · rw [hvars, g3]
    rfl

theorem law_lifted {H : Type} {enc : TypeId × Value → H} {a : Assume} {C : Checked} {os : Os} {f : FuncId} {fn : Func} {s : ChangeSpec} {conds : List PathCond} {apart fresh handsOn : Bool}
    (own : ownKnob C.prog.godebug = none) (started : os.Started) (noInit : C.prog.inits.idxOf? f = none) (hfn : C.prog.funcs[f]? = some fn)
    (witness : ∃ (w : World) (tape : Tape) (i : Input), w.os = os ∧ (w.forCall tape i).Shaped C.prog ∧ i.vars = [] ∧ Input.okWide C.prog (w.forCall tape i) .any w.heap.size f i ∧
      s.pre6 enc C.prog fn conds apart (w.forCall tape i).memory i.args ∧ a.holds C.prog (lone (Frame.enter C.prog f i.args .normal) [] (w.forCall tape i)))
    (hl : laidOutB C.prog = true) (hr : (fn.params.toList.all fun t => C.prog.readableRec t && Nat.blt t C.prog.types.size) = true)
    (ts : List Ty) (hts : argsB C.prog ts fn.params.toList = true) {tb : TypeId} (hres : fn.resultTypes = #[tb]) (htb : C.prog.underlying tb = some .bool) (hvars : s.vars = [])
    (hs : ∀ ds : List (DataW H), ds.length = fn.params.toList.length → (s.fn H (ds ++ [])).results = [.lit (.bool true)] ∧ (s.fn H (ds ++ [])).args = ds ∧ (s.fn H (ds ++ [])).vars = [])
    (hg : ∀ W : World, W.ShapedOpen C.prog → GInv W) (hcon : Contract C.prog f (lawSpec ts)) :
    ReturnsInHanded a C os f .any (s.pre6 enc C.prog fn conds apart) (s.post enc C.prog fn apart fresh handsOn false) := by
  refine returnsInHanded_of_change_shaped own started noInit hfn witness ?_
  intro W base args ds gs before hval hW hcnd _ hsh _
  exact law_calls hl hr ts hts hres htb hvars hs hcon (hg W hsh) hval hW

end Go.Am

/- The abstract machine, part 24: cut points, runs between them with nil slices taken as owned ones. -/
namespace Go.Am
set_option linter.unusedVariables false
set_option linter.unusedSimpArgs false

def bodyOf (f : Func) : Code := match f.body with | some c => c | none => .skip

def firstRegion : Code → Nat
  | .region id _ _ => id
  | .seq x _ => firstRegion x
  | .block _ c => firstRegion c
  | .loop c => firstRegion c
  | .scope c => firstRegion c
  | _ => 999999

def orL : Option (List Item) → Option (List Item) → Option (List Item)
  | some k, _ => some k
  | none, x => x

def findC (id : Nat) : Code → List Item → Option (List Item)
  | .seq x y, k => orL (findC id x (.code y :: k)) (findC id y k)
  | .block b c, k => findC id c (.inBlock b :: k)
  | .loop c, k => match Nat.beq (firstRegion c) id with
    | true => some (.code c :: .inLoop c :: k)
    | false => findC id c (.inLoop c :: k)
  | .cond _ x y, k => orL (findC id x k) (findC id y k)
  | .region r ops d, k => match Nat.beq r id with
    | true => some (.code (.region r ops d) :: k)
    | false => none
  | _, _ => none

def cutAt (c : Code) (id : Nat) : List Item := match findC id c [] with | some k => k | none => []

def nilA (t : Nat) (ty : Ty) (EL : Env × Heap) : Env × Heap :=
  match EL.1.get t with
  | .a (.val (.slice none _ _)) => (EL.1.set t (.a (.osl EL.2.length none)), EL.2 ++ [some ⟨ty, [], !ty.flat, none, none⟩])
  | _ => EL

def nilsA : List (Nat × Ty) → Env × Heap → Env × Heap
  | [], EL => EL
  | (t, ty) :: r, EL => nilsA r (nilA t ty EL)

def borUp1 (A : Arr) : Arr :=
  match A.t.flat, A.bor with
  | false, false => match A.ls, A.sm with
    | none, none => match A.xs.isEmpty with
      | true => ⟨A.t, A.xs, true, none, none⟩
      | false => A
    | _, _ => A
  | _, _ => A

def borUp (L : Heap) : Heap := L.map fun o => match o with | some A => some (borUp1 A) | none => none

theorem hget_borUp : ∀ (L : Heap) (s : Nat), hget (borUp L) s = (hget L s).map borUp1
  | [], _ => rfl
  | some B :: L, 0 => rfl
  | none :: L, 0 => rfl
  | o :: L, s + 1 => hget_borUp L s

theorem borUp1_cases (A : Arr) : borUp1 A = A ∨ (A.xs = [] ∧ A.ls = none ∧ A.sm = none ∧ borUp1 A = ⟨A.t, A.xs, true, none, none⟩) := by
  unfold borUp1
  split
  · split
    · split
      · rename_i h1 h2 _ h3
        exact .inr ⟨List.isEmpty_iff.1 h3, h1, h2, rfl⟩
      · exact .inl rfl
    · exact .inl rfl
  · exact .inl rfl

section
variable {P : Program} {n : Nat} {K : Ctx} {G : Nat → Prop} {w0 w : World} {a : Act} {V : Nat → Value} {own : Nat → List Nat} {f : FuncId} {R : Ending → World → Prop} {E : Env} {L : Heap}

theorem RelV.reset (hR : RelV n K w0 G w a E L V own) {t : Nat} {p : PV} (hp : RepP w0 G L V p (a.tmps.getD t undef)) : RelV n K w0 G w a (E.set t p) L V own :=
  ⟨hR.glob, hR.kept, hR.size, hR.defers, hR.glt, hR.gref, hR.gsub, hR.gold, hR.gup, hR.heap, hR.good, hR.nodup, hR.apart, hR.boxs, hR.small, fun i => by
    rw [Env.get_set]
    split
    · rename_i h; subst h; exact hp
    · exact hR.env i⟩

theorem nilA_spec (hR : RelV n K w0 G w a E L V own) (t : Nat) (ty : Ty) : ∃ V' own', RelV n K w0 G w a (nilA t ty (E, L)).1 (nilA t ty (E, L)).2 V' own' := by
  unfold nilA
  split
  · rename_i m c hg
    have hv := hR.env t
    simp only at hg
    rw [hg] at hv
    obtain ⟨hv, h0, h1⟩ := hv
    subst h0 h1
    have hE : EntC w0 G w ⟨ty, [], !ty.flat, none, none⟩ (.slice none 0 0) [] := ⟨by simp [maxLen], .inl ⟨_, rfl, rfl, rfl⟩⟩
    have hR' := hR.grow hE List.nodup_nil (fun b hb => by cases hb) (fun r A hA b hb hm => by cases hm)
    refine ⟨_, _, hR'.reset ?_⟩
    rw [hv]
    exact repA_new (w0 := w0) (G := G) (u := w0) (G' := G) (w := w) hE
  · exact ⟨V, own, hR⟩

theorem nilsA_spec : ∀ {l : List (Nat × Ty)} {E : Env} {L : Heap} {V : Nat → Value} {own : Nat → List Nat}, RelV n K w0 G w a E L V own → ∃ V' own', RelV n K w0 G w a (nilsA l (E, L)).1 (nilsA l (E, L)).2 V' own'
  | [], E, L, V, own, hR => ⟨V, own, hR⟩
  | (t, ty) :: r, E, L, V, own, hR => by
    obtain ⟨V', own', h⟩ := nilA_spec hR t ty
    show ∃ V' own', RelV n K w0 G w a (nilsA r (nilA t ty (E, L))).1 (nilsA r (nilA t ty (E, L))).2 V' own'
    generalize nilA t ty (E, L) = EL at h
    obtain ⟨E1, L1⟩ := EL
    exact nilsA_spec h

theorem RelV.borUp (hR : RelV n K w0 G w a E L V own) : RelV n K w0 G w a E (Am.borUp L) V own := by
  have hback : ∀ s B, hget (Am.borUp L) s = some B → ∃ C, hget L s = some C ∧ B = borUp1 C := fun s B h => by
    rw [hget_borUp] at h
    cases hC : hget L s with
    | none => rw [hC] at h; cases h
    | some C => rw [hC] at h; cases h; exact ⟨C, rfl, rfl⟩
  have ht : ∀ C, (borUp1 C).t = C.t := fun C => by rcases borUp1_cases C with h | ⟨_, _, _, h⟩ <;> rw [h]
  have hl : ∀ C, (borUp1 C).xs.length = C.xs.length := fun C => by rcases borUp1_cases C with h | ⟨_, _, _, h⟩ <;> rw [h]
  have hls : ∀ C, (borUp1 C).ls = C.ls := fun C => by rcases borUp1_cases C with h | ⟨_, h2, _, h⟩ <;> rw [h]; exact h2.symm
  have hag : ∀ s, Agree L V (Am.borUp L) V s := fun s => ⟨rfl, fun A hA => ⟨borUp1 A, by rw [hget_borUp, hA]; rfl, ht A, hl A, fun ls h => ⟨ls, by rw [hls]; exact h⟩⟩⟩
  refine ⟨hR.glob, hR.kept, hR.size, hR.defers, hR.glt, hR.gref, hR.gsub, hR.gold, hR.gup, ?_, ?_, ?_, ?_, ?_, ?_, fun i => ?_⟩
  · intro s B hs
    obtain ⟨C, h2, rfl⟩ := hback s B hs
    have h := hR.heap s C h2
    rcases borUp1_cases C with e | ⟨e1, e2, e3, e⟩
    · rw [e]; exact h
    · rw [e]
      obtain ⟨t, xs, bor, ls, sm⟩ := C
      simp only at e1
      subst e1
      refine ⟨h.1, ?_⟩
      rcases h.2 with h | ⟨b, off, cap, cur, ty, fz, bss, h1, h2, h3, h4, h5, h6, h7, h8, h9⟩
      · exact .inl h
      · exact .inr ⟨b, off, cap, cur, ty, fz, bss, h1, h2, h3, h4, h5, h6, h7, h8, fun i x bi hx _ => by simp at hx⟩
  · intro s B hs
    obtain ⟨C, h2, rfl⟩ := hback s B hs
    exact hR.good s C h2
  · intro s B hs
    obtain ⟨C, h2, rfl⟩ := hback s B hs
    exact hR.nodup s C h2
  · intro s u B D hs hu hsu
    obtain ⟨C, h2, rfl⟩ := hback s B hs
    obtain ⟨F, h4, rfl⟩ := hback u D hu
    exact hR.apart s u C F h2 h4 hsu
  · intro s B ls hs hl'
    obtain ⟨C, h2, rfl⟩ := hback s B hs
    rw [hls] at hl'
    rw [ht]
    exact (hR.boxs s C ls h2 hl').agree fun u _ => hag u
  · intro s B q hs hq
    obtain ⟨C, h2, rfl⟩ := hback s B hs
    rcases borUp1_cases C with e | ⟨_, _, _, e⟩
    · rw [e] at hq ⊢; exact hR.small s C q h2 hq
    · rw [e] at hq; cases hq
  · exact repP_agree (hR.env i) fun u _ => hag u

def runN (tab : List TI) (ext : Ext) (wr : Bool) (n : Nat) (stops : List Nat) (m : Nat) (pins : List Nat) (nils : List (Nat × Ty)) (ks : List Nat) (rs : List Nat) (path : List Bool) (k : List Item) (E : Env) (L : Heap) : Option (List Item × Env × Heap × List Prop) :=
  match runA tab ext wr n stops m true k ⟨path, [], E, L, [], pins⟩ with
  | some (.stop k' S) => match nilsA nils (S.E, S.L) with
    | (E1, L1) => match nodupB rs && envIn rs (Am.keepE E1 ks) && heapIn rs (borUp L1) rs && decide (S.pins = pins) with
      | true => some (k', renE rs (Am.keepE E1 ks), pickL rs (borUp L1), S.cs)
      | false => none
  | _ => none

theorem AtV.runN {tab : List TI} {ext : Ext} (hT : TabOk P tab) (hX : ExtOk P ext) (hm : P.follows .mixedOrders = true) {wr : Bool} {stops : List Nat} {m : Nat} {q : Nat → Value} {pins : List Nat} {nils : List (Nat × Ty)} {ks : List Nat} {rs : List Nat} {path : List Bool} {k k' : List Item} {E' : Env} {L' : Heap} {cs : List Prop}
    (h : Am.runN tab ext wr n stops m pins nils ks rs path k E L = some (k', E', L', cs)) (hc : All cs) (hk : AtV P f R n K q pins k' E' L') : AtV P f R n K q pins k E L := by
  intro a w w0 G V own hR hq
  unfold Am.runN at h
  split at h
  · rename_i k1 S hr
    split at h
    rename_i E1 L1 hnil
    split at h
    · rename_i hb
      simp only [Bool.and_eq_true, decide_eq_true_eq] at hb
      obtain ⟨⟨⟨hn, hb⟩, hh⟩, hp⟩ := hb
      cases h
      refine runA_run hT hX hm hr hc hR ⟨fun t d ht => by simp [lookB] at ht, hq⟩ ?_
      intro a' w' w1 G1 V' own' hR' hq'
      rw [hp] at hq'
      obtain ⟨V2, own2, hR2⟩ := nilsA_spec (l := nils) hR'
      rw [hnil] at hR2
      exact hk _ _ _ _ _ _ ((hR2.borUp.keepE ks).renum hn hb hh) hq'
    · cases h
  · cases h
end
end Go.Am

/- The abstract machine, part 25: a contract, said otherwise. -/
namespace Go.Am
set_option linter.unusedVariables false

instance (k : IntKind) (n : Int) : Decidable (InR k n) := inferInstanceAs (Decidable (k.min ≤ n ∧ n ≤ k.max))

theorem ArgsRep.wf {w : World} {G : Nat → Prop} {sig : List AT} {x : sigDen sig} {vs : List Value} {bss : List (List Nat)} (h : ArgsRep w G sig x vs bss) : wfSig sig x := args_wf h

theorem Contract.says {P : Program} {f : FuncId} {sig : List AT} {pre pre' : sigDen sig → Prop} {upd : sigDen sig → List (Option Lst)} {res res' : sigDen sig → List Dyn} {kds : List RK}
    (hc : Contract P f { sig := sig, pre := pre, upd := upd, res := res, kds := kds }) (h : ∀ x, pre' x → wfSig sig x → pre x ∧ res x = res' x) : Contract P f { sig := sig, pre := pre', upd := upd, res := res', kds := kds } := by
  intro w G G0 x vs bss hgo hG hG0 hp ha hn
  obtain ⟨h1, h2⟩ := h x hp (argsK_wf ha)
  have := hc w G G0 x vs bss hgo hG hG0 h1 ha hn
  simp only at this ⊢
  rw [h2] at this
  exact this
end Go.Am

/- The abstract machine, part 26: small laws about trees, for the plain laws. -/
namespace Go.Am
set_option linter.unusedVariables false
set_option linter.unusedSimpArgs false

theorem bytes_eq (a b : ByteArray) : (ByteArray.toList a == ByteArray.toList b) = true ↔ a = b := by
  rw [← beq_toListBytes]
  obtain ⟨⟨x⟩⟩ := a
  obtain ⟨⟨y⟩⟩ := b
  show ((⟨x⟩ : Array UInt8) == ⟨y⟩) = true ↔ _
  simp

theorem bytes_ne (a b : ByteArray) : (ByteArray.toList a == ByteArray.toList b) = false ↔ a ≠ b := by
  rw [ne_eq, ← bytes_eq, Bool.not_eq_true]

theorem getD_lt {α : Type} (xs : List α) (i : Nat) (d : α) (h : i < xs.length) : xs.getD i d = xs[i] := by
  rw [List.getD_eq_getElem?_getD, List.getElem?_eq_getElem h]; rfl

theorem drop_get {α : Type} (xs : List α) (i : Nat) (d : α) (h : i < xs.length) : xs.drop i = xs.getD i d :: xs.drop (i + 1) := by
  rw [getD_lt xs i d h, ← List.drop_eq_getElem_cons h]

theorem drop_end {α : Type} (xs : List α) (i : Nat) (h : xs.length ≤ i) : xs.drop i = [] := List.drop_eq_nil_iff.2 h

theorem inR_up {α : Type} {xs : List α} (h : xs.length ≤ maxLen) {i : Nat} (hi : i < xs.length) : InR .i64 ((i : Int) + 1) := by
  have e1 : (IntKind.i64).min = -9223372036854775808 := by decide
  have e2 : (IntKind.i64).max = 9223372036854775807 := by decide
  have hm : maxLen ≤ 9223372036854775807 := by decide
  simp only [InR, e1, e2]
  omega

theorem i64_iff (n : Int) : InR .i64 n ↔ -9223372036854775808 ≤ n ∧ n ≤ 9223372036854775807 := by
  have e1 : (IntKind.i64).min = -9223372036854775808 := by decide
  have e2 : (IntKind.i64).max = 9223372036854775807 := by decide
  simp only [InR, e1, e2]

theorem u8_iff (n : Int) : InR .u8 n ↔ 0 ≤ n ∧ n ≤ 255 := by
  have e1 : (IntKind.u8).min = 0 := by decide
  have e2 : (IntKind.u8).max = 255 := by decide
  simp only [InR, e1, e2]

theorem set_step {α : Type} (x0 : List α) (d : α) (i : Nat) (h : i < x0.length) (l : Nat) (hl : l = x0.length - i) : (x0.take i ++ List.replicate l d).set i (x0.getD i d) = x0.take (i + 1) ++ List.replicate (l - 1) d := by
  have e : (x0.take i).length = i := by simp; omega
  obtain ⟨l, rfl⟩ : ∃ m, l = m + 1 := ⟨l - 1, by omega⟩
  rw [List.set_append_right _ _ (by omega), e, Nat.sub_self, List.replicate_succ, List.set_cons_zero, getD_lt _ _ _ h, List.take_succ_eq_append_getElem h, List.append_assoc]
  rfl
end Go.Am

/- The abstract machine, part 28: laws for loops over lists, and for the bytes of strings. -/
namespace Go.Am
set_option linter.unusedVariables false
set_option linter.unusedSimpArgs false

theorem bytesOf_length (s : ByteArray) : (bytesOf s).length = s.size := by simp [bytesOf]

theorem byte_get (s : ByteArray) (i : Nat) : ((List.getD (Array.toList (ByteArray.data s)) i 0).toNat : Int) = (bytesOf s).getD i 0 := by
  unfold bytesOf
  rw [List.getD_eq_getElem?_getD, List.getD_eq_getElem?_getD, List.getElem?_map]
  cases h : s.data.toList[i]? with
  | none => rfl
  | some b => rfl

def goL {α β δ : Type} (f : β → α → Except δ β) (fin : β → δ) : β → List α → δ
  | b, [] => fin b
  | b, x :: r => match f b x with
    | .ok b' => goL f fin b' r
    | .error d => d

theorem loop_list {α β δ : Type} (xs : List α) (d : α) (f : β → α → Except δ β) (fin : β → δ) (Inv : Nat → β → Prop) (R : Nat → Int → β → δ → Prop)
    (hend : ∀ n b, Inv xs.length b → R (n + 1) xs.length b (fin b))
    (hstep : ∀ n (i : Nat) b, i < xs.length → Inv i b → match f b (xs.getD i d) with
      | .ok b' => Inv (i + 1) b' ∧ ∀ ds, R n (((i : Nat) : Int) + 1) b' ds → R (n + 1) (i : Int) b ds
      | .error ds => R (n + 1) (i : Int) b ds) :
    ∀ (k i : Nat) b, i + k = xs.length → Inv i b → R (k + 1) (i : Int) b (goL f fin b (xs.drop i)) := by
  intro k
  induction k with
  | zero =>
    intro i b hi hinv
    have : i = xs.length := by omega
    subst this
    rw [drop_end xs _ (Nat.le_refl _)]
    exact hend 0 b hinv
  | succ k ih =>
    intro i b hi hinv
    have h := hstep (k + 1) i b (by omega) hinv
    rw [drop_get xs i d (by omega)]
    simp only [goL]
    split at h
    · rename_i b' hf
      have := ih (i + 1) b' (by omega) h.1
      exact h.2 _ (by simpa using this)
    · exact h

theorem loop_all {α β δ : Type} (xs : List α) (d : α) (f : β → α → Except δ β) (fin : β → δ) (Inv : Nat → β → Prop) (R : Nat → Int → β → δ → Prop) {b : β} (h0 : Inv 0 b)
    (hend : ∀ n b, Inv xs.length b → R (n + 1) xs.length b (fin b))
    (hstep : ∀ n (i : Nat) b, i < xs.length → Inv i b → match f b (xs.getD i d) with
      | .ok b' => Inv (i + 1) b' ∧ ∀ ds, R n (((i : Nat) : Int) + 1) b' ds → R (n + 1) (i : Int) b ds
      | .error ds => R (n + 1) (i : Int) b ds) : R (xs.length + 1) 0 b (goL f fin b xs) := by
  have := loop_list xs d f fin Inv R hend hstep xs.length 0 b (by omega) h0
  simpa using this

theorem goL_all {α δ : Type} (q : α → Bool) (no yes : δ) : ∀ (l : List α) (f : Unit → α → Except δ Unit) (fin : Unit → δ), (∀ x, f () x = if q x = true then .ok () else .error no) → fin () = yes → goL f fin () l = if l.all q = true then yes else no
  | [], f, fin, hf, hfin => by simp [goL, hfin]
  | x :: r, f, fin, hf, hfin => by
    simp only [goL, hf]
    cases h : q x with
    | true => simp only [if_true]; rw [goL_all q no yes r f fin hf hfin]; simp [h]
    | false => simp [h]

theorem loop_test {α δ : Type} (xs : List α) (d : α) (q : α → Bool) (no yes : δ) (R : Nat → Int → δ → Prop) (hend : ∀ n, R (n + 1) xs.length yes)
    (hok : ∀ n (i : Nat), i < xs.length → q (xs.getD i d) = true → ∀ ds, R n (((i : Nat) : Int) + 1) ds → R (n + 1) (i : Int) ds)
    (hno : ∀ n (i : Nat), i < xs.length → q (xs.getD i d) = false → R (n + 1) (i : Int) no) : R (xs.length + 1) 0 (if xs.all q = true then yes else no) := by
  have key := loop_all (b := ()) xs d (fun (_ : Unit) x => if q x = true then .ok () else .error no) (fun _ => yes) (fun _ _ => True) (fun n i _ ds => R n i ds) trivial (fun n _ _ => hend n) (fun n i _ hi _ => by
    cases h : q (xs.getD i d) with
    | true => exact ⟨trivial, hok n i hi h⟩
    | false => exact hno n i hi h)
  rw [goL_all q no yes _ _ _ (fun _ => rfl) rfl] at key
  exact key

theorem loop_find {α δ : Type} (xs : List α) (d : α) (q : α → Bool) (none' : δ) (some' : Int → δ) (R : Nat → Int → δ → Prop) (hend : ∀ n, R (n + 1) xs.length none')
    (hgo : ∀ n (i : Nat), i < xs.length → q (xs.getD i d) = false → ∀ ds, R n (((i : Nat) : Int) + 1) ds → R (n + 1) (i : Int) ds)
    (hhit : ∀ n (i : Nat), i < xs.length → q (xs.getD i d) = true → R (n + 1) (i : Int) (some' i)) : R (xs.length + 1) 0 (match xs.findIdx? q with | some k => some' (k : Nat) | none => none') := by
  have key : ∀ (k i : Nat), i + k = xs.length → R (k + 1) (i : Int) (match (xs.drop i).findIdx? q with | some j => some' ((i + j : Nat) : Int) | none => none') := by
    intro k
    induction k with
    | zero =>
      intro i hi
      have : i = xs.length := by omega
      subst this
      rw [drop_end xs _ (Nat.le_refl _)]
      exact hend 0
    | succ k ih =>
      intro i hi
      rw [drop_get xs i d (by omega), List.findIdx?_cons]
      cases h : q (xs.getD i d) with
      | true => simpa using hhit (k + 1) i (by omega) h
      | false =>
        have h2 := hgo (k + 1) i (by omega) h _ (by have := ih (i + 1) (by omega); simpa using this)
        simp only [Bool.false_eq_true, if_false]
        cases hf : List.findIdx? q (List.drop (i + 1) xs) with
        | none => rw [hf] at h2; simpa using h2
        | some j =>
          rw [hf] at h2
          simp only [Option.map_some] at h2 ⊢
          rw [show i + (j + 1) = i + 1 + j from by omega]
          exact h2
  have := key xs.length 0 (by omega)
  simpa using this

def idx : Option Nat → Int
  | some k => (k : Nat)
  | none => -1

theorem findIdx_any {α : Type} (q : α → Bool) : ∀ (l : List α), idx (l.findIdx? q) ≥ 0 ↔ l.any q = true := by
  intro l
  have h := List.findIdx?_isSome (xs := l) (p := q)
  rw [← h]
  cases l.findIdx? q with
  | none => simp [idx]
  | some k => simp [idx]

theorem mem_getD {α : Type} (xs : List α) (i : Nat) (d : α) (h : i < xs.length) : xs.getD i d ∈ xs := by
  rw [getD_lt _ _ _ h]; exact List.getElem_mem _

def sizes : List ByteArray → Nat
  | [] => 0
  | x :: r => x.size + sizes r

end Go.Am

/- The abstract machine, part 29: from what a library function is known to do to its contract. -/
namespace Go.Am
set_option linter.unusedVariables false
set_option linter.unusedSimpArgs false
open Go.RowKit (Below)

theorem ResK.toRep {w : World} {G F : Nat → Prop} : ∀ {ds : List Dyn} {rs : List Value} {rbs : List (List Nat)}, ResK w G F [] ds rs rbs → ResRep w ds rs rbs
  | [], _, _, h => h
  | d :: r, _, _, ⟨v, s, b, bs, h1, h2, ⟨cs, h3, h4⟩, h5⟩ => ⟨v, s, b, bs, cs, h1, h2, h3, h4, h5.toRep⟩

theorem Contract.down {P : Program} {f : FuncId} {S : Spec} (hk : S.kds = []) (h : Contract P f S) (w : World) (x : sigDen S.sig) (vs : List Value) (bss : List (List Nat)) (hg : GOk w bss.flatten) (hp : S.pre x)
    (ha : ArgsRep w (Good w bss.flatten) S.sig x vs bss) (hn : bss.flatten.Nodup) :
    Calls P f vs.toArray w fun e w' => ∃ (rs : List Value) (ubs rbs : List (List Nat)), e = .returned (packV rs) ∧ Kept bss.flatten w w' ∧ ResRep w' (S.res x) rs rbs ∧ True := by
  refine (h w (Good w bss.flatten) (Good w bss.flatten) x vs bss hg (fun _ h => h) (fun _ h => h) hp ha hn).mono ?_
  rintro e w' ⟨rs, ubs, rbs, F, h1, h2, h3, _⟩
  rw [hk] at h3
  exact ⟨rs, ubs, rbs, h1, h2, h3.toRep, trivial⟩

end Go.Am

/- The abstract machine, part 30: more laws for loops. -/
namespace Go.Am
set_option linter.unusedVariables false
set_option linter.unusedSimpArgs false

end Go.Am

/- The abstract machine, part 31: the order of strings; binary search. -/
namespace Go.Am
set_option linter.unusedVariables false
set_option linter.unusedSimpArgs false

theorem toList_inj {a b : ByteArray} (h : ByteArray.toList a = ByteArray.toList b) : a = b := (bytes_eq a b).1 (by rw [h]; simp)

end Go.Am

/- The abstract machine, part 32: places in lists. -/
namespace Go.Am
set_option linter.unusedVariables false
set_option linter.unusedSimpArgs false

end Go.Am

/- The abstract machine, part 33: loops within loops; strings of one byte. -/
namespace Go.Am
set_option linter.unusedVariables false
set_option linter.unusedSimpArgs false

def repB (c : UInt8) (n : Nat) : ByteArray := ⟨(Lib.repeatL [c] n).toArray⟩

end Go.Am

/- The abstract machine, part 34: rows that the library makes and turns. -/
namespace Go.Am
set_option linter.unusedVariables false
set_option linter.unusedSimpArgs false
open Go.RowKit (Below)


def bls (xs : List ByteArray) : List (List UInt8) := xs.map fun s => s.data.toList
end Go.Am

/- The abstract machine, part 35: strings in order. -/
namespace Go.Am
set_option linter.unusedVariables false
set_option linter.unusedSimpArgs false

end Go.Am

/- The abstract machine, part 36: lines that are counted in a list in order. -/
namespace Go.Am
set_option linter.unusedVariables false
set_option linter.unusedSimpArgs false

def bump (h : List Int) : List Int := List.set h (Int.toNat ((↑(List.length h) : Int) - 1)) (List.getD h (Int.toNat ((↑(List.length h) : Int) - 1)) 0 + 1)

def cntNew (xs : List ByteArray) (i : Nat) (x : ByteArray) : Bool := decide (i = 0) || !(ByteArray.toList x == ByteArray.toList (xs.getD (i - 1) ByteArray.empty))

def cntStep (xs : List ByteArray) (b : (List ByteArray × List Int) × Nat) (x : ByteArray) : (List ByteArray × List Int) × Nat :=
  if cntNew xs b.2 x = true then ((b.1.1 ++ [x], bump (b.1.2 ++ [0])), b.2 + 1) else ((b.1.1, bump b.1.2), b.2 + 1)

def counted (xs : List ByteArray) : (List ByteArray × List Int) × Nat := xs.foldl (cntStep xs) (([], []), 0)

end Go.Am

/- The abstract machine, part 37: decimal numerals; strings that are split at a byte. -/
namespace Go.Am
set_option linter.unusedVariables false
set_option linter.unusedSimpArgs false
open Go.Sort (grow)


def bss (ls : List (List UInt8)) : List ByteArray := ls.map fun l => ⟨l.toArray⟩

end Go.Am

/- The abstract machine, part 38: variables of the library that a statement lists with what they hold. -/
namespace Go.Am
set_option linter.unusedVariables false
set_option linter.unusedSimpArgs false

end Go.Am

/- The abstract machine, part 39: library functions over slices of whatever flat type: from their runs to their contracts. -/
namespace Go.Am
set_option linter.unusedVariables false
set_option linter.unusedSimpArgs false
open Go.RowKit (Below)

theorem fcells_one : ∀ {t : Ty} {x : t.den}, t.flat = true → ∀ u ∈ fcells t x, u.oneCell' = true
  | .int _, _, _, u, hu => by simp [fcells] at hu; subst hu; rfl
  | .bool, _, _, u, hu => by simp [fcells] at hu; subst hu; rfl
  | .fn, x, _, u, hu => by simp [fcells] at hu; subst hu; exact fnV_one x
  | .str, _, _, u, hu => by simp [fcells] at hu; subst hu; rfl
  | .sl _, _, h, _, _ => by cases h
  | .unit, _, _, u, hu => by simp [fcells] at hu
  | .cons a b, x, hf, u, hu => by
    simp only [Ty.flat, Bool.and_eq_true] at hf
    simp only [fcells, List.mem_append] at hu
    rcases hu with hu | hu
    · exact fcells_one hf.1 u hu
    · exact fcells_one hf.2 u hu

def fcs (t : Ty) (xs : List t.den) : List Value := (xs.map (fcells t)).flatten

theorem row_fcells {w : World} {t : Ty} (hf : t.flat = true) : ∀ {xs : List t.den} {css : List (List Value)} {bss : List (List Nat)}, Row (OwnC w t) t.size xs css bss → css = xs.map (fcells t) ∧ bss.flatten = [] ∧ ∀ x ∈ xs, Wf t x
  | [], css, bss, ⟨h1, h2⟩ => by subst h1 h2; exact ⟨rfl, rfl, fun x h => by cases h⟩
  | x :: r, css, bss, ⟨c, cs, b, bs, h1, h2, h3, h4, h5⟩ => by
    subst h1 h2
    obtain ⟨e1, e2, e3⟩ := row_fcells hf h5
    have e4 : b = [] := (h4.flat (w' := w) (G := fun _ => True) hf).2
    refine ⟨by rw [e1, own_fcells hf h4]; rfl, by simp [e2, e4], fun y hy => ?_⟩
    rcases List.mem_cons.1 hy with rfl | hy
    · exact h4.wf
    · exact e3 y hy

theorem slAt_flat {w : World} {G : Nat → Prop} {t : Ty} (hf : t.flat = true) {xs : List t.den} {v : Value} (h : SlAt w G (RepC w G t) t.size xs v) :
    (∀ x ∈ xs, Wf t x) ∧ xs.length ≤ maxLen ∧ ((∃ ad, v = .slice ad 0 0 ∧ xs = []) ∨
      ∃ b off cap, v = .slice (some ⟨b, off, none⟩) xs.length cap ∧ xs.length ≤ cap ∧ cap ≤ maxLen ∧ G b ∧ ∀ j u, (fcs t xs)[j]? = some u → w.cell? ⟨b, off + j, none⟩ = some u) := by
  refine ⟨(wf_slAt (fun _ _ => RepC.wf) h).2, h.1, ?_⟩
  have hl := h.2
  obtain ⟨css, bss, hrow, hflat, hcase⟩ := SlAt.row h
  rcases hcase with ⟨ad, rfl, rfl⟩ | ⟨b', off, cap, rfl, hG, hcells⟩
  · exact .inl ⟨ad, rfl, rfl⟩
  · rcases hl with ⟨ad, e, rfl⟩ | ⟨b2, off2, cap2, e, h2, h3, h4, _⟩
    · simp only [Value.slice.injEq] at e
      obtain ⟨e1, e2, e3⟩ := e
      exact .inl ⟨some ⟨b', off, none⟩, by rw [e3]; rfl, rfl⟩
    · cases e
      refine .inr ⟨b', off, cap, rfl, h2, h3, hG, fun j u hj => hcells j u ?_⟩
      have hr : Row (OwnC w t) t.size xs css bss := hrow.mono fun y c b _ hh => by
        obtain ⟨g1, g2⟩ := hh
        subst g2
        exact g1.own hf
      rw [(row_fcells hf hr).1]
      exact hj


end Go.Am

/- The abstract machine, part 40: copy and clear at elements of many cells; slices.Delete and slices.Insert: from their runs to their contracts. -/
namespace Go.Am
set_option linter.unusedVariables false
set_option linter.unusedSimpArgs false
open Go.RowKit (Below)

section
variable {P : Program}

end

structure OwnAt (w : World) (t : Ty) (xs : List t.den) (b off cap : Nat) (cur : Array Value) (ty : TypeId) (fz : Nat × Nat) : Prop where
  wf : ∀ x ∈ xs, Wf t x
  len : xs.length ≤ cap
  capm : cap ≤ maxLen
  fit : off + cap * t.size ≤ cur.size
  blk : w.heap[b]? = some (.cells cur ty fz)
  free : FreeS t.size fz cur.size
  has : ∀ j u, (fcs t xs)[j]? = some u → cur[off + j]? = some u

theorem OwnAt.cell {w : World} {t : Ty} {xs : List t.den} {b off cap : Nat} {cur : Array Value} {ty : TypeId} {fz : Nat × Nat} (h : OwnAt w t xs b off cap cur ty fz) : ∀ j u, (fcs t xs)[j]? = some u → w.cell? ⟨b, off + j, none⟩ = some u := fun j u hj => by
  simp only [World.cell?, h.blk]
  exact h.has j u hj

theorem OwnAt.lt {w : World} {t : Ty} {xs : List t.den} {b off cap : Nat} {cur : Array Value} {ty : TypeId} {fz : Nat × Nat} (h : OwnAt w t xs b off cap cur ty fz) : b < w.heap.size := by
  rcases Nat.lt_or_ge b w.heap.size with h' | h'
  · exact h'
  · have := h.blk
    rw [Array.getElem?_eq_none h'] at this; cases this


end Go.Am

/- The abstract machine, part 41: slices.Insert of one element: from its runs to its contract. -/
namespace Go.Am
set_option linter.unusedVariables false
set_option linter.unusedSimpArgs false
open Go.RowKit (Below)

end Go.Am

/- The abstract machine, part 43: counts in a list. -/
namespace Go.Am
set_option linter.unusedVariables false

end Go.Am

/- The abstract machine, part 47: runs whose conditions are read off their proofs. -/
namespace Go.Am
set_option linter.unusedVariables false
set_option linter.unusedSimpArgs false

def runCN (o : Option (List Item × Env × Heap × List Prop)) : Option (List Item × Env × Heap) × Prop :=
  match o with
  | some (k, E, L, cs) => (some (k, E, L), All cs)
  | none => (none, True)

def runCF (o : Option (List Dyn × List (Option Lst) × List Prop)) : Option (List Dyn × List (Option Lst)) × Prop :=
  match o with
  | some (ds, us, cs) => (some (ds, us), All cs)
  | none => (none, True)

theorem a1 {p q : Prop} (x : p) (y : q) : p ∧ q := ⟨x, y⟩

section
variable {P : Program} {f : FuncId} {R : Ending → World → Prop} {n : Nat} {K : Ctx} {E : Env} {L : Heap}

theorem AtV.go {tab : List TI} {ext : Ext} (hT : TabOk P tab) (hX : ExtOk P ext) (hm : P.follows .mixedOrders = true) (wr : Bool) (stops : List Nat) {q : Nat → Value} {pins : List Nat} (nils : List (Nat × Ty)) (ks : List Nat) (rs : List Nat) (path : List Bool) {k k' : List Item} {E' : Env} {L' : Heap} {C : Prop}
    (hc : C) (hk : AtV P f R n K q pins k' E' L') (h : runCN (Am.runN tab ext wr n stops 2000 pins nils ks rs path k E L) = (some (k', E', L'), C)) : AtV P f R n K q pins k E L := by
  cases hr : Am.runN tab ext wr n stops 2000 pins nils ks rs path k E L with
  | none => rw [hr] at h; cases h
  | some y =>
    obtain ⟨k1, E1, L1, cs⟩ := y
    rw [hr] at h
    cases h
    exact AtV.runN hT hX hm hr hc hk

theorem AtV.ret {fn : Func} (hf : P.funcs[f]? = some fn) {tab : List TI} {ext : Ext} (hT : TabOk P tab) (hX : ExtOk P ext) (hm : P.follows .mixedOrders = true) (wr : Bool) (stops : List Nat) {q : Nat → Value} {pins : List Nat} {oks : List AT} {kds : List RK} (ts : List Ty) (path : List Bool) {k : List Item} {ds : List Dyn} {us : List (Option Lst)} {C : Prop}
    (hc : C) (h : runCF (runF tab ext wr n stops 2000 pins oks kds ts fn.results path k E L) = (some (ds, us), C)) : AtV P f (PostR kds oks ds us pins q K) n K q pins k E L := by
  cases hr : runF tab ext wr n stops 2000 pins oks kds ts fn.results path k E L with
  | none => rw [hr] at h; cases h
  | some y =>
    obtain ⟨d1, u1, cs⟩ := y
    rw [hr] at h
    cases h
    exact AtV.fin hf hT hX hm hr hc
end
end Go.Am

/- The types of this program, as the abstract machine reads them. -/
set_option linter.unusedVariables false
set_option linter.unusedSimpArgs false
set_option maxRecDepth 100000
namespace Go.Proofs.Ytdmpjjgimgmkmaa
open Go Go.Am Go.Proofs
def tab : List TI := [TI.other,
  TI.scal (Ty.fn),
  TI.scal (Ty.int IntKind.i64),
  TI.scal (Ty.int IntKind.i64),
  TI.scal (Ty.bool),
  TI.scal (Ty.int IntKind.u8),
  TI.scal (Ty.int IntKind.u8),
  TI.struct (Ty.cons (Ty.int IntKind.i64) (Ty.cons (Ty.int IntKind.i64) (Ty.cons Ty.bool (Ty.cons (Ty.int IntKind.u8) Ty.unit)))),
  TI.struct (Ty.cons (Ty.int IntKind.i64) (Ty.cons (Ty.int IntKind.i64) (Ty.cons Ty.bool (Ty.cons (Ty.int IntKind.u8) Ty.unit)))),
  TI.scal (Ty.str),
  TI.scal (Ty.str),
  TI.scal (Ty.str),
  TI.scal (Ty.int IntKind.u64),
  TI.other,
  TI.other,
  TI.other,
  TI.other,
  TI.other,
  TI.other,
  TI.other,
  TI.other,
  TI.scal (Ty.int IntKind.i32),
  TI.slice 9 (Ty.str) 16,
  TI.scal (Ty.fn),
  TI.slice 22 (Ty.sl Ty.str) 24,
  TI.other,
  TI.scal (Ty.fn),
  TI.scal (Ty.fn),
  TI.scal (Ty.fn),
  TI.scal (Ty.fn),
  TI.scal (Ty.fn),
  TI.scal (Ty.fn),
  TI.scal (Ty.fn),
  TI.scal (Ty.fn),
  TI.scal (Ty.fn),
  TI.scal (Ty.fn),
  TI.scal (Ty.fn),
  TI.scal (Ty.fn),
  TI.scal (Ty.fn),
  TI.scal (Ty.fn),
  TI.slice 5 (Ty.int IntKind.u8) 1,
  TI.scal (Ty.fn),
  TI.scal (Ty.fn),
  TI.scal (Ty.fn),
  TI.scal (Ty.fn),
  TI.scal (Ty.fn),
  TI.other,
  TI.other,
  TI.other,
  TI.other,
  TI.other,
  TI.scal (Ty.fn),
  TI.scal (Ty.int IntKind.u32),
  TI.scal (Ty.int IntKind.u8),
  TI.scal (Ty.int IntKind.u8),
  TI.scal (Ty.fn),
  TI.other,
  TI.scal (Ty.int IntKind.i32),
  TI.scal (Ty.int IntKind.i32)]

theorem tabOk : TabOk Try.prog tab := tabOk_of_check (by kernel_rfl)
theorem mixed : Try.prog.follows .mixedOrders = true := by kernel_rfl
theorem ginv (W : World) (h : W.ShapedOpen Try.prog)  : GInv W := trivial
end Go.Proofs.Ytdmpjjgimgmkmaa

/- Function 21 (laws.markText): its runs between cut points. Written by a program of this repo (gen). -/
set_option linter.unusedVariables false
set_option linter.unusedSimpArgs false
set_option maxRecDepth 100000
namespace Go.Proofs.Ytdmpjjgimgmkmaa
open Go Go.Am Go.Proofs
noncomputable section
def ext21 : Ext := []
theorem ext21Ok : ExtOk Try.prog ext21 := trivial

noncomputable def b21 : Code := bodyOf Try.f21
theorem hb21 : Try.f21.body = some b21 := by kernel_rfl
def sig21 : List AT := [AT.v (Ty.int IntKind.i64)]
def tys21 : List Ty := [Ty.str]
def kds21 : List RK := []
def oks21 : List AT := owns sig21
def E21_4 (v3 : ByteArray) (x0 : Int) : Env := [(0, PV.a (Atom.val (Value.int IntKind.i64 x0))), (3, PV.a (Atom.val (Value.string v3)))]
def L21_4 (v3 : ByteArray) (x0 : Int) : Heap := []
mutual
def R21 : Nat → Int → List Dyn → Prop
  | 0, _, _ => False
  | n + 1, x0, ds => (if (Decidable.decide (x0 ≤ 0)) = true then (ds = [Dyn.mk Ty.str (ByteArray.mk #[109, 48])]) else (R21_4 n (ByteArray.mk #[]) (x0) ds))
def R21_4 : Nat → ByteArray → Int → List Dyn → Prop
  | 0, _, _, _ => False
  | n + 1, v3, x0, ds => (if (Decidable.decide (x0 > 0)) = true then ((InR IntKind.i64 (Int.tmod x0 10)) ∧ ((InR IntKind.i64 (48 + Int.tmod x0 10)) ∧ ((InR IntKind.u8 (48 + Int.tmod x0 10)) ∧ ((ByteArray.size (bytesStr [48 + Int.tmod x0 10]) + ByteArray.size v3 ≤ 9223372036854775807) ∧ ((InR IntKind.i64 (Int.tdiv x0 10)) ∧ (R21_4 n (bytesStr [48 + Int.tmod x0 10] ++ v3) (Int.tdiv x0 10) ds)))))) else ((1 + ByteArray.size v3 ≤ 9223372036854775807) ∧ (ds = [Dyn.mk Ty.str (ByteArray.mk #[109] ++ v3)])))
end
theorem snd21 : ∀ n, (∀ (x0 : Int) ds, R21 n x0 ds → ∀ K q, AtV Try.prog 21 (PostR kds21 oks21 ds [] [] q K) 20 K q [] [.code b21] (entE 0 0 sig21 (x0, ())) (entL sig21 (x0, ()))) ∧ (∀ (v3 : ByteArray) (x0 : Int) ds, R21_4 n v3 x0 ds → ∀ K q, AtV Try.prog 21 (PostR kds21 oks21 ds [] [] q K) 20 K q [] (cutAt b21 4) (E21_4 v3 x0) (L21_4 v3 x0)) := by
  intro n
  induction n with
  | zero => exact ⟨fun _ _ h => by simp only [R21] at h, fun _ _ _ h => by simp only [R21_4] at h⟩
  | succ n ih =>
  obtain ⟨ih, ih4⟩ := ih
  refine ⟨?_, ?_⟩
  · intro x0 ds h K q
    rw [R21] at h
    by_cases b0 : (Decidable.decide (x0 ≤ 0)) = true
    · rw [if_pos b0] at h
      subst h
      exact AtV.ret Try.func21 tabOk ext21Ok mixed false [] tys21 [true] (a1 b0 trivial) (by kernel_rfl)
    · rw [if_neg b0] at h
      replace b0 := Bool.eq_false_iff.2 b0
      exact AtV.go tabOk ext21Ok mixed false [] [] [0, 3] [] [false] (a1 b0 trivial) (ih4 _ _ _ h K q) (by kernel_rfl)

  · intro v3 x0 ds h K q
    rw [R21_4] at h
    by_cases b0 : (Decidable.decide (x0 > 0)) = true
    · rw [if_pos b0] at h
      obtain ⟨s0, h⟩ := h
      obtain ⟨s1, h⟩ := h
      obtain ⟨s2, h⟩ := h
      obtain ⟨s3, h⟩ := h
      obtain ⟨s4, h⟩ := h
      exact AtV.go tabOk ext21Ok mixed false [] [] [0, 3] [] [true] (a1 b0 (a1 ((by decide) : (10 : Int) ≠ (0 : Int)) (a1 s0 (a1 s1 (a1 s2 (a1 s3 (a1 ((by decide) : (10 : Int) ≠ (0 : Int)) (a1 s4 trivial)))))))) (ih4 _ _ _ h K q) (by kernel_rfl)
    · rw [if_neg b0] at h
      replace b0 := Bool.eq_false_iff.2 b0
      obtain ⟨s0, h⟩ := h
      subst h
      exact AtV.ret Try.func21 tabOk ext21Ok mixed false [] tys21 [false] (a1 b0 (a1 s0 trivial)) (by kernel_rfl)



def loop21 : Nat → ByteArray → Int → ByteArray
  | 0, v, _ => v
  | n + 1, v, x => if 0 < x then loop21 n (bytesStr [48 + Int.tmod x 10] ++ v) (Int.tdiv x 10) else v

theorem run21 : ∀ (n : Nat) (v : ByteArray) (x : Int), x < 10 ^ n → InR .i64 x → v.size + n ≤ 1000 → R21_4 (n + 1) v x [⟨.str, ByteArray.mk #[109] ++ loop21 n v x⟩] := by
  intro n
  induction n with
  | zero =>
    intro v x h1 _ h2
    rw [R21_4, if_neg (by simp at h1 ⊢; omega)]
    exact ⟨by omega, rfl⟩
  | succ n ih =>
    intro v x h1 hi h2
    rw [i64_iff] at hi
    rw [R21_4]
    by_cases hx : 0 < x
    · rw [if_pos (by simpa using hx)]
      have e1 : Int.tmod x 10 = x % 10 := Int.tmod_eq_emod_of_nonneg (by omega)
      have e2 : Int.tdiv x 10 = x / 10 := Int.tdiv_eq_ediv_of_nonneg (by omega)
      have hs : (bytesStr [48 + Int.tmod x 10]).size = 1 := bytesStr_size _
      have hp : (10 : Int) ^ (n + 1) = 10 * 10 ^ n := by rw [Int.pow_succ, Int.mul_comm]
      refine ⟨by rw [i64_iff, e1]; omega, by rw [i64_iff, e1]; omega, by rw [u8_iff, e1]; omega, by rw [hs]; omega, by rw [i64_iff, e2]; omega, ?_⟩
      have := ih (bytesStr [48 + Int.tmod x 10] ++ v) (Int.tdiv x 10) (by rw [e2]; omega) (by rw [i64_iff, e2]; omega) (by rw [ByteArray.size_append, hs]; omega)
      simp only [loop21, if_pos hx]
      exact this
    · rw [if_neg (by simp; omega)]
      simp only [loop21, if_neg hx]
      exact ⟨by omega, trivial⟩

def g21_0 (x0 : Int) : ByteArray := if x0 ≤ 0 then ByteArray.mk #[109, 48] else ByteArray.mk #[109] ++ loop21 19 (ByteArray.mk #[]) x0
def P21 (x0 : Int) : Prop := True

theorem top21 (x0 : Int) (hi : InR .i64 x0) : R21 21 x0 [⟨.str, g21_0 x0⟩] := by
  rw [R21]
  unfold g21_0
  by_cases h : x0 ≤ 0
  · rw [if_pos (by simpa using h), if_pos h]
  · rw [if_neg (by simpa using h), if_neg h]
    have hi' := hi
    rw [i64_iff] at hi'
    exact run21 19 _ x0 (by omega) hi (by decide)

def S21 : Am.Spec := { sig := sig21, pre := fun ⟨x0, _⟩ => P21 x0, res := fun ⟨x0, _⟩ => [⟨.str, g21_0 x0⟩] }
theorem con21 : Contract Try.prog 21 S21 := contract_of Try.func21 hb21 (Nat.le_of_ble_eq_true (by kernel_rfl)) (fun ⟨x0, _⟩ h hwf K q =>
  (snd21 _).1 x0 _ (top21 x0 hwf.1) K q)

end
end Go.Proofs.Ytdmpjjgimgmkmaa

/- Function 22 (laws.heldStringS): its runs between cut points. Written by a program of this repo (gen). -/
set_option linter.unusedVariables false
set_option linter.unusedSimpArgs false
set_option maxRecDepth 100000
namespace Go.Proofs.Ytdmpjjgimgmkmaa
open Go Go.Am Go.Proofs
noncomputable section
def ext22 : Ext := [(21, S21)]
theorem call22_21 : Callable Try.prog 21 := ⟨Try.f21, Try.func21, by kernel_rfl, by kernel_rfl⟩
theorem ext22Ok : ExtOk Try.prog ext22 := ⟨⟨call22_21, con21⟩, trivial⟩

noncomputable def b22 : Code := bodyOf Try.f22
theorem hb22 : Try.f22.body = some b22 := by kernel_rfl
def sig22 : List AT := [AT.v (Ty.sl Ty.str), AT.v (Ty.int IntKind.i64)]
def tys22 : List Ty := [Ty.int IntKind.i64]
def kds22 : List RK := []
def oks22 : List AT := owns sig22
def E22_2 (v5 : Int) (x0 : List ByteArray) (x1 : Int) : Env := [(0, PV.a (Atom.sl Ty.str x0)), (1, PV.a (Atom.val (Value.int IntKind.i64 x1))), (5, PV.a (Atom.val (Value.int IntKind.i64 v5)))]
def L22_2 (v5 : Int) (x0 : List ByteArray) (x1 : Int) : Heap := []
mutual
def R22 : Nat → List ByteArray → Int → List Dyn → Prop
  | 0, _, _, _ => False
  | n + 1, x0, x1, ds => (R22_2 n (0) (x0) (x1) ds)
def R22_2 : Nat → Int → List ByteArray → Int → List Dyn → Prop
  | 0, _, _, _, _ => False
  | n + 1, v5, x0, x1, ds => (if (Decidable.decide (v5 < (↑(List.length x0) : Int))) = true then ((0 ≤ v5) ∧ (v5 < (↑(List.length x0) : Int)) ∧ (if (!ByteArray.toList (List.getD x0 (Int.toNat v5) ByteArray.empty) == ByteArray.toList (g21_0 x1)) = true then (ds = [Dyn.mk (Ty.int IntKind.i64) (-1)]) else ((InR IntKind.i64 (x1 + 1)) ∧ ((InR IntKind.i64 (v5 + 1)) ∧ (R22_2 n (v5 + 1) (x0) (x1 + 1) ds))))) else (ds = [Dyn.mk (Ty.int IntKind.i64) x1]))
end
theorem snd22 : ∀ n, (∀ (x0 : List ByteArray) (x1 : Int) ds, R22 n x0 x1 ds → ∀ K q, AtV Try.prog 22 (PostR kds22 oks22 ds [] [] q K) 22 K q [] [.code b22] (entE 0 0 sig22 (x0, x1, ())) (entL sig22 (x0, x1, ()))) ∧ (∀ (v5 : Int) (x0 : List ByteArray) (x1 : Int) ds, R22_2 n v5 x0 x1 ds → ∀ K q, AtV Try.prog 22 (PostR kds22 oks22 ds [] [] q K) 22 K q [] (cutAt b22 2) (E22_2 v5 x0 x1) (L22_2 v5 x0 x1)) := by
  intro n
  induction n with
  | zero => exact ⟨fun _ _ _ h => by simp only [R22] at h, fun _ _ _ _ h => by simp only [R22_2] at h⟩
  | succ n ih =>
  obtain ⟨ih, ih2⟩ := ih
  refine ⟨?_, ?_⟩
  · intro x0 x1 ds h K q
    rw [R22] at h
    exact AtV.go tabOk ext22Ok mixed false [] [] [0, 1, 5] [] [] trivial (ih2 _ _ _ _ h K q) (by kernel_rfl)

  · intro v5 x0 x1 ds h K q
    rw [R22_2] at h
    by_cases b0 : (Decidable.decide (v5 < (↑(List.length x0) : Int))) = true
    · rw [if_pos b0] at h
      obtain ⟨s0, s1, h⟩ := h
      by_cases b1 : (!ByteArray.toList (List.getD x0 (Int.toNat v5) ByteArray.empty) == ByteArray.toList (g21_0 x1)) = true
      · rw [if_pos b1] at h
        subst h
        exact AtV.ret Try.func22 tabOk ext22Ok mixed false [] tys22 [true, true] (a1 b0 (a1 s0 (a1 s1 (a1 trivial (a1 b1 trivial))))) (by kernel_rfl)
      · rw [if_neg b1] at h
        replace b1 := Bool.eq_false_iff.2 b1
        obtain ⟨s2, h⟩ := h
        obtain ⟨s3, h⟩ := h
        exact AtV.go tabOk ext22Ok mixed false [] [] [0, 1, 5] [] [true, false] (a1 b0 (a1 s0 (a1 s1 (a1 trivial (a1 b1 (a1 s2 (a1 s3 trivial))))))) (ih2 _ _ _ _ h K q) (by kernel_rfl)
    · rw [if_neg b0] at h
      replace b0 := Bool.eq_false_iff.2 b0
      subst h
      exact AtV.ret Try.func22 tabOk ext22Ok mixed false [] tys22 [false] (a1 b0 trivial) (by kernel_rfl)



theorem run22 (x0 : List ByteArray) (x1 : Int) (hm : x0.length ≤ maxLen) (h0 : 0 ≤ x1) (h1 : x1 + x0.length ≤ 9223372036854775807) (he : ∀ i : Nat, i < x0.length → x0.getD i ByteArray.empty = g21_0 (x1 + (i : Int))) : ∀ (k i : Nat), i + k = x0.length →
    R22_2 (k + 1) (i : Int) x0 (x1 + (i : Int)) [⟨.int .i64, x1 + (x0.length : Int)⟩] := by
  intro k
  induction k with
  | zero =>
    intro i hi
    rw [R22_2, if_neg (by simp; omega)]
    have : i = x0.length := by omega
    subst this
    rfl
  | succ k ih =>
    intro i hi
    rw [R22_2, if_pos (by simp; omega)]
    simp only [Int.toNat_natCast]
    have hb := (bytes_eq _ _).2 (he i (by omega))
    refine ⟨by omega, by omega, ?_⟩
    rw [if_neg (by rw [hb]; simp)]
    refine ⟨by rw [i64_iff]; omega, inR_up hm (by omega), ?_⟩
    rw [Int.add_assoc]
    exact ih (i + 1) (by omega)

def P22 (x0 : List ByteArray) (x1 : Int) : Prop := (0 ≤ x1 ∧ x1 + x0.length ≤ 9223372036854775807) ∧ ∀ i : Nat, i < x0.length → x0.getD i ByteArray.empty = g21_0 (x1 + (i : Int))
def g22_0 (x0 : List ByteArray) (x1 : Int) : Int := x1 + (x0.length : Int)

theorem top22 (x0 : List ByteArray) (x1 : Int) (hm : x0.length ≤ maxLen) (h : P22 x0 x1) : R22 (x0.length + 1 + 1) x0 x1 [⟨.int .i64, g22_0 x0 x1⟩] := by
  rw [R22]
  have := run22 x0 x1 hm h.1.1 h.1.2 h.2 x0.length 0 (by omega)
  simpa [g22_0] using this

def S22 : Am.Spec := { sig := sig22, pre := fun ⟨x0, x1, _⟩ => P22 x0 x1, res := fun ⟨x0, x1, _⟩ => [⟨.int .i64, g22_0 x0 x1⟩] }
theorem con22 : Contract Try.prog 22 S22 := contract_of Try.func22 hb22 (Nat.le_of_ble_eq_true (by kernel_rfl)) (fun ⟨x0, x1, _⟩ h hwf K q =>
  (snd22 _).1 x0 x1 _ (top22 x0 x1 hwf.1.1 h) K q)

end
end Go.Proofs.Ytdmpjjgimgmkmaa

/- Function 10 (laws.markStringS): its runs between cut points. Written by a program of this repo (gen). -/
set_option linter.unusedVariables false
set_option linter.unusedSimpArgs false
set_option maxRecDepth 100000
namespace Go.Proofs.Ytdmpjjgimgmkmaa
open Go Go.Am Go.Proofs
noncomputable section
def ext10 : Ext := [(21, S21)]
theorem call10_21 : Callable Try.prog 21 := ⟨Try.f21, Try.func21, by kernel_rfl, by kernel_rfl⟩
theorem ext10Ok : ExtOk Try.prog ext10 := ⟨⟨call10_21, con21⟩, trivial⟩

noncomputable def b10 : Code := bodyOf Try.f10
theorem hb10 : Try.f10.body = some b10 := by kernel_rfl
def sig10 : List AT := [AT.own Ty.str, AT.v (Ty.int IntKind.i64)]
def tys10 : List Ty := [Ty.int IntKind.i64]
def kds10 : List RK := []
def oks10 : List AT := owns sig10
def E10_2 (v5 : Int) (x1 : Int) (x0 : List ByteArray) : Env := [(0, PV.a (Atom.osl 0 Option.none)), (1, PV.a (Atom.val (Value.int IntKind.i64 x1))), (5, PV.a (Atom.val (Value.int IntKind.i64 v5)))]
def L10_2 (v5 : Int) (x1 : Int) (x0 : List ByteArray) : Heap := [Option.some (Arr.mk Ty.str x0 Bool.false Option.none Option.none)]
mutual
def R10 : Nat → List ByteArray → Int → List Dyn → List (Option Lst) → Prop
  | 0, _, _, _, _ => False
  | n + 1, x0, x1, ds, us => (R10_2 n (0) (x1) (x0) ds us)
def R10_2 : Nat → Int → Int → List ByteArray → List Dyn → List (Option Lst) → Prop
  | 0, _, _, _, _, _ => False
  | n + 1, v5, x1, x0, ds, us => (if (Decidable.decide (v5 < (↑(List.length x0) : Int))) = true then ((0 ≤ v5) ∧ (v5 < (↑(List.length x0) : Int)) ∧ ((InR IntKind.i64 (x1 + 1)) ∧ ((InR IntKind.i64 (v5 + 1)) ∧ (R10_2 n (v5 + 1) (x1 + 1) (List.set x0 (Int.toNat v5) (g21_0 x1)) ds us)))) else (ds = [Dyn.mk (Ty.int IntKind.i64) x1] ∧ us = [Option.some (Lst.mk Ty.str x0)]))
end
theorem snd10 : ∀ n, (∀ (x0 : List ByteArray) (x1 : Int) ds us, R10 n x0 x1 ds us → ∀ K q, AtV Try.prog 10 (PostR kds10 oks10 ds us [0] q K) 20 K q [0] [.code b10] (entE 0 0 sig10 (x0, x1, ())) (entL sig10 (x0, x1, ()))) ∧ (∀ (v5 : Int) (x1 : Int) (x0 : List ByteArray) ds us, R10_2 n v5 x1 x0 ds us → ∀ K q, AtV Try.prog 10 (PostR kds10 oks10 ds us [0] q K) 20 K q [0] (cutAt b10 2) (E10_2 v5 x1 x0) (L10_2 v5 x1 x0)) := by
  intro n
  induction n with
  | zero => exact ⟨fun _ _ _ _ h => by simp only [R10] at h, fun _ _ _ _ _ h => by simp only [R10_2] at h⟩
  | succ n ih =>
  obtain ⟨ih, ih2⟩ := ih
  refine ⟨?_, ?_⟩
  · intro x0 x1 ds us h K q
    rw [R10] at h
    exact AtV.go tabOk ext10Ok mixed false [] [] [0, 1, 5] [0] [] trivial (ih2 _ _ _ _ _ h K q) (by kernel_rfl)

  · intro v5 x1 x0 ds us h K q
    rw [R10_2] at h
    by_cases b0 : (Decidable.decide (v5 < (↑(List.length x0) : Int))) = true
    · rw [if_pos b0] at h
      obtain ⟨s0, s1, h⟩ := h
      obtain ⟨s2, h⟩ := h
      obtain ⟨s3, h⟩ := h
      exact AtV.go tabOk ext10Ok mixed false [] [] [0, 1, 5] [0] [true] (a1 b0 (a1 trivial (a1 s0 (a1 s1 (a1 s2 (a1 s3 trivial)))))) (ih2 _ _ _ _ _ h K q) (by kernel_rfl)
    · rw [if_neg b0] at h
      replace b0 := Bool.eq_false_iff.2 b0
      obtain ⟨h, h'⟩ := h; subst h; subst h'
      exact AtV.ret Try.func10 tabOk ext10Ok mixed false [] tys10 [false] (a1 b0 trivial) (by kernel_rfl)



def M10 (x1 : Int) (n : Nat) : List ByteArray := (List.range n).map fun (j : Nat) => g21_0 (x1 + (j : Int))

theorem M10_len (x1 : Int) (n : Nat) : (M10 x1 n).length = n := by simp [M10]

theorem M10_step (x1 : Int) (x0 : List ByteArray) (i : Nat) (h : i < x0.length) : (M10 x1 i ++ x0.drop i).set i (g21_0 (x1 + (i : Int))) = M10 x1 (i + 1) ++ x0.drop (i + 1) := by
  rw [List.set_append_right _ _ (by rw [M10_len]; exact Nat.le_refl _), M10_len, Nat.sub_self, List.drop_eq_getElem_cons h, List.set_cons_zero]
  simp [M10, List.range_succ]

theorem run10 (x0 : List ByteArray) (x1 : Int) (hm : x0.length ≤ maxLen) (h0 : 0 ≤ x1) (h1 : x1 + x0.length ≤ 9223372036854775807) : ∀ (k i : Nat), i + k = x0.length →
    R10_2 (k + 1) (i : Int) (x1 + (i : Int)) (M10 x1 i ++ x0.drop i) [⟨.int .i64, x1 + (x0.length : Int)⟩] [some ⟨.str, M10 x1 x0.length⟩] := by
  intro k
  induction k with
  | zero =>
    intro i hi
    have hl : (M10 x1 i ++ x0.drop i).length = x0.length := by simp [M10_len]; omega
    rw [R10_2, if_neg (by rw [hl]; simp; omega), drop_end x0 i (by omega), List.append_nil]
    have : i = x0.length := by omega
    subst this
    exact ⟨rfl, rfl⟩
  | succ k ih =>
    intro i hi
    have hl : (M10 x1 i ++ x0.drop i).length = x0.length := by simp [M10_len]; omega
    rw [R10_2, if_pos (by rw [hl]; simp; omega), hl]
    simp only [Int.toNat_natCast]
    refine ⟨by omega, by omega, by rw [i64_iff]; omega, inR_up hm (by omega), ?_⟩
    rw [M10_step x1 x0 i (by omega), Int.add_assoc]
    exact ih (i + 1) (by omega)

def P10 (x0 : List ByteArray) (x1 : Int) : Prop := 0 ≤ x1 ∧ x1 + x0.length ≤ 9223372036854775807
def g10_0 (x0 : List ByteArray) (x1 : Int) : Int := x1 + (x0.length : Int)
def u10_0 (x0 : List ByteArray) (x1 : Int) : List ByteArray := M10 x1 x0.length

theorem top10 (x0 : List ByteArray) (x1 : Int) (hm : x0.length ≤ maxLen) (h : P10 x0 x1) : R10 (x0.length + 1 + 1) x0 x1 [⟨.int .i64, g10_0 x0 x1⟩] [some ⟨.str, u10_0 x0 x1⟩] := by
  rw [R10]
  have := run10 x0 x1 hm h.1 h.2 x0.length 0 (by omega)
  simpa [M10, g10_0, u10_0] using this

def S10 : Am.Spec := { sig := sig10, pre := fun ⟨x0, x1, _⟩ => P10 x0 x1, upd := fun ⟨x0, x1, _⟩ => [some ⟨.str, u10_0 x0 x1⟩], res := fun ⟨x0, x1, _⟩ => [⟨.int .i64, g10_0 x0 x1⟩] }
theorem con10 : Contract Try.prog 10 S10 := contract_of Try.func10 hb10 (Nat.le_of_ble_eq_true (by kernel_rfl)) (fun ⟨x0, x1, _⟩ h hwf K q =>
  (snd10 _).1 x0 x1 _ _ (top10 x0 x1 hwf.1.1 h) K q)

end
end Go.Proofs.Ytdmpjjgimgmkmaa

/- Function 11 (laws.markStringSS): its contract; by the kit's walk, the callee by its contract. -/
set_option linter.unusedVariables false
set_option linter.unusedSimpArgs false
set_option maxRecDepth 100000
namespace Go.Proofs.Ytdmpjjgimgmkmaa
open Go Go.Am Go.Proofs Go.RowKit

theorem mk11 (W : World) (xs : List ByteArray) (v : Value) (bs : List Nat) (kk : Int) (hgo : GOk W bs) (hp : P10 xs kk) (hi : InR .i64 kk) (hn : bs.Nodup) (ho : OwnSl W (OwnC W .str) 1 xs v bs) :
    Calls Try.prog 10 #[v, .int .i64 kk] W fun e w' => ∃ b', e = .returned (.int .i64 (kk + (xs.length : Int))) ∧ Kept bs W w' ∧ OwnSl w' (OwnC w' .str) 1 (u10_0 xs kk) v b' ∧ b'.Nodup ∧ ∀ q ∈ b', (q ∈ bs ∨ W.heap.size ≤ q) ∧ q < w'.heap.size := by
  have e1 : ([bs, []] : List (List Nat)).flatten = bs := by simp
  refine (con10 W (Am.Good W ([bs, []] : List (List Nat)).flatten) (Am.Good W ([bs, []] : List (List Nat)).flatten) (xs, kk, ()) [v, .int .i64 kk] [bs, []] (by rw [e1]; exact hgo) (fun _ h => h) (fun _ h => h) hp ⟨v, _, _, _, rfl, rfl, ⟨v, rfl, ho⟩, _, _, _, _, rfl, rfl, ⟨rfl, rfl, hi⟩, rfl, rfl⟩ (by rw [e1]; exact hn)).mono ?_
  rintro e w' ⟨rs, ubs, rbs, F, rfl, hk, ⟨u, s, b1, bs1, rfl, rfl, ⟨cs, ho, hv'⟩, rfl, rfl⟩, ⟨v2, s2, b2, bs2, hvs, rfl, hu, rfl, rfl⟩, hnd, hgd, _⟩
  obtain ⟨ho, _, rfl⟩ := ho
  have hv' : cs = [u] := hv'
  rw [ho] at hv'
  cases hv'
  rw [e1] at hk hgd
  have hvs : [v] = [v2] := hvs
  cases hvs
  have hlt := OwnC.lt (t := .sl .str) hu
  obtain ⟨u', hc', ho'⟩ := hu
  cases hc'
  refine ⟨b2, rfl, hk, ho', by simpa using hnd, fun q hq => ⟨?_, hlt q hq⟩⟩
  have hg := hgd q (by simpa using hq)
  by_cases hqb : q ∈ bs
  · exact .inl hqb
  · rcases Nat.lt_or_ge q W.heap.size with h | h
    · exact absurd ⟨h, hqb⟩ hg
    · exact .inr h

def tot11 : List (List ByteArray) → Nat
  | [] => 0
  | x :: r => x.length + tot11 r

theorem tot11_take (xs : List (List ByteArray)) : ∀ k, k < xs.length → tot11 (xs.take (k + 1)) = tot11 (xs.take k) + (xs.getD k []).length := by
  induction xs with
  | nil => intro k hk; simp at hk
  | cons x r ih =>
    intro k hk
    cases k with
    | zero => simp [tot11]
    | succ k =>
      have := ih k (by simpa using hk)
      simp only [List.take_succ_cons, tot11, this, List.getD_cons_succ]
      omega

theorem tot11_le (xs : List (List ByteArray)) : ∀ k, tot11 (xs.take k) ≤ tot11 xs := by
  induction xs with
  | nil => intro k; simp [tot11]
  | cons x r ih =>
    intro k
    cases k with
    | zero => simp [tot11]
    | succ k =>
      have := ih k
      simp only [List.take_succ_cons, tot11]
      omega

def mm11 : Int → List (List ByteArray) → List (List ByteArray)
  | _, [] => []
  | k, x :: r => u10_0 x k :: mm11 (k + (x.length : Int)) r

theorem mm11_len : ∀ (xs : List (List ByteArray)) (k : Int), (mm11 k xs).length = xs.length
  | [], _ => rfl
  | x :: r, k => by simp [mm11, mm11_len r]

theorem mm11_get : ∀ (xs : List (List ByteArray)) (k : Int) (j : Nat), j < xs.length → (mm11 k xs).getD j [] = u10_0 (xs.getD j []) (k + (tot11 (xs.take j) : Nat))
  | [], _, j, h => by simp at h
  | x :: r, k, 0, h => by simp [mm11, tot11]
  | x :: r, k, j + 1, h => by
    have := mm11_get r (k + (x.length : Int)) j (by simpa using h)
    simp only [mm11, List.getD_cons_succ, List.take_succ_cons, tot11]
    rw [this]
    congr 1
    omega

structure In11 (w wr : World) (xs : List (List ByteArray)) (k0 : Int) (b off : Nat) (bss : List (List Nat)) (k : Nat) (bd : List (List Nat)) : Prop where
  kept : Kept (b :: bss.flatten) w wr
  same : ∀ q, q ∈ b :: (bss.drop k).flatten → wr.heap[q]? = w.heap[q]?
  len : bd.length = k
  el : ∀ j bi, bd[j]? = some bi → ∃ v, w.cell? ⟨b, off + j, none⟩ = some v ∧ OwnSl wr (OwnC wr .str) 1 ((mm11 k0 xs).getD j []) v bi
  nod : (b :: (bd.flatten ++ (bss.drop k).flatten)).Nodup
  lt : ∀ q ∈ bd.flatten, (q ∈ bss.flatten ∨ w.heap.size ≤ q) ∧ q < wr.heap.size

theorem In11.step {w wr w2 : World} {xs : List (List ByteArray)} {k0 : Int} {b off : Nat} {bss : List (List Nat)} {k : Nat} {bd : List (List Nat)} (h : In11 w wr xs k0 b off bss k bd) (hkl : k < bss.length) (hn : (b :: bss.flatten).Nodup) (hlt : ∀ q ∈ b :: bss.flatten, q < w.heap.size) (hk : Kept (bss.getD k []) wr w2)
    {v : Value} {b' : List Nat} (hv : w.cell? ⟨b, off + k, none⟩ = some v) (ho : OwnSl w2 (OwnC w2 .str) 1 ((mm11 k0 xs).getD k []) v b') (hn' : b'.Nodup) (hb' : ∀ q ∈ b', (q ∈ bss.getD k [] ∨ wr.heap.size ≤ q) ∧ q < w2.heap.size) : In11 w w2 xs k0 b off bss (k + 1) (bd ++ [b']) := by
  have hd : bss.drop k = bss.getD k [] :: bss.drop (k + 1) := drop_get bss k [] hkl
  have hsub : ∀ q, q ∈ (bss.drop k).flatten → q ∈ bss.flatten := fun q hq => by
    obtain ⟨l, hl, hq⟩ := List.mem_flatten.1 hq
    exact List.mem_flatten.2 ⟨l, List.mem_of_mem_drop hl, hq⟩
  have hnod := h.nod
  rw [hd, List.flatten_cons] at hnod hsub
  have h1 : ∀ q ∈ bss.getD k [], q ∈ b :: bss.flatten := fun q hq => List.mem_cons_of_mem _ (hsub q (List.mem_append_left _ hq))
  have hkb : ∀ q ∈ bss.getD k [], q ∈ bss.flatten := fun q hq => hsub q (List.mem_append_left _ hq)
  obtain ⟨n1, n2⟩ := List.nodup_cons.1 hnod
  obtain ⟨n3, n4, n5⟩ := List.nodup_append.1 n2
  obtain ⟨n6, n7, n8⟩ := List.nodup_append.1 n4
  have hws := h.kept.size
  refine ⟨h.kept.trans (hk.mono h1), fun q hq => ?_, by simp [h.len], fun j bi hj => ?_, ?_, fun q hq => ?_⟩
  · have hq2 : q ∈ b :: (bss.drop k).flatten := by
      rw [hd, List.flatten_cons]
      rcases List.mem_cons.1 hq with rfl | hq
      · exact List.mem_cons_self ..
      · exact List.mem_cons_of_mem _ (List.mem_append_right _ hq)
    have hq3 : q ∈ b :: bss.flatten := by
      rcases List.mem_cons.1 hq with rfl | hq
      · exact List.mem_cons_self ..
      · exact List.mem_cons_of_mem _ (hsub q (List.mem_append_right _ hq))
    have hno : q ∉ bss.getD k [] := fun hin => by
      rcases List.mem_cons.1 hq with rfl | hq
      · exact (List.nodup_cons.1 hn).1 (hkb _ hin)
      · exact n8 q hin q hq rfl
    rw [hk.block q (Nat.lt_of_lt_of_le (hlt q hq3) hws) hno]
    exact h.same q hq2
  · by_cases hjk : j < k
    · rw [List.getElem?_append_left (by rw [h.len]; exact hjk)] at hj
      obtain ⟨u, hu, ho'⟩ := h.el j bi hj
      have hs : ∀ q ∈ bi, w2.heap[q]? = wr.heap[q]? := fun q hq => by
        have hm : q ∈ bd.flatten := List.mem_flatten.2 ⟨_, List.mem_of_getElem? hj, hq⟩
        exact hk.block q (h.lt q hm).2 fun hin => n5 q hm q (List.mem_append_left _ hin) rfl
      exact ⟨u, hu, ho'.keep (fun x cs bi hs' hx => OwnC.keep (fun q hq => hs q (hs' q hq)) hx) hs⟩
    · have hjk2 : j = k := by
        have := (List.getElem?_eq_some_iff.1 hj).1
        simp [h.len] at this
        omega
      subst hjk2
      rw [List.getElem?_append_right (by rw [h.len]; exact Nat.le_refl _), h.len] at hj
      simp at hj
      subst hj
      exact ⟨v, hv, ho⟩
  · have hfr : ∀ q ∈ b', q ∈ bss.getD k [] ∨ (q ∉ b :: bss.flatten ∧ q ∉ bd.flatten) := fun q hq => by
      rcases (hb' q hq).1 with h2 | h2
      · exact .inl h2
      · refine .inr ⟨fun hin => ?_, fun hin => ?_⟩
        · have := hlt q hin; omega
        · have := (h.lt q hin).2; omega
    rw [List.flatten_append]
    refine List.nodup_cons.2 ⟨fun hin => ?_, List.nodup_append.2 ⟨List.nodup_append.2 ⟨n3, by simpa using hn', fun a ha c hc => ?_⟩, n7, fun a ha c hc => ?_⟩⟩
    · rcases List.mem_append.1 hin with hin | hin
      · rcases List.mem_append.1 hin with hin | hin
        · exact n1 (List.mem_append_left _ hin)
        · rcases hfr b (by simpa using hin) with h2 | h2
          · exact n1 (List.mem_append_right _ (List.mem_append_left _ h2))
          · exact h2.1 (List.mem_cons_self ..)
      · exact n1 (List.mem_append_right _ (List.mem_append_right _ hin))
    · rcases hfr c (by simpa using hc) with h2 | h2
      · exact n5 a ha c (List.mem_append_left _ h2)
      · exact fun e => h2.2 (e ▸ ha)
    · rcases List.mem_append.1 ha with ha | ha
      · exact n5 a ha c (List.mem_append_right _ hc)
      · rcases hfr a (by simpa using ha) with h2 | h2
        · exact n8 a h2 c hc
        · exact fun e => h2.1 (List.mem_cons_of_mem _ (hsub a (List.mem_append_right _ (e ▸ hc))))
  · rw [List.flatten_append] at hq
    have hk2 := hk.size
    rcases List.mem_append.1 hq with hq | hq
    · have := h.lt q hq
      exact ⟨this.1, by omega⟩
    · obtain ⟨h2, h3⟩ := hb' q (by simpa using hq)
      refine ⟨?_, h3⟩
      rcases h2 with h2 | h2
      · exact .inl (hkb q h2)
      · exact .inr (by omega)

theorem gok11 {w W : World} {O O' : List Nat} (h : GOk w O) (hk : Kept O w W) (hs : ∀ q ∈ O', q ∈ O) : GOk W O' where
  inv := h.inv.keep fun q hq hs' => hk.block q hs' fun hin => by have := h.out q hin; omega
  size := Nat.le_trans h.size hk.size
  out := fun q hq => h.out q (hs q hq)

set_option maxHeartbeats 4000000 in
theorem walk11 (w : World) (ad0 : Option Addr) (cap b : Nat) (xs : List (List ByteArray)) (bss : List (List Nat)) (k0 : Int) (hgo : GOk w (b :: bss.flatten)) (hm : xs.length ≤ maxLen) (hcap : xs.length ≤ cap)
    (hk0 : 0 ≤ k0) (hk1 : k0 + tot11 xs ≤ 9223372036854775807) (hl : bss.length = xs.length) (hn : (b :: bss.flatten).Nodup) (hlt : ∀ q ∈ b :: bss.flatten, q < w.heap.size)
    (off : Nat) (had : ad0 = some ⟨b, off, none⟩) (hv : ∀ k, k < xs.length → ∃ ad l c, w.cell? ⟨b, off + k, none⟩ = some (.slice ad l c) ∧ OwnSl w (OwnC w .str) 1 (xs.getD k []) (.slice ad l c) (bss.getD k [])) :
    Calls Try.prog 11 #[.slice ad0 xs.length cap, .int .i64 k0] w fun e w' => e = .returned (.int .i64 (k0 + (tot11 xs : Nat))) ∧ ∃ bd, In11 w w' xs k0 b off bss xs.length bd := by
  subst had
  have mixed := mixed
  have HV : Aside (∀ k, k < xs.length → ∃ ad l c, w.cell? ⟨b, off + k, none⟩ = some (.slice ad l c) ∧ OwnSl w (OwnC w .str) 1 (xs.getD k []) (.slice ad l c) (bss.getD k [])) := hv
  have HL : Aside (∀ q ∈ b :: bss.flatten, q < w.heap.size) := hlt
  have HN : Aside (b :: bss.flatten).Nodup := hn
  have HGO : Aside (GOk w (b :: bss.flatten)) := hgo
  have hlm : xs.length ≤ 9223372036854775807 := hm
  clear hv hlt hn hgo
  go_enter Try.func11, Try.ntmps11
  go_wp2
  go_loopw [5, 1] (fun i s wr => ∃ k : Nat, k ≤ xs.length ∧ i = .int .i64 (k : Nat) ∧ s = .int .i64 (k0 + (tot11 (xs.take k) : Nat)) ∧ ∃ bd, In11 w wr xs k0 b off bss k bd) (fun i _ _ => xs.length - (intOf i).toNat)
  case atStart => exact ⟨0, Nat.zero_le _, rfl, by simp [tot11], [], Kept.refl _ _, fun q hq => rfl, rfl, fun j bi hj => by simp at hj, HN.out, fun q hq => by simp at hq⟩
  case round =>
    obtain ⟨k, hk, rfl, rfl, bd, hin⟩ := hrel
    have HIN : Aside (In11 w wr xs k0 b off bss k bd) := hin
    clear hin
    by_cases hlt : k < xs.length
    · obtain ⟨ad, l, c, q1, q2⟩ := HV.out k hlt
      have HV1 : Aside (w.cell? ⟨b, off + k, none⟩ = some (.slice ad l c)) := q1
      have HU := mm11_get xs k0 k hlt
      have htk := tot11_take xs k hlt
      have htl := tot11_le xs (k + 1)
      have hd : bss.drop k = bss.getD k [] :: bss.drop (k + 1) := drop_get bss k [] (by omega)
      have hsb : ∀ q ∈ bss.getD k [], wr.heap[q]? = w.heap[q]? := fun q hq => HIN.out.same q (List.mem_cons_of_mem _ (by rw [hd, List.flatten_cons]; exact List.mem_append_left _ hq))
      have hmem : ∀ q ∈ bss.getD k [], q ∈ b :: bss.flatten := fun q hq => List.mem_cons_of_mem _ (List.mem_flatten.2 ⟨_, mem_getD bss k [] (by omega), hq⟩)
      have hb : wr.heap[b]? = w.heap[b]? := HIN.out.same b (List.mem_cons_self ..)
      have p1 : wr.cell? ⟨b, off + k, none⟩ = some (.slice ad l c) := (World.cell?_of_block hb).trans q1
      have Q2 : Aside (OwnSl wr (OwnC wr .str) 1 (xs.getD k []) (.slice ad l c) (bss.getD k [])) := q2.keep (fun x cs bi hs hx => OwnC.keep (fun q hq => hsb q (hs q hq)) hx) hsb
      have HG : Aside (GOk wr (bss.getD k [])) := gok11 HGO.out HIN.out.kept hmem
      have HNk : Aside (bss.getD k []).Nodup := by
        have h1 := (List.nodup_cons.1 HN.out).2
        exact h1.sublist (List.sublist_flatten_of_mem (mem_getD bss k [] (by omega)))
      have HS : Aside (∀ w2 b', Kept (bss.getD k []) wr w2 → OwnSl w2 (OwnC w2 .str) 1 (u10_0 (xs.getD k []) (k0 + (tot11 (xs.take k) : Nat))) (.slice ad l c) b' → b'.Nodup → (∀ q ∈ b', (q ∈ bss.getD k [] ∨ wr.heap.size ≤ q) ∧ q < w2.heap.size) → In11 w w2 xs k0 b off bss (k + 1) (bd ++ [b'])) := fun w2 b' h ho hn' hb' =>
        HIN.out.step (by omega) HN.out HL.out h HV1.out (HU ▸ ho) hn' hb'
      have hbr : b < wr.heap.size := Nat.lt_of_lt_of_le (HL.out b (List.mem_cons_self ..)) HIN.out.kept.size
      have HT : Aside (tot11 (xs.take (k + 1)) = tot11 (xs.take k) + (xs.getD k []).length) := htk
      have ht2 : tot11 (xs.take k) + (xs.getD k []).length ≤ tot11 xs := by omega
      clear q1 q2 HU hd hsb hmem hb htk htl
      generalize xs.getD k [] = X at *
      generalize bss.getD k [] = B at *
      generalize tot11 (xs.take k) = T at *
      have hPk : P10 X (k0 + (T : Nat)) := ⟨by omega, by omega⟩
      have HPk : Aside (P10 X (k0 + (T : Nat))) := hPk
      clear hPk
      have hir : InR .i64 (k0 + (T : Nat)) := by rw [i64_iff]; omega
      go_wp2_with (go_at_call 10; refine (mk11 wr X _ B _ HG.out HPk.out hir HNk.out Q2.out).mono ?_; rintro e w2 ⟨b', rfl, k2, o2, n2, l2⟩; have HI2 : Aside (In11 w w2 xs k0 b off bss (k + 1) (bd ++ [b'])) := HS.out w2 b' k2 o2 n2 l2; clear o2 n2 l2)
      refine ⟨⟨k + 1, by omega, by simp, ?_, _, HI2.out⟩, by simp [intOf]; omega⟩
      rw [HT.out]
      simp
      omega
    · have hkn : k = xs.length := by omega
      subst hkn
      go_wp2
      go_ret
      refine ⟨?_, bd, HIN.out⟩
      rw [List.take_length]
      rfl

set_option maxHeartbeats 4000000 in
theorem walk011 (w : World) (ad0 : Option Addr) (k0 : Int) :
    Calls Try.prog 11 #[.slice ad0 0 0, .int .i64 k0] w fun e w' => e = .returned (.int .i64 (k0 + (tot11 [] : Nat))) ∧ Kept [] w w' := by
  have mixed := mixed
  rw [show k0 + (tot11 [] : Nat) = k0 by simp [tot11]]
  go_enter Try.func11, Try.ntmps11
  go_wp2
  go_loopw [5, 1] (fun i s wr => i = .int .i64 0 ∧ s = .int .i64 k0 ∧ Kept [] w wr) (fun i _ _ => 0)
  case atStart => exact ⟨rfl, rfl, Kept.refl _ _⟩
  case round =>
    obtain ⟨rfl, rfl, hin⟩ := hrel
    go_wp2
    go_ret
    exact ⟨rfl, hin⟩

def sig11 : List AT := [AT.own (Ty.sl Ty.str), AT.v (Ty.int .i64)]
def u11_0 (x0 : List (List ByteArray)) (x1 : Int) : List (List ByteArray) := mm11 x1 x0
def g11_0 (x0 : List (List ByteArray)) (x1 : Int) : Int := x1 + (tot11 x0 : Nat)
def P11 (x0 : List (List ByteArray)) (x1 : Int) : Prop := 0 ≤ x1 ∧ x1 + (tot11 x0 : Nat) ≤ 9223372036854775807
def S11 : Am.Spec := { sig := sig11, pre := fun ⟨x0, x1, _⟩ => P11 x0 x1, upd := fun ⟨x0, x1, _⟩ => [some ⟨.sl .str, u11_0 x0 x1⟩], res := fun ⟨x0, x1, _⟩ => [⟨Ty.int .i64, g11_0 x0 x1⟩] }

theorem rng11 (x1 : Int) (n : Nat) (h1 : 0 ≤ x1) (h2 : x1 + (n : Nat) ≤ 9223372036854775807) : InR .i64 (x1 + (n : Nat)) := by rw [i64_iff]; omega

theorem done11 {w w' : World} {xs : List (List ByteArray)} {k0 : Int} {b off cap : Nat} {bss bd : List (List Nat)} {cur : Array Value} {ty : TypeId} {fz : Nat × Nat} (h : In11 w w' xs k0 b off bss xs.length bd) (hm : xs.length ≤ maxLen) (h3 : xs.length ≤ cap) (h4 : cap ≤ maxLen) (h5 : off + cap * 1 ≤ cur.size)
    (h6 : w.heap[b]? = some (.cells cur ty fz)) (h7 : FreeS 1 fz cur.size) : OwnC w' (.sl (.sl .str)) (mm11 k0 xs) [.slice (some ⟨b, off, none⟩) xs.length cap] (b :: bd.flatten) ∧ (b :: bd.flatten).Nodup := by
  have hl := mm11_len xs k0
  refine ⟨⟨_, rfl, by rw [hl]; exact hm, .inr ⟨b, off, cap, cur, ty, fz, bd, by rw [hl], by rw [hl]; exact h3, h4, h5, by rw [h.same b (List.mem_cons_self ..)]; exact h6, h7, by rw [hl]; exact h.len, rfl, fun i x bi hx hbi => ?_⟩⟩, ?_⟩
  · obtain ⟨v, hv, ho⟩ := h.el i bi hbi
    have hxe : (mm11 k0 xs).getD i [] = x := by rw [List.getD_eq_getElem?_getD, hx]; rfl
    rw [hxe] at ho
    refine ⟨[v], rfl, fun j c hj => ?_, v, rfl, ho⟩
    have hj0 : j = 0 := by have := (List.getElem?_eq_some_iff.1 hj).1; simp at this; omega
    subst hj0
    simp at hj
    subst hj
    show cur[off + i * 1 + 0]? = some v
    rw [show off + i * 1 + 0 = off + i by omega]
    simpa [World.cell?, h6] using hv
  · have := h.nod
    obtain ⟨n1, n2⟩ := List.nodup_cons.1 this
    exact List.nodup_cons.2 ⟨fun hin => n1 (List.mem_append_left _ hin), (List.nodup_append.1 n2).1⟩

theorem con11 : Contract Try.prog 11 S11 := by
  intro w G G0 ⟨x0, x1, u⟩ vs bss hgo hG hG0 hp ha hnd
  obtain ⟨v, s, b, bs, rfl, rfl, ho, v1, s1, b1, bs1, rfl, rfl, ⟨rfl, h1⟩, rfl, rfl⟩ := ha
  obtain ⟨p1, p2⟩ : 0 ≤ x1 ∧ x1 + (tot11 x0 : Nat) ≤ 9223372036854775807 := hp
  obtain ⟨v', hv', ho⟩ : OwnC w (.sl (.sl .str)) x0 [v] b := ho
  cases hv'
  obtain ⟨rfl, hi1⟩ : v1 = .int .i64 x1 ∧ InR .i64 x1 := h1
  have e1 : ([b, []] : List (List Nat)).flatten = b := by simp
  rw [e1] at hgo hnd
  have fin : ∀ e w' b', e = Ending.returned (.int .i64 (x1 + (tot11 x0 : Nat))) → Kept b w w' → OwnC w' (.sl (.sl .str)) (mm11 x1 x0) [v] b' → b'.Nodup → (∀ q ∈ b', q ∈ b ∨ w.heap.size ≤ q) → PostC w ([b, []] : List (List Nat)).flatten G G0 [] [⟨Ty.int .i64, g11_0 x0 x1⟩] (owns sig11) [some ⟨.sl .str, u11_0 x0 x1⟩] (ownVals sig11 [v, .int .i64 x1]) e w' := by
    rintro e w' b' rfl hk ho' hn' hs'
    refine ⟨[.int .i64 (x1 + (tot11 x0 : Nat))], [b'], [[]], fun _ => False, rfl, by rw [e1]; exact hk, ⟨_, _, _, _, rfl, rfl, ⟨_, ⟨rfl, ?_, rfl⟩, rfl⟩, rfl, rfl⟩, ⟨v, [], b', [], rfl, rfl, ho', rfl, rfl⟩, by simpa using hn', fun q hq hg => ?_, fun b hb => hb.elim⟩
    · exact rng11 _ _ p1 p2
    · rw [e1] at hg
      rcases hs' q (by simpa using hq) with h | h
      · exact hg.2 h
      · have := hg.1; omega
  rcases ho.2 with ⟨ad, rfl, rfl, rfl⟩ | ⟨b0, off, cap, cur, ty, fz, bss, rfl, h3, h4, h5, h6, h7, h8, rfl, h9⟩
  · refine (walk011 w ad x1).mono ?_
    rintro e w' ⟨rfl, hk⟩
    exact fin _ w' [] rfl hk ⟨_, rfl, by simp [mm11], .inl ⟨_, rfl, rfl, rfl⟩⟩ List.nodup_nil (fun q hq => by cases hq)
  · have hlt := OwnC.lt (t := .sl (.sl .str)) ⟨_, rfl, ho⟩
    refine (walk11 w _ cap b0 x0 bss x1 hgo ho.1 h3 p1 p2 h8 hnd hlt off rfl (fun k hk => ?_)).mono ?_
    · have hg : x0[k]? = some (x0.getD k []) := by rw [List.getD_eq_getElem?_getD, List.getElem?_eq_getElem hk]; rfl
      have hb : bss[k]? = some (bss.getD k []) := by rw [List.getD_eq_getElem?_getD, List.getElem?_eq_getElem (by omega)]; rfl
      obtain ⟨cs, c1, c2, v', rfl, hs⟩ := h9 k _ _ hg hb
      have c0 : cur[off + k * 1 + 0]? = some v' := c2 0 v' rfl
      have c3 : w.cell? ⟨b0, off + k, none⟩ = some v' := by
        rw [show off + k * 1 + 0 = off + k by omega] at c0
        simpa [World.cell?, h6] using c0
      rcases hs.2 with ⟨ad, rfl, _⟩ | ⟨b', off', cap', _, _, _, _, rfl, _⟩
      · exact ⟨_, _, _, c3, hs⟩
      · exact ⟨_, _, _, c3, hs⟩
    · rintro e w' ⟨rfl, bd, hin⟩
      obtain ⟨d1, d2⟩ := done11 hin ho.1 h3 h4 h5 h6 h7
      refine fin _ w' _ rfl hin.kept d1 d2 (fun q hq => ?_)
      rcases List.mem_cons.1 hq with rfl | hq
      · exact .inl (List.mem_cons_self ..)
      · rcases (hin.lt q hq).1 with h | h
        · exact .inl (List.mem_cons_of_mem _ h)
        · exact .inr h
end Go.Proofs.Ytdmpjjgimgmkmaa

/- Function 12 (laws.heldStringSS): its runs between cut points. Written by a program of this repo (gen). -/
set_option linter.unusedVariables false
set_option linter.unusedSimpArgs false
set_option maxRecDepth 100000
namespace Go.Proofs.Ytdmpjjgimgmkmaa
open Go Go.Am Go.Proofs
noncomputable section
def ext12 : Ext := [(22, S22)]
theorem call12_22 : Callable Try.prog 22 := ⟨Try.f22, Try.func22, by kernel_rfl, by kernel_rfl⟩
theorem ext12Ok : ExtOk Try.prog ext12 := ⟨⟨call12_22, con22⟩, trivial⟩

noncomputable def b12 : Code := bodyOf Try.f12
theorem hb12 : Try.f12.body = some b12 := by kernel_rfl
def sig12 : List AT := [AT.v (Ty.sl (Ty.sl Ty.str)), AT.v (Ty.int IntKind.i64)]
def tys12 : List Ty := [Ty.int IntKind.i64]
def kds12 : List RK := []
def oks12 : List AT := owns sig12
def E12_2 (v5 : Int) (x0 : List (List ByteArray)) (x1 : Int) : Env := [(0, PV.a (Atom.sl (Ty.sl Ty.str) x0)), (1, PV.a (Atom.val (Value.int IntKind.i64 x1))), (5, PV.a (Atom.val (Value.int IntKind.i64 v5)))]
def L12_2 (v5 : Int) (x0 : List (List ByteArray)) (x1 : Int) : Heap := []
mutual
def R12 : Nat → List (List ByteArray) → Int → List Dyn → Prop
  | 0, _, _, _ => False
  | n + 1, x0, x1, ds => (R12_2 n (0) (x0) (x1) ds)
def R12_2 : Nat → Int → List (List ByteArray) → Int → List Dyn → Prop
  | 0, _, _, _, _ => False
  | n + 1, v5, x0, x1, ds => (if (Decidable.decide (v5 < (↑(List.length x0) : Int))) = true then ((0 ≤ v5) ∧ (v5 < (↑(List.length x0) : Int)) ∧ ((P22 (List.getD x0 (Int.toNat v5) []) x1) ∧ (if (Decidable.decide (g22_0 (List.getD x0 (Int.toNat v5) []) x1 < 0)) = true then (ds = [Dyn.mk (Ty.int IntKind.i64) (-1)]) else ((InR IntKind.i64 (v5 + 1)) ∧ (R12_2 n (v5 + 1) (x0) (g22_0 (List.getD x0 (Int.toNat v5) []) x1) ds))))) else (ds = [Dyn.mk (Ty.int IntKind.i64) x1]))
end
theorem snd12 : ∀ n, (∀ (x0 : List (List ByteArray)) (x1 : Int) ds, R12 n x0 x1 ds → ∀ K q, AtV Try.prog 12 (PostR kds12 oks12 ds [] [] q K) 21 K q [] [.code b12] (entE 0 0 sig12 (x0, x1, ())) (entL sig12 (x0, x1, ()))) ∧ (∀ (v5 : Int) (x0 : List (List ByteArray)) (x1 : Int) ds, R12_2 n v5 x0 x1 ds → ∀ K q, AtV Try.prog 12 (PostR kds12 oks12 ds [] [] q K) 21 K q [] (cutAt b12 2) (E12_2 v5 x0 x1) (L12_2 v5 x0 x1)) := by
  intro n
  induction n with
  | zero => exact ⟨fun _ _ _ h => by simp only [R12] at h, fun _ _ _ _ h => by simp only [R12_2] at h⟩
  | succ n ih =>
  obtain ⟨ih, ih2⟩ := ih
  refine ⟨?_, ?_⟩
  · intro x0 x1 ds h K q
    rw [R12] at h
    exact AtV.go tabOk ext12Ok mixed false [] [] [0, 1, 5] [] [] trivial (ih2 _ _ _ _ h K q) (by kernel_rfl)

  · intro v5 x0 x1 ds h K q
    rw [R12_2] at h
    by_cases b0 : (Decidable.decide (v5 < (↑(List.length x0) : Int))) = true
    · rw [if_pos b0] at h
      obtain ⟨s0, s1, h⟩ := h
      obtain ⟨s2, h⟩ := h
      by_cases b1 : (Decidable.decide (g22_0 (List.getD x0 (Int.toNat v5) []) x1 < 0)) = true
      · rw [if_pos b1] at h
        subst h
        exact AtV.ret Try.func12 tabOk ext12Ok mixed false [] tys12 [true, true] (a1 b0 (a1 s0 (a1 s1 (a1 s2 (a1 b1 trivial))))) (by kernel_rfl)
      · rw [if_neg b1] at h
        replace b1 := Bool.eq_false_iff.2 b1
        obtain ⟨s3, h⟩ := h
        exact AtV.go tabOk ext12Ok mixed false [] [] [0, 1, 5] [] [true, false] (a1 b0 (a1 s0 (a1 s1 (a1 s2 (a1 b1 (a1 s3 trivial)))))) (ih2 _ _ _ _ h K q) (by kernel_rfl)
    · rw [if_neg b0] at h
      replace b0 := Bool.eq_false_iff.2 b0
      subst h
      exact AtV.ret Try.func12 tabOk ext12Ok mixed false [] tys12 [false] (a1 b0 trivial) (by kernel_rfl)



def ht12 : List (List ByteArray) → Nat
  | [] => 0
  | x :: r => x.length + ht12 r
def hd12 : List (List ByteArray) → Int → Prop
  | [], _ => True
  | x :: r, k => P22 x k ∧ hd12 r (k + (x.length : Int))

theorem run12 (x0 : List (List ByteArray)) (hm : x0.length ≤ maxLen) : ∀ (k i : Nat) (x1 : Int), i + k = x0.length → 0 ≤ x1 → hd12 (x0.drop i) x1 → R12_2 (k + 1) (i : Int) x0 x1 [⟨.int .i64, x1 + (ht12 (x0.drop i) : Nat)⟩] := by
  intro k
  induction k with
  | zero =>
    intro i x1 hi _ _
    rw [R12_2, if_neg (by simp; omega), drop_end x0 i (by omega)]
    simp [ht12]
  | succ k ih =>
    intro i x1 hi h0 hh
    rw [drop_get x0 i [] (by omega)] at hh
    rw [drop_get x0 i [] (by omega)]
    obtain ⟨h1, h2⟩ := hh
    rw [R12_2, if_pos (by simp; omega)]
    simp only [Int.toNat_natCast]
    refine ⟨by omega, by omega, h1, ?_⟩
    have hg : g22_0 (x0.getD i []) x1 = x1 + ((x0.getD i []).length : Int) := rfl
    have hng : ¬ g22_0 (x0.getD i []) x1 < 0 := by rw [hg]; omega
    rw [if_neg (fun h => hng (of_decide_eq_true h))]
    refine ⟨inR_up hm (by omega), ?_⟩
    rw [hg]
    have := ih (i + 1) (x1 + ((x0.getD i []).length : Int)) (by omega) (by omega) h2
    rw [show x1 + (ht12 (x0.getD i [] :: x0.drop (i + 1)) : Nat) = x1 + ((x0.getD i []).length : Int) + (ht12 (x0.drop (i + 1)) : Nat) by simp only [ht12]; omega]
    exact this

def P12 (x0 : List (List ByteArray)) (x1 : Int) : Prop := 0 ≤ x1 ∧ hd12 x0 x1
def g12_0 (x0 : List (List ByteArray)) (x1 : Int) : Int := x1 + (ht12 x0 : Nat)
def S12 : Am.Spec := { sig := sig12, pre := fun ⟨x0, x1, _⟩ => P12 x0 x1, res := fun ⟨x0, x1, _⟩ => [⟨Ty.int .i64, g12_0 x0 x1⟩] }
theorem con12 : Contract Try.prog 12 S12 := contract_of Try.func12 hb12 (Nat.le_of_ble_eq_true (by kernel_rfl)) (fun ⟨x0, x1, _⟩ h hwf K q => by
  refine (snd12 (x0.length + 2)).1 x0 x1 _ ?_ K q
  show R12 (x0.length + 1 + 1) x0 x1 _
  rw [R12]
  have := run12 x0 hwf.1.1 x0.length 0 x1 (by omega) h.1 h.2
  exact this)

end
end Go.Proofs.Ytdmpjjgimgmkmaa

/- Function 17 (impl.within): its runs between cut points. Written by a program of this repo (gen). -/
set_option linter.unusedVariables false
set_option linter.unusedSimpArgs false
set_option maxRecDepth 100000
namespace Go.Proofs.Ytdmpjjgimgmkmaa
open Go Go.Am Go.Proofs
noncomputable section
def ext17 : Ext := []
theorem ext17Ok : ExtOk Try.prog ext17 := trivial

noncomputable def b17 : Code := bodyOf Try.f17
theorem hb17 : Try.f17.body = some b17 := by kernel_rfl
def sig17 : List AT := [AT.v (Ty.int IntKind.i64), AT.v (Ty.int IntKind.i64), AT.v (Ty.int IntKind.i64)]
def tys17 : List Ty := [Ty.bool]
def kds17 : List RK := []
def oks17 : List AT := owns sig17
def P17 (x0 : Int) (x1 : Int) (x2 : Int) : Prop := True
def g17_0 (x0 : Int) (x1 : Int) (x2 : Int) : Bool := (if (Decidable.decide (x0 ≥ x1)) = true then Decidable.decide (x0 ≤ x2) else Bool.false)
theorem at17 (x0 : Int) (x1 : Int) (x2 : Int) (h : P17 x0 x1 x2) (K : Ctx) (q : Nat → Value) : AtV Try.prog 17 (PostR kds17 oks17 [⟨Ty.bool, g17_0 x0 x1 x2⟩] [] [] q K) 15 K q [] [.code b17] (entE 0 0 sig17 (x0, x1, x2, ())) (entL sig17 (x0, x1, x2, ())) := by
  unfold P17 at h
  unfold g17_0
  by_cases b0 : (Decidable.decide (x0 ≥ x1)) = true
  · try simp only [if_pos b0] at h ⊢
    exact AtV.ret Try.func17 tabOk ext17Ok mixed false [] tys17 [true] (a1 b0 trivial) (by kernel_rfl)
  · try simp only [if_neg b0] at h ⊢
    replace b0 := Bool.eq_false_iff.2 b0
    exact AtV.ret Try.func17 tabOk ext17Ok mixed false [] tys17 [false] (a1 b0 trivial) (by kernel_rfl)

def S17 : Am.Spec := { sig := sig17, pre := fun ⟨x0, x1, x2, _⟩ => P17 x0 x1 x2, res := fun ⟨x0, x1, x2, _⟩ => [⟨Ty.bool, g17_0 x0 x1 x2⟩], kds := kds17 }
theorem con17 : Contract Try.prog 17 S17 := contract_of Try.func17 hb17 (Nat.le_of_ble_eq_true (by kernel_rfl)) (fun ⟨x0, x1, x2, _⟩ h _ K q => at17 x0 x1 x2 h K q)


end
end Go.Proofs.Ytdmpjjgimgmkmaa

/- Function 14 (spec.l00In): its runs between cut points. Written by a program of this repo (gen). -/
set_option linter.unusedVariables false
set_option linter.unusedSimpArgs false
set_option maxRecDepth 100000
namespace Go.Proofs.Ytdmpjjgimgmkmaa
open Go Go.Am Go.Proofs
noncomputable section
def ext14 : Ext := []
theorem ext14Ok : ExtOk Try.prog ext14 := trivial

noncomputable def b14 : Code := bodyOf Try.f14
theorem hb14 : Try.f14.body = some b14 := by kernel_rfl
def sig14 : List AT := [AT.v (Ty.int IntKind.i64), AT.v (Ty.int IntKind.i64), AT.v (Ty.int IntKind.i64)]
def tys14 : List Ty := [Ty.bool]
def kds14 : List RK := []
def oks14 : List AT := owns sig14
def P14 (x0 : Int) (x1 : Int) (x2 : Int) : Prop := True
def g14_0 (x0 : Int) (x1 : Int) (x2 : Int) : Bool := (if (Decidable.decide (x0 ≥ x1)) = true then Decidable.decide (x0 ≤ x2) else Bool.false)
theorem at14 (x0 : Int) (x1 : Int) (x2 : Int) (h : P14 x0 x1 x2) (K : Ctx) (q : Nat → Value) : AtV Try.prog 14 (PostR kds14 oks14 [⟨Ty.bool, g14_0 x0 x1 x2⟩] [] [] q K) 15 K q [] [.code b14] (entE 0 0 sig14 (x0, x1, x2, ())) (entL sig14 (x0, x1, x2, ())) := by
  unfold P14 at h
  unfold g14_0
  by_cases b0 : (Decidable.decide (x0 ≥ x1)) = true
  · try simp only [if_pos b0] at h ⊢
    exact AtV.ret Try.func14 tabOk ext14Ok mixed false [] tys14 [true] (a1 b0 trivial) (by kernel_rfl)
  · try simp only [if_neg b0] at h ⊢
    replace b0 := Bool.eq_false_iff.2 b0
    exact AtV.ret Try.func14 tabOk ext14Ok mixed false [] tys14 [false] (a1 b0 trivial) (by kernel_rfl)

def S14 : Am.Spec := { sig := sig14, pre := fun ⟨x0, x1, x2, _⟩ => P14 x0 x1 x2, res := fun ⟨x0, x1, x2, _⟩ => [⟨Ty.bool, g14_0 x0 x1 x2⟩], kds := kds14 }
theorem con14 : Contract Try.prog 14 S14 := contract_of Try.func14 hb14 (Nat.le_of_ble_eq_true (by kernel_rfl)) (fun ⟨x0, x1, x2, _⟩ h _ K q => at14 x0 x1 x2 h K q)


end
end Go.Proofs.Ytdmpjjgimgmkmaa

/- Function 26 (impl.isReportLine$1): its runs between cut points. Written by a program of this repo (gen). -/
set_option linter.unusedVariables false
set_option linter.unusedSimpArgs false
set_option maxRecDepth 100000
namespace Go.Proofs.Ytdmpjjgimgmkmaa
open Go Go.Am Go.Proofs
noncomputable section
def ext26 : Ext := []
theorem ext26Ok : ExtOk Try.prog ext26 := trivial

noncomputable def b26 : Code := bodyOf Try.f26
theorem hb26 : Try.f26.body = some b26 := by kernel_rfl
def sig26 : List AT := [AT.v (Ty.int IntKind.u8)]
def tys26 : List Ty := [Ty.bool]
def kds26 : List RK := []
def oks26 : List AT := owns sig26
def P26 (x0 : Int) : Prop := True
def g26_0 (x0 : Int) : Bool := (if (Decidable.decide (x0 < 32)) = true then Bool.true else Decidable.decide (x0 > 126))
theorem at26 (x0 : Int) (h : P26 x0) (K : Ctx) (q : Nat → Value) : AtV Try.prog 26 (PostR kds26 oks26 [⟨Ty.bool, g26_0 x0⟩] [] [] q K) 9 K q [] [.code b26] (entE 0 0 sig26 (x0, ())) (entL sig26 (x0, ())) := by
  unfold P26 at h
  unfold g26_0
  by_cases b0 : (Decidable.decide (x0 < 32)) = true
  · try simp only [if_pos b0] at h ⊢
    exact AtV.ret Try.func26 tabOk ext26Ok mixed false [] tys26 [true] (a1 b0 trivial) (by kernel_rfl)
  · try simp only [if_neg b0] at h ⊢
    replace b0 := Bool.eq_false_iff.2 b0
    exact AtV.ret Try.func26 tabOk ext26Ok mixed false [] tys26 [false] (a1 b0 trivial) (by kernel_rfl)

def S26 : Am.Spec := { sig := sig26, pre := fun ⟨x0, _⟩ => P26 x0, res := fun ⟨x0, _⟩ => [⟨Ty.bool, g26_0 x0⟩], kds := kds26 }
theorem con26 : Contract Try.prog 26 S26 := contract_of Try.func26 hb26 (Nat.le_of_ble_eq_true (by kernel_rfl)) (fun ⟨x0, _⟩ h _ K q => at26 x0 h K q)


end
end Go.Proofs.Ytdmpjjgimgmkmaa

/- Function 29 (slices.IndexFunc[[]byte,byte]): its runs between cut points. Written by a program of this repo (gen). -/
set_option linter.unusedVariables false
set_option linter.unusedSimpArgs false
set_option maxRecDepth 100000
namespace Go.Proofs.Ytdmpjjgimgmkmaa
open Go Go.Am Go.Proofs
noncomputable section
def ext29c26 : Ext := [(26, S26)]
theorem call29c26_26 : Callable Try.prog 26 := ⟨Try.f26, Try.func26, by kernel_rfl, by kernel_rfl⟩
theorem ext29c26Ok : ExtOk Try.prog ext29c26 := ⟨⟨call29c26_26, con26⟩, trivial⟩

noncomputable def b29c26 : Code := bodyOf Try.f29
theorem hb29c26 : Try.f29.body = some b29c26 := by kernel_rfl
def sig29c26 : List AT := [AT.v (Ty.sl (Ty.int IntKind.u8)), AT.fn 26 []]
def tys29c26 : List Ty := [Ty.int IntKind.i64]
def kds29c26 : List RK := []
def oks29c26 : List AT := owns sig29c26
def E29c26_2 (v8 : Int) (x0 : List Int) : Env := [(0, PV.a (Atom.sl (Ty.int IntKind.u8) x0)), (1, PV.fn 26 []), (7, PV.a (Atom.val (Value.int IntKind.i64 (↑(List.length x0) : Int)))), (8, PV.a (Atom.val (Value.int IntKind.i64 v8)))]
def L29c26_2 (v8 : Int) (x0 : List Int) : Heap := []
mutual
def R29c26 : Nat → List Int → List Dyn → Prop
  | 0, _, _ => False
  | n + 1, x0, ds => (R29c26_2 n (0) (x0) ds)
def R29c26_2 : Nat → Int → List Int → List Dyn → Prop
  | 0, _, _, _ => False
  | n + 1, v8, x0, ds => (if (Decidable.decide (v8 < (↑(List.length x0) : Int))) = true then ((0 ≤ v8) ∧ (v8 < (↑(List.length x0) : Int)) ∧ (if (g26_0 (List.getD x0 (Int.toNat v8) 0)) = true then (ds = [Dyn.mk (Ty.int IntKind.i64) v8]) else ((InR IntKind.i64 (v8 + 1)) ∧ (R29c26_2 n (v8 + 1) (x0) ds)))) else (ds = [Dyn.mk (Ty.int IntKind.i64) (-1)]))
end
theorem snd29c26 : ∀ n, (∀ (x0 : List Int) ds, R29c26 n x0 ds → ∀ K q, AtV Try.prog 29 (PostR kds29c26 oks29c26 ds [] [] q K) 19 K q [] [.code b29c26] (entE 0 0 sig29c26 (x0, (), ())) (entL sig29c26 (x0, (), ()))) ∧ (∀ (v8 : Int) (x0 : List Int) ds, R29c26_2 n v8 x0 ds → ∀ K q, AtV Try.prog 29 (PostR kds29c26 oks29c26 ds [] [] q K) 19 K q [] (cutAt b29c26 2) (E29c26_2 v8 x0) (L29c26_2 v8 x0)) := by
  intro n
  induction n with
  | zero => exact ⟨fun _ _ h => by simp only [R29c26] at h, fun _ _ _ h => by simp only [R29c26_2] at h⟩
  | succ n ih =>
  obtain ⟨ih, ih2⟩ := ih
  refine ⟨?_, ?_⟩
  · intro x0 ds h K q
    rw [R29c26] at h
    exact AtV.go tabOk ext29c26Ok mixed false [] [] [0, 1, 7, 8] [] [] trivial (ih2 _ _ _ h K q) (by kernel_rfl)

  · intro v8 x0 ds h K q
    rw [R29c26_2] at h
    by_cases b0 : (Decidable.decide (v8 < (↑(List.length x0) : Int))) = true
    · rw [if_pos b0] at h
      obtain ⟨s0, s1, h⟩ := h
      by_cases b1 : (g26_0 (List.getD x0 (Int.toNat v8) 0)) = true
      · rw [if_pos b1] at h
        subst h
        exact AtV.ret Try.func29 tabOk ext29c26Ok mixed false [] tys29c26 [true, true] (a1 b0 (a1 s0 (a1 s1 (a1 trivial (a1 b1 trivial))))) (by kernel_rfl)
      · rw [if_neg b1] at h
        replace b1 := Bool.eq_false_iff.2 b1
        obtain ⟨s2, h⟩ := h
        exact AtV.go tabOk ext29c26Ok mixed false [] [] [0, 1, 7, 8] [] [true, false] (a1 b0 (a1 s0 (a1 s1 (a1 trivial (a1 b1 (a1 s2 trivial)))))) (ih2 _ _ _ h K q) (by kernel_rfl)
    · rw [if_neg b0] at h
      replace b0 := Bool.eq_false_iff.2 b0
      subst h
      exact AtV.ret Try.func29 tabOk ext29c26Ok mixed false [] tys29c26 [false] (a1 b0 trivial) (by kernel_rfl)



def g29c26_0 (x0 : List (Int)) : Int := idx (x0.findIdx? g26_0)
def P29c26 (x0 : List (Int)) : Prop := True

theorem top29c26 (x0 : List (Int)) (hm : x0.length ≤ maxLen) : R29c26 (x0.length + 1 + 1) x0 [⟨.int .i64, g29c26_0 x0⟩] := by
  rw [R29c26]
  have key := loop_find x0 (0 : Int) g26_0 [(⟨.int .i64, -1⟩ : Dyn)] (fun k => [⟨.int .i64, k⟩]) (fun n i ds => R29c26_2 n i x0 ds) (fun n => ?_) (fun n i hi hok ds hr => ?_) (fun n i hi hok => ?_)
  · unfold g29c26_0
    cases h : x0.findIdx? g26_0 <;> rw [h] at key <;> exact key
  · rw [R29c26_2, if_neg (by simp)]
  · rw [R29c26_2, if_pos (by simp; omega)]
    simp only [Int.toNat_natCast]
    refine ⟨by omega, by omega, ?_⟩
    rw [if_neg (by rw [hok]; simp)]
    exact ⟨inR_up hm hi, hr⟩
  · rw [R29c26_2, if_pos (by simp; omega)]
    simp only [Int.toNat_natCast]
    refine ⟨by omega, by omega, ?_⟩
    rw [if_pos hok] <;> trivial

def S29c26 : Am.Spec := { sig := sig29c26, pre := fun ⟨x0, _⟩ => P29c26 x0, res := fun ⟨x0, _⟩ => [⟨Ty.int .i64, g29c26_0 x0⟩] }
theorem con29c26 : Contract Try.prog 29 S29c26 := contract_of Try.func29 hb29c26 (Nat.le_of_ble_eq_true (by kernel_rfl)) (fun ⟨x0, _⟩ h hwf K q =>
  (snd29c26 _).1 x0 _ (top29c26 x0 hwf.1.1) K q)

theorem any29c26 (x0 : List (Int)) : decide (g29c26_0 x0 ≥ 0) = x0.any g26_0 := by
  have := findIdx_any g26_0 x0
  unfold g29c26_0
  cases h : x0.any g26_0 with
  | true => rw [h] at this; simpa using this
  | false => rw [h] at this; simpa using this

end
end Go.Proofs.Ytdmpjjgimgmkmaa

/- Function 25 (slices.ContainsFunc[[]byte,byte]): its runs between cut points. Written by a program of this repo (gen). -/
set_option linter.unusedVariables false
set_option linter.unusedSimpArgs false
set_option maxRecDepth 100000
namespace Go.Proofs.Ytdmpjjgimgmkmaa
open Go Go.Am Go.Proofs
noncomputable section
def ext25c26 : Ext := [(29, S29c26), (26, S26)]
theorem call25c26_29 : Callable Try.prog 29 := ⟨Try.f29, Try.func29, by kernel_rfl, by kernel_rfl⟩
theorem call25c26_26 : Callable Try.prog 26 := ⟨Try.f26, Try.func26, by kernel_rfl, by kernel_rfl⟩
theorem ext25c26Ok : ExtOk Try.prog ext25c26 := ⟨⟨call25c26_29, con29c26⟩, ⟨call25c26_26, con26⟩, trivial⟩

noncomputable def b25c26 : Code := bodyOf Try.f25
theorem hb25c26 : Try.f25.body = some b25c26 := by kernel_rfl
def sig25c26 : List AT := [AT.v (Ty.sl (Ty.int IntKind.u8)), AT.fn 26 []]
def tys25c26 : List Ty := [Ty.bool]
def kds25c26 : List RK := []
def oks25c26 : List AT := owns sig25c26
def P25c26 (x0 : List Int) : Prop := True
def g25c26_0 (x0 : List Int) : Bool := Decidable.decide (g29c26_0 x0 ≥ 0)
theorem at25c26 (x0 : List Int) (h : P25c26 x0) (K : Ctx) (q : Nat → Value) : AtV Try.prog 25 (PostR kds25c26 oks25c26 [⟨Ty.bool, g25c26_0 x0⟩] [] [] q K) 9 K q [] [.code b25c26] (entE 0 0 sig25c26 (x0, (), ())) (entL sig25c26 (x0, (), ())) := by
  unfold P25c26 at h
  unfold g25c26_0
  exact AtV.ret Try.func25 tabOk ext25c26Ok mixed false [] tys25c26 [] (a1 trivial trivial) (by kernel_rfl)

def S25c26 : Am.Spec := { sig := sig25c26, pre := fun ⟨x0, _⟩ => P25c26 x0, res := fun ⟨x0, _⟩ => [⟨Ty.bool, g25c26_0 x0⟩], kds := kds25c26 }
theorem con25c26 : Contract Try.prog 25 S25c26 := contract_of Try.func25 hb25c26 (Nat.le_of_ble_eq_true (by kernel_rfl)) (fun ⟨x0, _⟩ h _ K q => at25c26 x0 h K q)


end
end Go.Proofs.Ytdmpjjgimgmkmaa

/- Function 18 (impl.isReportLine): its runs between cut points. Written by a program of this repo (gen). -/
set_option linter.unusedVariables false
set_option linter.unusedSimpArgs false
set_option maxRecDepth 100000
namespace Go.Proofs.Ytdmpjjgimgmkmaa
open Go Go.Am Go.Proofs
noncomputable section
def ext18 : Ext := [(25, S25c26)]
theorem call18_25 : Callable Try.prog 25 := ⟨Try.f25, Try.func25, by kernel_rfl, by kernel_rfl⟩
theorem ext18Ok : ExtOk Try.prog ext18 := ⟨⟨call18_25, con25c26⟩, trivial⟩

noncomputable def b18 : Code := bodyOf Try.f18
theorem hb18 : Try.f18.body = some b18 := by kernel_rfl
def sig18 : List AT := [AT.v (Ty.str)]
def tys18 : List Ty := [Ty.bool]
def kds18 : List RK := []
def oks18 : List AT := owns sig18
def P18 (x0 : ByteArray) : Prop := True
def g18_0 (x0 : ByteArray) : Bool := (if (Decidable.decide ((↑(ByteArray.size x0) : Int) ≤ 100)) = true then !g25c26_0 (bytesOf x0) else Bool.false)
theorem at18 (x0 : ByteArray) (h : P18 x0) (K : Ctx) (q : Nat → Value) : AtV Try.prog 18 (PostR kds18 oks18 [⟨Ty.bool, g18_0 x0⟩] [] [] q K) 12 K q [] [.code b18] (entE 0 0 sig18 (x0, ())) (entL sig18 (x0, ())) := by
  unfold P18 at h
  unfold g18_0
  by_cases b0 : (Decidable.decide ((↑(ByteArray.size x0) : Int) ≤ 100)) = true
  · try simp only [if_pos b0] at h ⊢
    exact AtV.ret Try.func18 tabOk ext18Ok mixed false [] tys18 [true] (a1 b0 (a1 trivial trivial)) (by kernel_rfl)
  · try simp only [if_neg b0] at h ⊢
    replace b0 := Bool.eq_false_iff.2 b0
    exact AtV.ret Try.func18 tabOk ext18Ok mixed false [] tys18 [false] (a1 b0 trivial) (by kernel_rfl)

def S18 : Am.Spec := { sig := sig18, pre := fun ⟨x0, _⟩ => P18 x0, res := fun ⟨x0, _⟩ => [⟨Ty.bool, g18_0 x0⟩], kds := kds18 }
theorem con18 : Contract Try.prog 18 S18 := contract_of Try.func18 hb18 (Nat.le_of_ble_eq_true (by kernel_rfl)) (fun ⟨x0, _⟩ h _ K q => at18 x0 h K q)


end
end Go.Proofs.Ytdmpjjgimgmkmaa

/- Function 24 (impl.ValidReport$1): its runs between cut points. Written by a program of this repo (gen). -/
set_option linter.unusedVariables false
set_option linter.unusedSimpArgs false
set_option maxRecDepth 100000
namespace Go.Proofs.Ytdmpjjgimgmkmaa
open Go Go.Am Go.Proofs
noncomputable section
def ext24 : Ext := [(18, S18)]
theorem call24_18 : Callable Try.prog 18 := ⟨Try.f18, Try.func18, by kernel_rfl, by kernel_rfl⟩
theorem ext24Ok : ExtOk Try.prog ext24 := ⟨⟨call24_18, con18⟩, trivial⟩

noncomputable def b24 : Code := bodyOf Try.f24
theorem hb24 : Try.f24.body = some b24 := by kernel_rfl
def sig24 : List AT := [AT.v (Ty.str)]
def tys24 : List Ty := [Ty.bool]
def kds24 : List RK := []
def oks24 : List AT := owns sig24
def P24 (x0 : ByteArray) : Prop := True
def g24_0 (x0 : ByteArray) : Bool := !g18_0 x0
theorem at24 (x0 : ByteArray) (h : P24 x0) (K : Ctx) (q : Nat → Value) : AtV Try.prog 24 (PostR kds24 oks24 [⟨Ty.bool, g24_0 x0⟩] [] [] q K) 6 K q [] [.code b24] (entE 0 0 sig24 (x0, ())) (entL sig24 (x0, ())) := by
  unfold P24 at h
  unfold g24_0
  exact AtV.ret Try.func24 tabOk ext24Ok mixed false [] tys24 [] (a1 trivial trivial) (by kernel_rfl)

def S24 : Am.Spec := { sig := sig24, pre := fun ⟨x0, _⟩ => P24 x0, res := fun ⟨x0, _⟩ => [⟨Ty.bool, g24_0 x0⟩], kds := kds24 }
theorem con24 : Contract Try.prog 24 S24 := contract_of Try.func24 hb24 (Nat.le_of_ble_eq_true (by kernel_rfl)) (fun ⟨x0, _⟩ h _ K q => at24 x0 h K q)


end
end Go.Proofs.Ytdmpjjgimgmkmaa

/- Function 28 (slices.IndexFunc[[]string,string]): its runs between cut points. Written by a program of this repo (gen). -/
set_option linter.unusedVariables false
set_option linter.unusedSimpArgs false
set_option maxRecDepth 100000
namespace Go.Proofs.Ytdmpjjgimgmkmaa
open Go Go.Am Go.Proofs
noncomputable section
def ext28c24 : Ext := [(24, S24)]
theorem call28c24_24 : Callable Try.prog 24 := ⟨Try.f24, Try.func24, by kernel_rfl, by kernel_rfl⟩
theorem ext28c24Ok : ExtOk Try.prog ext28c24 := ⟨⟨call28c24_24, con24⟩, trivial⟩

noncomputable def b28c24 : Code := bodyOf Try.f28
theorem hb28c24 : Try.f28.body = some b28c24 := by kernel_rfl
def sig28c24 : List AT := [AT.v (Ty.sl Ty.str), AT.fn 24 []]
def tys28c24 : List Ty := [Ty.int IntKind.i64]
def kds28c24 : List RK := []
def oks28c24 : List AT := owns sig28c24
def E28c24_2 (v8 : Int) (x0 : List ByteArray) : Env := [(0, PV.a (Atom.sl Ty.str x0)), (1, PV.fn 24 []), (7, PV.a (Atom.val (Value.int IntKind.i64 (↑(List.length x0) : Int)))), (8, PV.a (Atom.val (Value.int IntKind.i64 v8)))]
def L28c24_2 (v8 : Int) (x0 : List ByteArray) : Heap := []
mutual
def R28c24 : Nat → List ByteArray → List Dyn → Prop
  | 0, _, _ => False
  | n + 1, x0, ds => (R28c24_2 n (0) (x0) ds)
def R28c24_2 : Nat → Int → List ByteArray → List Dyn → Prop
  | 0, _, _, _ => False
  | n + 1, v8, x0, ds => (if (Decidable.decide (v8 < (↑(List.length x0) : Int))) = true then ((0 ≤ v8) ∧ (v8 < (↑(List.length x0) : Int)) ∧ (if (g24_0 (List.getD x0 (Int.toNat v8) ByteArray.empty)) = true then (ds = [Dyn.mk (Ty.int IntKind.i64) v8]) else ((InR IntKind.i64 (v8 + 1)) ∧ (R28c24_2 n (v8 + 1) (x0) ds)))) else (ds = [Dyn.mk (Ty.int IntKind.i64) (-1)]))
end
theorem snd28c24 : ∀ n, (∀ (x0 : List ByteArray) ds, R28c24 n x0 ds → ∀ K q, AtV Try.prog 28 (PostR kds28c24 oks28c24 ds [] [] q K) 19 K q [] [.code b28c24] (entE 0 0 sig28c24 (x0, (), ())) (entL sig28c24 (x0, (), ()))) ∧ (∀ (v8 : Int) (x0 : List ByteArray) ds, R28c24_2 n v8 x0 ds → ∀ K q, AtV Try.prog 28 (PostR kds28c24 oks28c24 ds [] [] q K) 19 K q [] (cutAt b28c24 2) (E28c24_2 v8 x0) (L28c24_2 v8 x0)) := by
  intro n
  induction n with
  | zero => exact ⟨fun _ _ h => by simp only [R28c24] at h, fun _ _ _ h => by simp only [R28c24_2] at h⟩
  | succ n ih =>
  obtain ⟨ih, ih2⟩ := ih
  refine ⟨?_, ?_⟩
  · intro x0 ds h K q
    rw [R28c24] at h
    exact AtV.go tabOk ext28c24Ok mixed false [] [] [0, 1, 7, 8] [] [] trivial (ih2 _ _ _ h K q) (by kernel_rfl)

  · intro v8 x0 ds h K q
    rw [R28c24_2] at h
    by_cases b0 : (Decidable.decide (v8 < (↑(List.length x0) : Int))) = true
    · rw [if_pos b0] at h
      obtain ⟨s0, s1, h⟩ := h
      by_cases b1 : (g24_0 (List.getD x0 (Int.toNat v8) ByteArray.empty)) = true
      · rw [if_pos b1] at h
        subst h
        exact AtV.ret Try.func28 tabOk ext28c24Ok mixed false [] tys28c24 [true, true] (a1 b0 (a1 s0 (a1 s1 (a1 trivial (a1 b1 trivial))))) (by kernel_rfl)
      · rw [if_neg b1] at h
        replace b1 := Bool.eq_false_iff.2 b1
        obtain ⟨s2, h⟩ := h
        exact AtV.go tabOk ext28c24Ok mixed false [] [] [0, 1, 7, 8] [] [true, false] (a1 b0 (a1 s0 (a1 s1 (a1 trivial (a1 b1 (a1 s2 trivial)))))) (ih2 _ _ _ h K q) (by kernel_rfl)
    · rw [if_neg b0] at h
      replace b0 := Bool.eq_false_iff.2 b0
      subst h
      exact AtV.ret Try.func28 tabOk ext28c24Ok mixed false [] tys28c24 [false] (a1 b0 trivial) (by kernel_rfl)



def g28c24_0 (x0 : List (ByteArray)) : Int := idx (x0.findIdx? g24_0)
def P28c24 (x0 : List (ByteArray)) : Prop := True

theorem top28c24 (x0 : List (ByteArray)) (hm : x0.length ≤ maxLen) : R28c24 (x0.length + 1 + 1) x0 [⟨.int .i64, g28c24_0 x0⟩] := by
  rw [R28c24]
  have key := loop_find x0 ByteArray.empty g24_0 [(⟨.int .i64, -1⟩ : Dyn)] (fun k => [⟨.int .i64, k⟩]) (fun n i ds => R28c24_2 n i x0 ds) (fun n => ?_) (fun n i hi hok ds hr => ?_) (fun n i hi hok => ?_)
  · unfold g28c24_0
    cases h : x0.findIdx? g24_0 <;> rw [h] at key <;> exact key
  · rw [R28c24_2, if_neg (by simp)]
  · rw [R28c24_2, if_pos (by simp; omega)]
    simp only [Int.toNat_natCast]
    refine ⟨by omega, by omega, ?_⟩
    rw [if_neg (by rw [hok]; simp)]
    exact ⟨inR_up hm hi, hr⟩
  · rw [R28c24_2, if_pos (by simp; omega)]
    simp only [Int.toNat_natCast]
    refine ⟨by omega, by omega, ?_⟩
    rw [if_pos hok] <;> trivial

def S28c24 : Am.Spec := { sig := sig28c24, pre := fun ⟨x0, _⟩ => P28c24 x0, res := fun ⟨x0, _⟩ => [⟨Ty.int .i64, g28c24_0 x0⟩] }
theorem con28c24 : Contract Try.prog 28 S28c24 := contract_of Try.func28 hb28c24 (Nat.le_of_ble_eq_true (by kernel_rfl)) (fun ⟨x0, _⟩ h hwf K q =>
  (snd28c24 _).1 x0 _ (top28c24 x0 hwf.1.1) K q)

theorem any28c24 (x0 : List (ByteArray)) : decide (g28c24_0 x0 ≥ 0) = x0.any g24_0 := by
  have := findIdx_any g24_0 x0
  unfold g28c24_0
  cases h : x0.any g24_0 with
  | true => rw [h] at this; simpa using this
  | false => rw [h] at this; simpa using this

end
end Go.Proofs.Ytdmpjjgimgmkmaa

/- Function 23 (slices.ContainsFunc[[]string,string]): its runs between cut points. Written by a program of this repo (gen). -/
set_option linter.unusedVariables false
set_option linter.unusedSimpArgs false
set_option maxRecDepth 100000
namespace Go.Proofs.Ytdmpjjgimgmkmaa
open Go Go.Am Go.Proofs
noncomputable section
def ext23c24 : Ext := [(28, S28c24), (24, S24)]
theorem call23c24_28 : Callable Try.prog 28 := ⟨Try.f28, Try.func28, by kernel_rfl, by kernel_rfl⟩
theorem call23c24_24 : Callable Try.prog 24 := ⟨Try.f24, Try.func24, by kernel_rfl, by kernel_rfl⟩
theorem ext23c24Ok : ExtOk Try.prog ext23c24 := ⟨⟨call23c24_28, con28c24⟩, ⟨call23c24_24, con24⟩, trivial⟩

noncomputable def b23c24 : Code := bodyOf Try.f23
theorem hb23c24 : Try.f23.body = some b23c24 := by kernel_rfl
def sig23c24 : List AT := [AT.v (Ty.sl Ty.str), AT.fn 24 []]
def tys23c24 : List Ty := [Ty.bool]
def kds23c24 : List RK := []
def oks23c24 : List AT := owns sig23c24
def P23c24 (x0 : List ByteArray) : Prop := True
def g23c24_0 (x0 : List ByteArray) : Bool := Decidable.decide (g28c24_0 x0 ≥ 0)
theorem at23c24 (x0 : List ByteArray) (h : P23c24 x0) (K : Ctx) (q : Nat → Value) : AtV Try.prog 23 (PostR kds23c24 oks23c24 [⟨Ty.bool, g23c24_0 x0⟩] [] [] q K) 9 K q [] [.code b23c24] (entE 0 0 sig23c24 (x0, (), ())) (entL sig23c24 (x0, (), ())) := by
  unfold P23c24 at h
  unfold g23c24_0
  exact AtV.ret Try.func23 tabOk ext23c24Ok mixed false [] tys23c24 [] (a1 trivial trivial) (by kernel_rfl)

def S23c24 : Am.Spec := { sig := sig23c24, pre := fun ⟨x0, _⟩ => P23c24 x0, res := fun ⟨x0, _⟩ => [⟨Ty.bool, g23c24_0 x0⟩], kds := kds23c24 }
theorem con23c24 : Contract Try.prog 23 S23c24 := contract_of Try.func23 hb23c24 (Nat.le_of_ble_eq_true (by kernel_rfl)) (fun ⟨x0, _⟩ h _ K q => at23c24 x0 h K q)


end
end Go.Proofs.Ytdmpjjgimgmkmaa

/- Function 16 (impl.ValidReport): its runs between cut points. Written by a program of this repo (gen). -/
set_option linter.unusedVariables false
set_option linter.unusedSimpArgs false
set_option maxRecDepth 100000
namespace Go.Proofs.Ytdmpjjgimgmkmaa
open Go Go.Am Go.Proofs
noncomputable section
def ext16 : Ext := [(23, S23c24)]
theorem call16_23 : Callable Try.prog 23 := ⟨Try.f23, Try.func23, by kernel_rfl, by kernel_rfl⟩
theorem ext16Ok : ExtOk Try.prog ext16 := ⟨⟨call16_23, con23c24⟩, trivial⟩

noncomputable def b16 : Code := bodyOf Try.f16
theorem hb16 : Try.f16.body = some b16 := by kernel_rfl
def sig16 : List AT := [AT.v (Ty.sl Ty.str)]
def tys16 : List Ty := [Ty.bool]
def kds16 : List RK := []
def oks16 : List AT := owns sig16
def P16 (x0 : List ByteArray) : Prop := True
def g16_0 (x0 : List ByteArray) : Bool := (if (Decidable.decide ((↑(List.length x0) : Int) ≤ 200)) = true then !g23c24_0 x0 else Bool.false)
theorem at16 (x0 : List ByteArray) (h : P16 x0) (K : Ctx) (q : Nat → Value) : AtV Try.prog 16 (PostR kds16 oks16 [⟨Ty.bool, g16_0 x0⟩] [] [] q K) 11 K q [] [.code b16] (entE 0 0 sig16 (x0, ())) (entL sig16 (x0, ())) := by
  unfold P16 at h
  unfold g16_0
  by_cases b0 : (Decidable.decide ((↑(List.length x0) : Int) ≤ 200)) = true
  · try simp only [if_pos b0] at h ⊢
    exact AtV.ret Try.func16 tabOk ext16Ok mixed false [] tys16 [true] (a1 b0 (a1 trivial trivial)) (by kernel_rfl)
  · try simp only [if_neg b0] at h ⊢
    replace b0 := Bool.eq_false_iff.2 b0
    exact AtV.ret Try.func16 tabOk ext16Ok mixed false [] tys16 [false] (a1 b0 trivial) (by kernel_rfl)

def S16 : Am.Spec := { sig := sig16, pre := fun ⟨x0, _⟩ => P16 x0, res := fun ⟨x0, _⟩ => [⟨Ty.bool, g16_0 x0⟩], kds := kds16 }
theorem con16 : Contract Try.prog 16 S16 := contract_of Try.func16 hb16 (Nat.le_of_ble_eq_true (by kernel_rfl)) (fun ⟨x0, _⟩ h _ K q => at16 x0 h K q)


end
end Go.Proofs.Ytdmpjjgimgmkmaa

/- Function 19 (impl.size[string]): its runs between cut points. Written by a program of this repo (gen). -/
set_option linter.unusedVariables false
set_option linter.unusedSimpArgs false
set_option maxRecDepth 100000
namespace Go.Proofs.Ytdmpjjgimgmkmaa
open Go Go.Am Go.Proofs
noncomputable section
def ext19 : Ext := []
theorem ext19Ok : ExtOk Try.prog ext19 := trivial

noncomputable def b19 : Code := bodyOf Try.f19
theorem hb19 : Try.f19.body = some b19 := by kernel_rfl
def sig19 : List AT := [AT.v (Ty.sl Ty.str)]
def tys19 : List Ty := [Ty.int IntKind.i64]
def kds19 : List RK := []
def oks19 : List AT := owns sig19
def P19 (x0 : List ByteArray) : Prop := True
def g19_0 (x0 : List ByteArray) : Int := (↑(List.length x0) : Int)
theorem at19 (x0 : List ByteArray) (h : P19 x0) (K : Ctx) (q : Nat → Value) : AtV Try.prog 19 (PostR kds19 oks19 [⟨Ty.int IntKind.i64, g19_0 x0⟩] [] [] q K) 5 K q [] [.code b19] (entE 0 0 sig19 (x0, ())) (entL sig19 (x0, ())) := by
  unfold P19 at h
  unfold g19_0
  exact AtV.ret Try.func19 tabOk ext19Ok mixed false [] tys19 [] trivial (by kernel_rfl)

def S19 : Am.Spec := { sig := sig19, pre := fun ⟨x0, _⟩ => P19 x0, res := fun ⟨x0, _⟩ => [⟨Ty.int IntKind.i64, g19_0 x0⟩], kds := kds19 }
theorem con19 : Contract Try.prog 19 S19 := contract_of Try.func19 hb19 (Nat.le_of_ble_eq_true (by kernel_rfl)) (fun ⟨x0, _⟩ h _ K q => at19 x0 h K q)


end
end Go.Proofs.Ytdmpjjgimgmkmaa
