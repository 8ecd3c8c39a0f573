/- Several texts in one: the functions that this law reaches, and their laws. -/
import Derived.Test.YtpellcnihifdaaaGreatDoorZ3A
import Derived.Test.YtpellcnihifdaaaGreatDoorZ3B
import Derived.ProofKit
import Derived.Carry
import Derived.HandedShaped
import Derived.Stop.Joined
import Derived.Lib.Repeat
import Derived.Laws.AppendOwn
import Derived.Sort.Row
import Derived.Sort.Grow
import Derived.Lib.Strings
import Derived.Lib.ItoaLen
import Derived.Lib.SplitLaws
import Derived.Lib.Join
import Derived.Lib.LaidTab
import Derived.Stop.LaidErr
import Derived.Laws.IdiomCopy
import Derived.Test.YtpellcnihifdaaaGreatDoorRows
import Derived.KernelRfl
import Derived.Shelf.Vars

/- The abstract machine, part 49: weakening the state, renumbering the arrays. -/
namespace Go.Am
set_option linter.unusedVariables false
set_option linter.unusedSimpArgs false


def keepE (E : Env) : List Nat → Env
  | [] => []
  | i :: r => (i, E.get i) :: keepE E r

theorem get_keepE (E : Env) : ∀ (ks : List Nat) (i : Nat), (keepE E ks).get i = if memB i ks = true then E.get i else .a .junk
  | [], i => rfl
  | j :: r, i => by
    simp only [keepE, Env.get, memB]
    cases h : Nat.beq j i with
    | true =>
      obtain rfl := Nat.eq_of_beq_eq_true h
      simp
    | false =>
      have : Nat.beq i j = false := nbeq_false (fun e => by subst e; simp at h)
      simp [this, get_keepE E r i]

section
variable {P : Program} {n : Nat} {q : Nat → Value} {K : Ctx} {G : Nat → Prop} {w0 w : World} {a : Act} {V : Nat → Value} {own : Nat → List Nat} {f : FuncId} {R : Ending → World → Prop} {E : Env} {L : Heap}

theorem RelV.keepE (hR : RelV n K w0 G w a E L V own) (ks : List Nat) : RelV n K w0 G w a (Am.keepE E ks) L V own :=
  ⟨hR.glob, hR.kept, hR.size, hR.defers, hR.glt, hR.gref, hR.gsub, hR.gold, hR.gup, hR.heap, hR.good, hR.nodup, hR.apart, hR.boxs, hR.small, fun i => by
    rw [get_keepE]
    split
    · exact hR.env i
    · trivial⟩


def idxN (r : Nat) : List Nat → Nat
  | [] => 0
  | x :: l => cond (Nat.beq x r) 0 (idxN r l + 1)

def getN : List Nat → Nat → Nat
  | [], _ => 0
  | x :: _, 0 => x
  | _ :: l, n + 1 => getN l n

def renF (rs : List Nat) : Leaf → Leaf
  | .osl r rg => .osl (idxN r rs) rg
  | l => l

def renA (rs : List Nat) : Atom → Atom
  | .osl r rg => .osl (idxN r rs) rg
  | .optr r i p => .optr (idxN r rs) i p
  | .rcd t ls => .rcd t (ls.map (renF rs))
  | .bptr r o t => .bptr (idxN r rs) o t
  | A => A

def renR (rs : List Nat) (A : Arr) : Arr := match A.ls with
  | some ls => ⟨A.t, A.xs, A.bor, some (ls.map (renF rs)), A.sm⟩
  | none => A

def renP (rs : List Nat) : PV → PV
  | .a A => .a (renA rs A)
  | .tup xs => .tup (xs.map (renA rs))
  | .fn f xs => .fn f (xs.map (renA rs))

def renE (rs : List Nat) (E : Env) : Env := E.map fun q => (q.1, renP rs q.2)

def pickL (rs : List Nat) (L : Heap) : Heap := rs.map fun r => match hget L r with | some A => some (renR rs A) | none => none

def inAll (rs : List Nat) : List Nat → Bool
  | [] => true
  | r :: s => memB r rs && inAll rs s

def envIn (rs : List Nat) : Env → Bool
  | [] => true
  | (_, p) :: r => inAll rs (refsP p) && envIn rs r

def heapIn (rs : List Nat) (L : Heap) : List Nat → Bool
  | [] => true
  | r :: s => (match hget L r with
    | some A => match A.ls with
      | some ls => inAll rs (refLs ls)
      | none => true
    | none => true) && heapIn rs L s

theorem hget_pickL_aux (rs0 : List Nat) : ∀ (rs : List Nat) (L : Heap) (s : Nat) {A : Arr}, hget (rs.map fun r => match hget L r with | some A => some (renR rs0 A) | none => none) s = some A → s < rs.length ∧ ∃ B, hget L (getN rs s) = some B ∧ A = renR rs0 B
  | [], L, s, A, h => by cases s <;> cases h
  | r :: rs, L, 0, A, h => by
    simp only [List.map_cons, hget] at h
    cases hB : hget L r with
    | none => rw [hB] at h; cases h
    | some B => rw [hB] at h; cases h; exact ⟨by simp, B, hB, rfl⟩
  | r :: rs, L, s + 1, A, h => by
    obtain ⟨h1, h2⟩ := hget_pickL_aux rs0 rs L s h
    exact ⟨by simp; omega, h2⟩

theorem hget_pickL (rs : List Nat) (L : Heap) (s : Nat) {A : Arr} (h : hget (pickL rs L) s = some A) : s < rs.length ∧ ∃ B, hget L (getN rs s) = some B ∧ A = renR rs B := hget_pickL_aux rs rs L s h

theorem pick_idx_aux (rs0 : List Nat) : ∀ (rs : List Nat) (L : Heap) (r : Nat), memB r rs = true → hget (rs.map fun r => match hget L r with | some A => some (renR rs0 A) | none => none) (idxN r rs) = (hget L r).map (renR rs0) ∧ getN rs (idxN r rs) = r
  | [], L, r, h => by cases h
  | x :: rs, L, r, h => by
    simp only [memB, Bool.or_eq_true] at h
    simp only [idxN]
    cases hb : Nat.beq x r with
    | true =>
      obtain rfl := Nat.eq_of_beq_eq_true hb
      refine ⟨?_, rfl⟩
      simp only [List.map_cons, cond_true, hget]
      cases hget L x <;> rfl
    | false =>
      have : memB r rs = true := by
        rcases h with h | h
        · have := Nat.eq_of_beq_eq_true h
          subst this
          simp at hb
        · exact h
      exact pick_idx_aux rs0 rs L r this

theorem pick_idx (rs : List Nat) (L : Heap) (r : Nat) (h : memB r rs = true) : hget (pickL rs L) (idxN r rs) = (hget L r).map (renR rs) ∧ getN rs (idxN r rs) = r := pick_idx_aux rs rs L r h

theorem renR_t (rs : List Nat) (A : Arr) : (renR rs A).t = A.t := by unfold renR; split <;> rfl
theorem renR_sm (rs : List Nat) (A : Arr) : (renR rs A).sm = A.sm := by unfold renR; split <;> rfl
theorem renR_bor (rs : List Nat) (A : Arr) : (renR rs A).bor = A.bor := by unfold renR; split <;> rfl
theorem renR_len (rs : List Nat) (A : Arr) : (renR rs A).xs.length = A.xs.length := by unfold renR; split <;> rfl
theorem renR_ent {w0 w : World} {G : Nat → Prop} {rs : List Nat} {A : Arr} {v : Value} {bs : List Nat} : EntC w0 G w (renR rs A) v bs ↔ EntC w0 G w A v bs := by
  unfold renR
  split
  · exact Iff.rfl
  · exact Iff.rfl
theorem renR_ls {rs : List Nat} {A : Arr} : (∀ ls, A.ls = some ls → (renR rs A).ls = some (ls.map (renF rs))) ∧ ∀ ls', (renR rs A).ls = some ls' → ∃ ls, A.ls = some ls ∧ ls' = ls.map (renF rs) := by
  unfold renR
  split
  · rename_i ls h
    refine ⟨fun l hl => ?_, fun l hl => ?_⟩
    · rw [h] at hl; cases hl; rfl
    · cases hl; exact ⟨ls, h, rfl⟩
  · rename_i h
    refine ⟨fun l hl => ?_, fun l hl => ?_⟩
    · rw [h] at hl; cases hl
    · rw [h] at hl; cases hl

theorem heapIn_spec {rs : List Nat} {L : Heap} : ∀ {l : List Nat}, heapIn rs L l = true → ∀ r ∈ l, ∀ A ls, hget L r = some A → A.ls = some ls → inAll rs (refLs ls) = true
  | [], _, r, hr, _, _, _, _ => by cases hr
  | x :: l, h, r, hr, A, ls, hA, hls => by
    simp only [heapIn, Bool.and_eq_true] at h
    rcases List.mem_cons.1 hr with rfl | hr
    · have := h.1
      rw [hA] at this
      simp only [hls] at this
      exact this
    · exact heapIn_spec h.2 r hr A ls hA hls

theorem getN_mem : ∀ (rs : List Nat) (s : Nat), s < rs.length → getN rs s ∈ rs
  | [], s, h => by simp at h
  | x :: rs, 0, _ => by simp [getN]
  | x :: rs, s + 1, h => List.mem_cons_of_mem _ (getN_mem rs s (by simpa using h))

theorem getN_inj : ∀ (rs : List Nat), nodupB rs = true → ∀ s u, s < rs.length → u < rs.length → getN rs s = getN rs u → s = u
  | [], _, s, u, h, _, _ => by simp at h
  | x :: rs, hn, s, u, h1, h2, he => by
    simp only [nodupB, Bool.and_eq_true, Bool.not_eq_true'] at hn
    have hx : ∀ s, s < rs.length → getN rs s ≠ x := fun s hs e => by
      have := getN_mem rs s hs
      rw [e] at this
      have := memB_iff.2 this
      rw [hn.1] at this
      cases this
    cases s with
    | zero =>
      cases u with
      | zero => rfl
      | succ u => exact absurd he.symm (hx u (by simpa using h2))
    | succ s =>
      cases u with
      | zero => exact absurd he (hx s (by simpa using h1))
      | succ u => rw [getN_inj rs hn.2 s u (by simpa using h1) (by simpa using h2) he]

theorem inAll_spec {rs : List Nat} : ∀ {l : List Nat}, inAll rs l = true → ∀ r ∈ l, memB r rs = true
  | [], _, r, h => by cases h
  | a :: s, h, r, hr => by
    simp only [inAll, Bool.and_eq_true] at h
    rcases List.mem_cons.1 hr with rfl | hr
    · exact h.1
    · exact inAll_spec h.2 r hr

theorem envIn_spec {rs : List Nat} : ∀ {E : Env}, envIn rs E = true → ∀ i, ∀ r ∈ refsP (E.get i), memB r rs = true
  | [], _, i, r, h => by simp [Env.get, refsP, refA] at h
  | (j, p) :: E, h, i, r, hr => by
    simp only [envIn, Bool.and_eq_true] at h
    simp only [Env.get] at hr
    cases hj : Nat.beq j i with
    | true => rw [hj] at hr; exact inAll_spec h.1 r hr
    | false => rw [hj] at hr; exact envIn_spec h.2 i r hr

theorem get_renE (rs : List Nat) : ∀ (E : Env) (i : Nat), (renE rs E).get i = renP rs (E.get i)
  | [], i => rfl
  | (j, p) :: s, i => by
    simp only [renE, List.map_cons, Env.get]
    cases h : Nat.beq j i with
    | true => rfl
    | false => exact get_renE rs s i

theorem renO_rep {rs : List Nat} {r : Nat} {rg : Option (Nat × Nat)} {v : Value} (h : RepO L V r rg v) (hm : memB r rs = true) : RepO (pickL rs L) (fun s => V (getN rs s)) (idxN r rs) rg v := by
  obtain ⟨B, hB, h1, h2⟩ := h
  obtain ⟨e1, e2⟩ := pick_idx rs L r hm
  refine ⟨renR rs B, by rw [e1, hB]; rfl, fun hr => by show v = V (getN rs (idxN r rs)); rw [e2]; exact h1 hr, ?_⟩
  show SubSl _ _ (V (getN rs (idxN r rs))) _ _ _
  rw [e2, renR_len, renR_t]
  exact h2

theorem renLs_rep {w0 : World} {G : Nat → Prop} {rs : List Nat} : ∀ {ls : List Leaf} {cs : List Value}, RepLs w0 G L V ls cs → (∀ r ∈ refLs ls, memB r rs = true) → RepLs w0 G (pickL rs L) (fun s => V (getN rs s)) (ls.map (renF rs)) cs
  | [], _, h, _ => h
  | l :: ls, _, ⟨v, s, h, h1, h2⟩, hm => by
    refine ⟨v, s, h, ?_, renLs_rep h2 fun r hr => hm r (by simp [refLs, hr])⟩
    cases l with
    | osl r rg => exact renO_rep h1 (hm r (by simp [refLs, refL]))
    | _ => exact h1

theorem renA_rep {w0 : World} {G : Nat → Prop} {rs : List Nat} {A : Atom} {v : Value} (h : RepA w0 G L V A v) (hm : ∀ r ∈ refA A, memB r rs = true) : RepA w0 G (pickL rs L) (fun s => V (getN rs s)) (renA rs A) v := by
  cases A with
  | osl r rg => exact renO_rep h (hm r (by simp [refA]))
  | optr r i p =>
    obtain ⟨B, hB, h2⟩ := h
    obtain ⟨e1, e2⟩ := pick_idx rs L r (hm r (by simp [refA]))
    refine ⟨renR rs B, by rw [e1, hB]; rfl, ?_⟩
    show SubPt _ _ (V (getN rs (idxN r rs))) _ _ _
    rw [e2, renR_len, renR_t]
    exact h2
  | rcd t ls =>
    obtain ⟨cs, h1, h2, h3⟩ := h
    exact ⟨cs, h1, by simpa using h2, renLs_rep h3 hm⟩
  | bptr r o t =>
    obtain ⟨B, ls, b, off, hB, h1, h2, h3, h4⟩ := h
    obtain ⟨e1, e2⟩ := pick_idx rs L r (hm r (by simp [refA]))
    refine ⟨renR rs B, ls.map (renF rs), b, off, by rw [e1, hB]; rfl, renR_ls.1 ls h1, ?_, h3, by rw [renR_t]; exact h4⟩
    show V (getN rs (idxN r rs)) = _
    rw [e2]
    exact h2
  | _ => exact h

theorem renAs_rep {w0 : World} {G : Nat → Prop} {rs : List Nat} : ∀ {ats : List Atom} {vs : List Value}, RepAs w0 G L V ats vs → (∀ r ∈ ats.flatMap refA, memB r rs = true) → RepAs w0 G (pickL rs L) (fun s => V (getN rs s)) (ats.map (renA rs)) vs
  | [], _, h, _ => h
  | A :: s, vs, ⟨v, r, h, h1, h2⟩, ha => ⟨v, r, h, renA_rep h1 (fun r hr => ha r (by simp [hr])), renAs_rep h2 (fun r hr => ha r (by simp only [List.flatMap_cons, List.mem_append]; exact .inr hr))⟩

theorem RelV.renum (hR : RelV n K w0 G w a E L V own) {rs : List Nat} (hn : nodupB rs = true) (h : envIn rs E = true) (hh : heapIn rs L rs = true) : RelV n K w0 G w a (renE rs E) (pickL rs L) (fun s => V (getN rs s)) (fun s => own (getN rs s)) where
  glob := hR.glob
  kept := hR.kept
  size := hR.size
  defers := hR.defers
  glt := hR.glt
  gref := hR.gref
  gsub := hR.gsub
  gold := hR.gold
  gup := hR.gup
  heap := fun r A hr => by
    obtain ⟨_, B, hB, rfl⟩ := hget_pickL rs L r hr
    exact renR_ent.2 (hR.heap _ B hB)
  good := fun r A hr => by
    obtain ⟨_, B, hB, rfl⟩ := hget_pickL rs L r hr
    exact hR.good _ B hB
  nodup := fun r A hr => by
    obtain ⟨_, B, hB, rfl⟩ := hget_pickL rs L r hr
    exact hR.nodup _ B hB
  apart := fun r s A B hr hs hrs => by
    obtain ⟨l1, A', g1, rfl⟩ := hget_pickL rs L r hr
    obtain ⟨l2, B', g2, rfl⟩ := hget_pickL rs L s hs
    exact hR.apart _ _ A' B' g1 g2 fun e => hrs (getN_inj rs hn r s l1 l2 e)
  boxs := fun r A ls hr hls => by
    obtain ⟨l1, B, hB, rfl⟩ := hget_pickL rs L r hr
    obtain ⟨l0, h0, rfl⟩ := renR_ls.2 ls hls
    obtain ⟨b, off, cs, k1, k3, k4, k5, k6⟩ := hR.boxs _ B l0 hB h0
    rw [renR_t]
    exact ⟨b, off, cs, k1, k3, by simpa using k4, k5, renLs_rep k6 fun u hu => inAll_spec (heapIn_spec hh _ (getN_mem rs r l1) B l0 hB h0) u hu⟩
  small := fun r A q hr hq => by
    obtain ⟨_, B, hB, rfl⟩ := hget_pickL rs L r hr
    rw [renR_sm] at hq
    obtain ⟨g1, g2⟩ := hR.small _ B q hB hq
    exact ⟨g1, fun e => ⟨by rw [renR_bor]; exact (g2 e).1, renR_ent.2 (g2 e).2⟩⟩
  env := fun i => by
    rw [get_renE]
    have hi := hR.env i
    have hm := envIn_spec h i
    generalize E.get i = p at hi hm
    cases p with
    | a A => exact renA_rep hi hm
    | tup xs => obtain ⟨vs, hv, hr⟩ := hi; exact ⟨vs, hv, renAs_rep hr hm⟩
    | fn f xs => obtain ⟨vs, hv, hr⟩ := hi; exact ⟨vs, hv, renAs_rep hr hm⟩

end
end Go.Am

/- The abstract machine, part 19: regions are sound. -/
namespace Go.Am
set_option linter.unusedVariables false
set_option linter.unusedSimpArgs false

section
variable {P : Program} {n : Nat} {q : Nat → Value} {K : Ctx} {G : Nat → Prop} {w0 w : World} {a : Act} {V : Nat → Value} {own : Nat → List Nat}

theorem getD_some {tm : Array Value} {t : Nat} {v : Value} (h : tm.getD t undef = v) (hv : v ≠ undef) : tm[t]? = some v := by
  rw [Array.getD_eq_getD_getElem?] at h
  cases h1 : tm[t]? with
  | none => rw [h1] at h; exact absurd h.symm hv
  | some u => rw [h1] at h; simpa using h

theorem yield_bool {ops : Array Oper} {j : Nat} {o : Oper} {t : Nat} {d : Bool} (ho : ops[j]? = some o) (hd : o.dst = some t) (ht : a.tmps.getD t undef = .bool d) : yielded ops a.tmps j = some d := by
  unfold yielded
  have := getD_some ht (by intro h; cases h)
  simp [ho, hd, this]

theorem yield_none {ops : Array Oper} {j : Nat} {o : Oper} {t : Nat} {x : Array Value} (ho : ops[j]? = some o) (hd : o.dst = some t) (ht : a.tmps.getD t undef = .tuple x) : yielded ops a.tmps j = none := by
  unfold yielded
  rw [Array.getD_eq_getD_getElem?] at ht
  cases h1 : a.tmps[t]? with
  | none => simp [ho, hd, h1]
  | some u => rw [h1] at ht; simp at ht; subst ht; simp [ho, hd, h1]

theorem guardS_spec {ops : Array Oper} {S S' : St} {o : Oper} {b : Bool} (hR : RelV n K w0 G w a S.E S.L V own) (hd : DecOk q a S) (h : guardS ops.toList S o.guard = some (b, S')) (hc : All S'.cs) :
    Region.wanted o (yielded ops a.tmps) = b ∧ S'.E = S.E ∧ S'.L = S.L ∧ DecOk q a S' ∧ All S.cs := by
  unfold guardS at h
  split at h
  · rename_i hg
    cases h
    exact ⟨by simp [Region.wanted, hg], rfl, rfl, hd, hc⟩
  · rename_i j want hg
    split at h
    · rename_i p hp
      rw [nthO_eq] at hp
      have hp' : ops[j]? = some p := by simpa using hp
      split at h
      · rename_i t ht
        split at h
        · rename_i x hx
          cases h
          have hv := hR.valEq (x := .tmp t) (v := .tuple x) (by simp only [opnd]; rw [hx])
          refine ⟨?_, rfl, rfl, hd, hc⟩
          simp [Region.wanted, hg, yield_none hp' ht hv.1]
        · split at h
          · rename_i d S1 hdec
            cases h
            obtain ⟨h1, h2, h3, h4, h5⟩ := decideS_spec hR hd hdec hc
            refine ⟨?_, h2, h3, h4, h5⟩
            simp only [Region.wanted, hg, yield_bool hp' ht h1]
            cases d <;> cases want <;> rfl
          · cases h
      · cases h
    · cases h

theorem putS_spec {S S' : St} {E : Env} {L : Heap} {cs : List Prop} {d : Option Nat} {pv : PV} {v : Value} {w' : World} {V' : Nat → Value} {own' : Nat → List Nat}
    (h : putS n S E L cs d pv = some S') (hR : RelV n K w0 G w' a E L V' own') (hd : DecOk q a S) (hv : RepP w0 G L V' pv v) :
    RelV n K w0 G w' (a.put d v) S'.E S'.L V' own' ∧ DecOk q (a.put d v) S' ∧ S'.cs = S.cs ++ cs := by
  cases d with
  | none =>
    cases h
    exact ⟨hR, hd, rfl⟩
  | some d =>
    simp only [putS] at h
    split at h
    · rename_i hlt
      cases h
      simp only [Bool.and_eq_true, Bool.not_eq_true'] at hlt
      exact ⟨hR.put (Nat.le_of_ble_eq_true hlt.1) hv, hd.put d v (fun hm => by rw [memB_iff.2 hm] at hlt; cases hlt.2) rfl rfl, rfl⟩
    · cases h

theorem putS_cs {S S' : St} {E : Env} {L : Heap} {cs : List Prop} {d : Option Nat} {pv : PV} (h : putS n S E L cs d pv = some S') : S'.cs = S.cs ++ cs := by
  cases d with
  | none => cases h; rfl
  | some d =>
    simp only [putS] at h
    split at h
    · cases h; rfl
    · cases h

theorem decideS_cs {S S' : St} {t : Nat} {d : Bool} (h : decideS S t = some (d, S')) (hc : All S'.cs) : All S.cs := by
  unfold decideS at h
  split at h
  · cases h; exact hc
  · split at h
    · cases h; exact (All.append.1 hc).1
    · cases h

theorem guardS_cs {all : List Oper} {S S' : St} {g : Option (Nat × Bool)} {b : Bool} (h : guardS all S g = some (b, S')) (hc : All S'.cs) : All S.cs := by
  unfold guardS at h
  split at h
  · cases h; exact hc
  · split at h
    · split at h
      · split at h
        · cases h; exact hc
        · split at h
          · rename_i hdec; cases h; exact decideS_cs hdec hc
          · cases h
      · cases h
    · cases h

theorem stepO_cs {tab : List TI} {ext : Ext} {wr q : Bool} {all : List Oper} {S S' : St} {o : Oper} (h : stepO tab ext wr n q all S o = some S') (hc : All S'.cs) : All S.cs := by
  unfold stepO at h
  split at h
  · cases h
  · rename_i S1 hg
    have := putS_cs h
    rw [this] at hc
    exact guardS_cs hg (All.append.1 hc).1
  · rename_i S1 hg
    refine guardS_cs hg ?_
    split at h
    · split at h
      · rename_i d S2 hdec
        have := putS_cs h
        rw [this] at hc
        exact decideS_cs hdec (All.append.1 hc).1
      · cases h
    · split at h
      · split at h
        · have := putS_cs h
          rw [this] at hc
          exact (All.append.1 hc).1
        · cases h
      · split at h
        · have := putS_cs h
          rw [this] at hc
          exact (All.append.1 hc).1
        · cases h

theorem stepsO_cs {tab : List TI} {ext : Ext} {wr q : Bool} {all : List Oper} : ∀ {l : List Oper} {S S' : St} (h : stepsO tab ext wr n q all l S = some S') (hc : All S'.cs), All S.cs
  | [], S, S', h, hc => by cases h; exact hc
  | o :: r, S, S', h, hc => by
    simp only [stepsO] at h
    split at h
    · rename_i S1 h1
      exact stepO_cs h1 (stepsO_cs h hc)
    · cases h

theorem pick_run {ρ : Operand → Value} {o : Oper} {c x y : Operand} {d : Bool} (ho : o.op = .pick c x y) (hc : ρ c = .bool d) (w : World) : (execOp ρ o).run P w = .ok (.value (if d then ρ x else ρ y)) w := by
  simp only [execOp, ho, hc]
  simp [asBool]

theorem cond_rep {L : Heap} {p q : PV} {u v : Value} {d : Bool} (hp : RepP w0 G L V p u) (hq : RepP w0 G L V q v) : RepP w0 G L V (cond d p q) (if d then u else v) := by
  cases d
  · exact hq
  · exact hp

theorem stepO_wp {tab : List TI} {ext : Ext} (hT : TabOk P tab) (hX : ExtOk P ext) {wr : Bool} {ops : Array Oper} {S S' : St} {o : Oper} (hR : RelV n K w0 G w a S.E S.L V own) (hd : DecOk q a S)
    (h : stepO tab ext wr n false ops.toList S o = some S') (hc : All S'.cs) {Kt : Act → World → Prop} {Q : Exit → Act → World → Prop}
    (hK : ∀ a' w0' G' w' V' own', RelV n K w0' G' w' a' S'.E S'.L V' own' → DecOk q a' S' → Kt a' w') :
    if Region.wanted o (yielded ops a.tmps) then o.wp P a w Kt Q else Kt (a.put o.dst undef) w := by
  unfold stepO at h
  split at h
  · cases h
  · rename_i S1 hg
    have hcs := putS_cs h
    rw [hcs] at hc
    obtain ⟨h1, h2, h3, h4, h5⟩ := guardS_spec hR hd hg (All.append.1 hc).1
    rw [h1, if_neg (by simp)]
    have hR1 : RelV n K w0 G w a S1.E S1.L V own := by rw [h2, h3]; exact hR
    obtain ⟨g1, g2, _⟩ := putS_spec (v := undef) h hR1 h4 ⟨rfl, trivial⟩
    exact hK _ _ _ _ _ _ g1 g2
  · rename_i S1 hg
    have hc1 : All S1.cs := by
      split at h
      · split at h
        · rename_i d S2 hdec
          have hcs := putS_cs h
          rw [hcs] at hc
          exact decideS_cs hdec (All.append.1 hc).1
        · cases h
      · dsimp only at h
        split at h
        · have hcs := putS_cs h
          rw [hcs] at hc
          exact (All.append.1 hc).1
        · cases h
    obtain ⟨h1, h2, h3, h4, h5⟩ := guardS_spec hR hd hg hc1
    rw [h1, if_pos rfl]
    have hR1 : RelV n K w0 G w a S1.E S1.L V own := by rw [h2, h3]; exact hR
    split at h
    · rename_i c x y ho
      split at h
      · rename_i d S2 hdec
        have hcs := putS_cs h
        rw [hcs] at hc
        obtain ⟨k1, k2, k3, k4, k5⟩ := decideS_spec hR1 h4 hdec (All.append.1 hc).1
        have hR2 : RelV n K w0 G w a S2.E S2.L V own := by rw [k2, k3]; exact hR1
        obtain ⟨g1, g2, _⟩ := putS_spec h hR2 k4 (cond_rep (d := d) (hR2.opnd x) (hR2.opnd y))
        exact wp_of_value (w' := w) (pick_run ho k1 w) (hK _ _ _ _ _ _ g1 g2)
      · cases h
    · dsimp only at h
      split at h
      · rename_i cs pv E L hop
        have hcs := putS_cs h
        rw [hcs] at hc
        refine opMF_spec hT hX hR1 hop (All.append.1 hc).2 fun v w0' G' w' V' own' hR' hv => ?_
        obtain ⟨g1, g2, _⟩ := putS_spec h hR' h4 hv
        exact hK _ _ _ _ _ _ g1 g2
      · cases h

theorem stepsO_wp {tab : List TI} {ext : Ext} (hT : TabOk P tab) (hX : ExtOk P ext) {wr : Bool} {ops : Array Oper} {Q : Exit → Act → World → Prop} : ∀ {w0 : World} {G : Nat → Prop} {l : List Oper} {S S' : St} {a : Act} {w : World} {V : Nat → Value} {own : Nat → List Nat} (hR : RelV n K w0 G w a S.E S.L V own) (hd : DecOk q a S)
    (h : stepsO tab ext wr n false ops.toList l S = some S') (hc : All S'.cs) (hK : ∀ a' w0' G' w' V' own', RelV n K w0' G' w' a' S'.E S'.L V' own' → DecOk q a' S' → Q .normal a' w'), wpList P ops Q l a w
  | w0, G, [], S, S', a, w, V, own, hR, hd, h, hc, hK => by
    cases h
    exact hK _ _ _ _ _ _ hR hd
  | w0, G, o :: r, S, S', a, w, V, own, hR, hd, h, hc, hK => by
    simp only [stepsO] at h
    split at h
    · rename_i S1 h1
      refine wpList_step fun K hKK => ?_
      exact stepO_wp hT hX hR hd h1 (stepsO_cs h hc) fun a' w0' G' w' V' own' hR' hd' => hKK _ _ (stepsO_wp hT hX hR' hd' h hc hK)
    · cases h

theorem stepO_quiet {tab : List TI} {ext : Ext} (hT : TabOk P tab) (hX : ExtOk P ext) {wr : Bool} {ops : Array Oper} {S S' : St} {o : Oper} (hR : RelV n K w0 G w a S.E S.L V own) (hd : DecOk q a S)
    (h : stepO tab ext wr n true ops.toList S o = some S') (hc : All S'.cs) :
    ∃ v, YieldsK P ops [] o v a w ∧ RelV n K w0 G w (a.put o.dst v) S'.E S'.L V own ∧ DecOk q (a.put o.dst v) S' := by
  unfold stepO at h
  split at h
  · cases h
  · rename_i S1 hg
    have hcs := putS_cs h
    rw [hcs] at hc
    obtain ⟨h1, h2, h3, h4, h5⟩ := guardS_spec hR hd hg (All.append.1 hc).1
    have hR1 : RelV n K w0 G w a S1.E S1.L V own := by rw [h2, h3]; exact hR
    obtain ⟨g1, g2, _⟩ := putS_spec (v := undef) h hR1 h4 ⟨rfl, trivial⟩
    exact ⟨undef, .inr ⟨h1, rfl⟩, g1, g2⟩
  · rename_i S1 hg
    have hc1 : All S1.cs := by
      split at h
      · split at h
        · rename_i d S2 hdec
          have hcs := putS_cs h
          rw [hcs] at hc
          exact decideS_cs hdec (All.append.1 hc).1
        · cases h
      · dsimp only at h
        split at h
        · have hcs := putS_cs h
          rw [hcs] at hc
          exact (All.append.1 hc).1
        · cases h
    obtain ⟨h1, h2, h3, h4, h5⟩ := guardS_spec hR hd hg hc1
    have hR1 : RelV n K w0 G w a S1.E S1.L V own := by rw [h2, h3]; exact hR
    split at h
    · rename_i c x y ho
      split at h
      · rename_i d S2 hdec
        have hcs := putS_cs h
        rw [hcs] at hc
        obtain ⟨k1, k2, k3, k4, k5⟩ := decideS_spec hR1 h4 hdec (All.append.1 hc).1
        have hR2 : RelV n K w0 G w a S2.E S2.L V own := by rw [k2, k3]; exact hR1
        obtain ⟨g1, g2, _⟩ := putS_spec h hR2 k4 (cond_rep (d := d) (hR2.opnd x) (hR2.opnd y))
        refine ⟨_, .inl ⟨h1, fun w' k => ?_⟩, g1, g2⟩
        unfold Oper.quietAt
        rw [pick_run ho k1 w']
        exact ⟨rfl, rfl⟩
      · cases h
    · dsimp only at h
      split at h
      · rename_i cs pv hop
        have hcs := putS_cs h
        rw [hcs] at hc
        obtain ⟨v, hv, hq⟩ := opQ_spec hT hX hR1 hop (All.append.1 hc).2
        obtain ⟨g1, g2, _⟩ := putS_spec h hR1 h4 hv
        exact ⟨v, .inl ⟨h1, hq⟩, g1, g2⟩
      · cases h

def decO1 (all : List Oper) (S : St) (o : Oper) : Option St :=
  match guardS all S o.guard with
  | none => none
  | some (false, S) => some S
  | some (true, S) => match o.op with
    | .pick (.tmp c) _ _ => match decideS S c with
      | some (_, S) => some S
      | none => none
    | _ => some S

def decOs (all : List Oper) : List Nat → St → Option St
  | [], S => some S
  | i :: r, S => match nthO all i with
    | some o => match decO1 all S o with
      | some S => decOs all r S
      | none => none
    | none => none

def firstQ (tab : List TI) (ext : Ext) (wr : Bool) (n : Nat) (ops : Array Oper) (listed : Array Bool) (S : St) : List Nat → Option (Nat × St)
  | [] => none
  | i :: r => match nthO ops.toList i, Region.free .any ops listed i with
    | some o, true => match stepO tab ext wr n true ops.toList S o with
      | some S' => some (i, S')
      | none => firstQ tab ext wr n ops listed S r
    | _, _ => firstQ tab ext wr n ops listed S r

def stepK (tab : List TI) (ext : Ext) (n : Nat) (all : List Oper) (S : St) (o : Oper) : Option St :=
  match guardS all S o.guard with
  | some (true, S) => match opK tab ext S.E S.L o.op with
    | some (cs, pv, L) => putS n S S.E L cs o.dst pv
    | none => none
  | _ => none

def frzS (S : St) (op : Op) : St := ⟨S.path, S.dec, (frzOp op (S.E, S.L)).1, (frzOp op (S.E, S.L)).2, S.cs, S.pins⟩

def stepB (tab : List TI) (ext : Ext) (wr : Bool) (n : Nat) (ops : Array Oper) (listed : Array Bool) (i : Nat) (S : St) (o : Oper) : Option St :=
  match stepK tab ext n ops.toList S o with
  | some S' => some S'
  | none => match barB ops listed i with
    | true => stepO tab ext wr n false ops.toList S o
    | false => match stepO tab ext wr n true ops.toList (frzS S o.op) o with
      | some S' => some S'
      | none => stepK tab ext n ops.toList (frzS S o.op) o

def SameS (E : Env) (L : Heap) (E' : Env) (L' : Heap) : Prop := (E, L) = (E', L')
def tabE (E : Env) : Nat → Env → Env
  | 0, acc => acc
  | k + 1, acc => tabE E k (match E.get k with
    | .a .junk => acc
    | p => (k, p) :: acc)
def joinS (n : Nat) (A B : St) : St := ⟨A.path, [], tabE A.E n [], A.L, A.cs ++ (B.cs ++ [SameS (tabE A.E n []) A.L (tabE B.E n []) B.L]), A.pins⟩
theorem tabE_high (E : Env) (i : Nat) : ∀ (k : Nat) (acc : Env), k ≤ i → (tabE E k acc).get i = acc.get i
  | 0, acc, _ => rfl
  | k + 1, acc, h => by
    unfold tabE
    rw [tabE_high E i k _ (by omega)]
    split
    · rfl
    · show cond (Nat.beq k i) (E.get k) (Env.get acc i) = Env.get acc i
      cases hb : Nat.beq k i with
      | true => have := Nat.eq_of_beq_eq_true hb; omega
      | false => rfl
theorem tabE_low (E : Env) (i : Nat) : ∀ (k : Nat) (acc : Env), i < k → (tabE E k acc).get i = E.get i ∨ (E.get i = .a .junk ∧ (tabE E k acc).get i = acc.get i)
  | 0, acc, h => absurd h (Nat.not_lt_zero _)
  | k + 1, acc, h => by
    unfold tabE
    by_cases hk : i < k
    · rcases tabE_low E i k (match E.get k with
        | .a .junk => acc
        | p => (k, p) :: acc) hk with h1 | ⟨h1, h2⟩
      · exact .inl h1
      · refine .inr ⟨h1, h2.trans ?_⟩
        split
        · rfl
        · show cond (Nat.beq k i) (E.get k) (Env.get acc i) = Env.get acc i
          cases hb : Nat.beq k i with
          | true => have := Nat.eq_of_beq_eq_true hb; omega
          | false => rfl
    · have hik : i = k := by omega
      subst hik
      rw [tabE_high E i i _ (Nat.le_refl _)]
      split
      · rename_i hj
        exact .inr ⟨hj, rfl⟩
      · refine .inl ?_
        show cond (Nat.beq i i) (E.get i) (Env.get acc i) = E.get i
        cases hb : Nat.beq i i with
        | true => rfl
        | false => rw [show Nat.beq i i = true from Nat.beq_refl i] at hb; cases hb
theorem RelV.tab {n : Nat} {K : Ctx} {G : Nat → Prop} {w0 w : World} {a : Act} {E : Env} {L : Heap} {V : Nat → Value} {own : Nat → List Nat} (h : RelV n K w0 G w a E L V own) : RelV n K w0 G w a (tabE E n []) L V own := by
  have he : ∀ i, RepP w0 G L V ((tabE E n []).get i) (a.tmps.getD i undef) := fun i => by
    by_cases hi : i < n
    · rcases tabE_low E i n [] hi with e | ⟨e1, e2⟩
      · rw [e]
        exact h.env i
      · have := h.env i
        rw [e1] at this
        rw [e2]
        exact this
    · rw [tabE_high E i n [] (by omega)]
      have hs := h.size
      have : a.tmps.getD i undef = undef := by
        rw [Array.getD_eq_getD_getElem?, Array.getElem?_eq_none (by omega)]
        rfl
      rw [this]
      exact trivial
  exact { h with env := he }
def refP1 : PV → Option Nat
  | .a (.osl r _) => some r
  | .a (.optr r _ _) => some r
  | .a (.bptr r _ _) => some r
  | _ => none
def needSw (A B : Env) : Nat → Bool
  | 0 => false
  | k + 1 => match refP1 (A.get k), refP1 (B.get k) with
    | some r, some s => match Nat.beq r s with
      | true => needSw A B k
      | false => true
    | _, _ => needSw A B k
def swL (m : Nat) : Nat → List Nat → List Nat
  | 0, acc => acc
  | k + 1, acc => swL m k ((match Nat.beq k m with
    | true => m + 1
    | false => match Nat.beq k (m + 1) with
      | true => m
      | false => k) :: acc)
def normB (n m : Nat) (A B : St) : Option St := match needSw A.E B.E n with
  | false => some B
  | true => match nodupB (swL m B.L.length []) && (envIn (swL m B.L.length []) B.E && heapIn (swL m B.L.length []) B.L (swL m B.L.length [])) with
    | true => some ⟨B.path, B.dec, renE (swL m B.L.length []) B.E, pickL (swL m B.L.length []) B.L, B.cs, B.pins⟩
    | false => none
theorem normB_spec {n m : Nat} {A B B' : St} (h : normB n m A B = some B') : B'.cs = B.cs ∧ B'.pins = B.pins ∧ ∀ {k : Nat} {K : Ctx} {G : Nat → Prop} {w0 w : World} {a : Act} {V : Nat → Value} {own : Nat → List Nat}, RelV k K w0 G w a B.E B.L V own → ∃ V' own', RelV k K w0 G w a B'.E B'.L V' own' := by
  unfold normB at h
  split at h
  · cases h
    exact ⟨rfl, rfl, fun hr => ⟨_, _, hr⟩⟩
  · split at h
    · rename_i hc
      simp only [Bool.and_eq_true] at hc
      cases h
      exact ⟨rfl, rfl, fun hr => ⟨_, _, hr.renum hc.1 hc.2.1 hc.2.2⟩⟩
    · cases h
def eqNs : List Nat → List Nat → Bool
  | [], [] => true
  | a :: r, b :: s => match Nat.beq a b with
    | true => eqNs r s
    | false => false
  | _, _ => false
theorem eqNs_spec : ∀ {l m : List Nat}, eqNs l m = true → l = m
  | [], [], _ => rfl
  | [], _ :: _, h => by cases h
  | _ :: _, [], h => by cases h
  | a :: r, b :: s, h => by
    unfold eqNs at h
    split at h
    · rename_i e
      rw [Nat.eq_of_beq_eq_true e, eqNs_spec h]
    · cases h

def schedS (tab : List TI) (ext : Ext) (wr : Bool) (n : Nat) (ops : Array Oper) : Nat → Array Bool → St → Option St
  | 0, listed, S => match Region.ready .any ops listed with
    | [] => some S
    | _ => none
  | m + 1, listed, S => match Region.ready .any ops listed with
    | [] => some S
    | i :: r => match decOs ops.toList (i :: r) S with
      | none => none
      | some S => match firstQ tab ext wr n ops listed S (i :: r) with
        | some (j, S') => schedS tab ext wr n ops m (listed.setIfInBounds j true) S'
        | none => match r, nthO ops.toList i with
          | [], some o => match stepB tab ext wr n ops listed i S o with
            | some S' => schedS tab ext wr n ops m (listed.setIfInBounds i true) S'
            | none => none
          | [j], some o => match nthO ops.toList j with
            | some p => match stepB tab ext wr n ops listed i S o, stepB tab ext wr n ops listed j ⟨S.path, S.dec, S.E, S.L, [], S.pins⟩ p with
              | some S1, some S2 => match schedS tab ext wr n ops m (listed.setIfInBounds i true) S1, schedS tab ext wr n ops m (listed.setIfInBounds j true) S2 with
                | some A, some B => match normB n S.L.length A B with
                  | some B' => match eqNs A.pins B'.pins with
                    | true => some (joinS n A B')
                    | false => none
                  | none => none
                | _, _ => none
              | _, _ => none
            | none => none
          | _, _ => none

theorem decO1_cs {all : List Oper} {S S' : St} {o : Oper} (h : decO1 all S o = some S') (hc : All S'.cs) : All S.cs := by
  unfold decO1 at h
  split at h
  · cases h
  · rename_i hg; cases h; exact guardS_cs hg hc
  · rename_i hg
    refine guardS_cs hg ?_
    split at h
    · split at h
      · rename_i hd; cases h; exact decideS_cs hd hc
      · cases h
    · cases h; exact hc

theorem decO1_spec {ops : Array Oper} {S S' : St} {o : Oper} (hR : RelV n K w0 G w a S.E S.L V own) (hd : DecOk q a S) (h : decO1 ops.toList S o = some S') (hc : All S'.cs) :
    S'.E = S.E ∧ S'.L = S.L ∧ DecOk q a S' := by
  unfold decO1 at h
  split at h
  · cases h
  · rename_i S1 hg
    cases h
    obtain ⟨_, h2, h3, h4, _⟩ := guardS_spec hR hd hg hc
    exact ⟨h2, h3, h4⟩
  · rename_i S1 hg
    split at h
    · split at h
      · rename_i hdec
        cases h
        obtain ⟨_, h2, h3, h4, _⟩ := guardS_spec hR hd hg (decideS_cs hdec hc)
        have hR1 : RelV n K w0 G w a S1.E S1.L V own := by rw [h2, h3]; exact hR
        obtain ⟨_, k2, k3, k4, _⟩ := decideS_spec hR1 h4 hdec hc
        exact ⟨k2.trans h2, k3.trans h3, k4⟩
      · cases h
    · cases h
      obtain ⟨_, h2, h3, h4, _⟩ := guardS_spec hR hd hg hc
      exact ⟨h2, h3, h4⟩

theorem decOs_cs {all : List Oper} : ∀ {is : List Nat} {S S' : St}, decOs all is S = some S' → All S'.cs → All S.cs
  | [], _, _, h, hc => by cases h; exact hc
  | i :: r, S, S', h, hc => by
    simp only [decOs] at h
    split at h
    · split at h
      · rename_i h1
        exact decO1_cs h1 (decOs_cs h hc)
      · cases h
    · cases h

theorem decOs_spec {ops : Array Oper} : ∀ {is : List Nat} {S S' : St}, RelV n K w0 G w a S.E S.L V own → DecOk q a S → decOs ops.toList is S = some S' → All S'.cs → S'.E = S.E ∧ S'.L = S.L ∧ DecOk q a S'
  | [], _, _, _, hd, h, hc => by cases h; exact ⟨rfl, rfl, hd⟩
  | i :: r, S, S', hR, hd, h, hc => by
    simp only [decOs] at h
    split at h
    · split at h
      · rename_i S1 h1
        obtain ⟨e1, e2, e3⟩ := decO1_spec hR hd h1 (decOs_cs h hc)
        obtain ⟨f1, f2, f3⟩ := decOs_spec (S := S1) (by rw [e1, e2]; exact hR) e3 h hc
        exact ⟨f1.trans e1, f2.trans e2, f3⟩
      · cases h
    · cases h

theorem firstQ_spec {tab : List TI} {ext : Ext} {wr : Bool} {ops : Array Oper} {listed : Array Bool} {S : St} {j : Nat} {S' : St} : ∀ {rs : List Nat}, firstQ tab ext wr n ops listed S rs = some (j, S') →
    j ∈ rs ∧ ∃ o, ops[j]? = some o ∧ Region.free .any ops listed j = true ∧ stepO tab ext wr n true ops.toList S o = some S'
  | [], h => by cases h
  | i :: r, h => by
    simp only [firstQ] at h
    have rest : firstQ tab ext wr n ops listed S r = some (j, S') → j ∈ i :: r ∧ ∃ o, ops[j]? = some o ∧ Region.free .any ops listed j = true ∧ stepO tab ext wr n true ops.toList S o = some S' := fun h => by
      obtain ⟨h1, h2⟩ := firstQ_spec h
      exact ⟨List.mem_cons_of_mem _ h1, h2⟩
    split at h
    · rename_i o ho hf
      split at h
      · rename_i S1 h1
        cases h
        rw [nthO_eq] at ho
        exact ⟨List.mem_cons_self .., o, by simpa using ho, hf, h1⟩
      · exact rest h
    · exact rest h

theorem stepK_cs {tab : List TI} {ext : Ext} {all : List Oper} {S S' : St} {o : Oper} (h : stepK tab ext n all S o = some S') (hc : All S'.cs) : All S.cs := by
  unfold stepK at h
  split at h
  · rename_i hg
    split at h
    · have := putS_cs h
      rw [this] at hc
      exact guardS_cs hg (All.append.1 hc).1
    · cases h
  · cases h

theorem stepB_cs {tab : List TI} {ext : Ext} {wr : Bool} {ops : Array Oper} {listed : Array Bool} {i : Nat} {S S' : St} {o : Oper} (h : stepB tab ext wr n ops listed i S o = some S') (hc : All S'.cs) : All S.cs := by
  unfold stepB at h
  split at h
  · rename_i h1; cases h; exact stepK_cs h1 hc
  · split at h
    · exact stepO_cs h hc
    · split at h
      · rename_i h1
        cases h
        have := stepO_cs h1 hc
        exact this
      · have := stepK_cs h hc
        exact this

theorem stepK_wp {tab : List TI} {ext : Ext} (hT : TabOk P tab) (hX : ExtOk P ext) {ops : Array Oper} {S S' : St} {o : Oper} (hR : RelV n K w0 G w a S.E S.L V own) (hd : DecOk q a S)
    (h : stepK tab ext n ops.toList S o = some S') (hc : All S'.cs) {Kt : Act → World → Prop} {Q : Exit → Act → World → Prop}
    (hK : ∀ a' w0' G' w' V' own', Kept [] w w' → RelV n K w0' G' w' a' S'.E S'.L V' own' → DecOk q a' S' → Kt a' w') :
    if Region.wanted o (yielded ops a.tmps) then o.wp P a w Kt Q else Kt (a.put o.dst undef) w := by
  unfold stepK at h
  split at h
  · rename_i S1 hg
    split at h
    · rename_i cs pv L hop
      have hcs := putS_cs h
      rw [hcs] at hc
      obtain ⟨h1, h2, h3, h4, h5⟩ := guardS_spec hR hd hg (All.append.1 hc).1
      rw [h1, if_pos rfl]
      have hR1 : RelV n K w0 G w a S1.E S1.L V own := by rw [h2, h3]; exact hR
      refine opK_spec hT hX hR1 hop (All.append.1 hc).2 fun v w0' G' w' V' own' k hR' hv => ?_
      obtain ⟨g1, g2, _⟩ := putS_spec h hR' h4 hv
      exact hK _ _ _ _ _ _ k g1 g2
    · cases h
  · cases h

theorem stepB_wp {tab : List TI} {ext : Ext} (hT : TabOk P tab) (hX : ExtOk P ext) {wr : Bool} {ops : Array Oper} {listed : Array Bool} {i : Nat} {S S' : St} {o : Oper} (hR : RelV n K w0 G w a S.E S.L V own) (hd : DecOk q a S)
    (h : stepB tab ext wr n ops listed i S o = some S') (hc : All S'.cs) {Kt : Act → World → Prop} {Q : Exit → Act → World → Prop}
    (hK : ∀ a' w0' G' w' V' own', (barB ops listed i = true ∨ Kept [] w w') → RelV n K w0' G' w' a' S'.E S'.L V' own' → DecOk q a' S' → Kt a' w') :
    if Region.wanted o (yielded ops a.tmps) then o.wp P a w Kt Q else Kt (a.put o.dst undef) w := by
  unfold stepB at h
  split at h
  · rename_i h1
    cases h
    exact stepK_wp hT hX hR hd h1 hc fun a' w0' G' w' V' own' k => hK a' w0' G' w' V' own' (.inr k)
  · split at h
    · rename_i hb
      exact stepO_wp hT hX hR hd h hc fun a' w0' G' w' V' own' => hK a' w0' G' w' V' own' (.inl hb)
    · obtain ⟨w1, G1, hR1⟩ := frzOp_spec hR o.op
      have hR1 : RelV n K w1 G1 w a (frzS S o.op).E (frzS S o.op).L V own := hR1
      have hd1 : DecOk q a (frzS S o.op) := hd
      split at h
      · rename_i h1
        cases h
        obtain ⟨v, hy, g1, g2⟩ := stepO_quiet hT hX hR1 hd1 h1 hc
        rcases hy with ⟨hw, hv⟩ | ⟨hw, rfl⟩
        · rw [hw, if_pos rfl]
          refine Oper.wp_of_quiet (C := Kept [] w) (K := fun a' => a' = a.put o.dst v) (Kept.refl _ _) (fun a' w' k e => by subst e; exact hK _ _ _ _ _ _ (.inr k) (g1.ext k) g2) ⟨v, fun w' k => ?_, rfl⟩
          have := hv w' k
          unfold Oper.quietAt at this ⊢
          generalize (execOp a.eval o).run P w' = r at *
          cases r with
          | ok nx w2 =>
            cases nx <;> simp only [Oper.quietUpon] at this ⊢
            case value u => exact this
            case skip => exact this
            case enter f args => exact ⟨this.1, this.2.mono fun e w3 hh => ⟨hh.1, k.trans hh.2⟩⟩
          | halt x w2 => simp only [Oper.quietUpon] at this
        · rw [hw]
          exact hK _ _ _ _ _ _ (.inr (Kept.refl _ _)) g1 g2
      · exact stepK_wp hT hX hR1 hd1 h hc fun a' w0' G' w' V' own' k => hK a' w0' G' w' V' own' (.inr k)

theorem schedS_cs {tab : List TI} {ext : Ext} {wr : Bool} {ops : Array Oper} {S' : St} : ∀ {m : Nat} {listed : Array Bool} {S : St}, schedS tab ext wr n ops m listed S = some S' → All S'.cs → All S.cs
  | 0, listed, S, h, hc => by
    simp only [schedS] at h
    split at h
    · cases h; exact hc
    · cases h
  | m + 1, listed, S, h, hc => by
    simp only [schedS] at h
    split at h
    · cases h; exact hc
    · split at h
      · cases h
      · rename_i S1 hdec
        refine decOs_cs hdec ?_
        split at h
        · rename_i j S2 hq
          obtain ⟨_, o, _, _, hst⟩ := firstQ_spec hq
          exact stepO_cs hst (schedS_cs h hc)
        · split at h
          · split at h
            · rename_i S2 hB
              exact stepB_cs hB (schedS_cs h hc)
            · cases h
          · split at h
            · split at h
              · rename_i S2 S3 hA hB
                split at h
                · rename_i A B hA2 hB2
                  split at h
                  · split at h
                    · cases h
                      exact stepB_cs hA (schedS_cs hA2 (All.append.1 hc).1)
                    · cases h
                  · cases h
                · cases h
              · cases h
            · cases h
          · cases h

theorem schedS_spec {tab : List TI} {ext : Ext} (hT : TabOk P tab) (hX : ExtOk P ext) {wr : Bool} {ops : Array Oper} {Q : Exit → Act → World → Prop} (hs : Region.noSelect ops = true) (hQ : ∀ c a w, ¬ Q (.panic c) a w) {S' : St}
    (hc : All S'.cs) (hK : ∀ a' w0' G' w' V' own', RelV n K w0' G' w' a' S'.E S'.L V' own' → DecOk q a' S' → Q .normal a' w') : ∀ {w0 : World} {G : Nat → Prop} {m : Nat} {listed : Array Bool} {S : St} {a : Act} {w : World} {V : Nat → Value} {own : Nat → List Nat},
    RelV n K w0 G w a S.E S.L V own → DecOk q a S → Down ops listed → schedS tab ext wr n ops m listed S = some S' → wpAnyK P ops Q [] m listed a w
  | w0, G, 0, listed, S, a, w, V, own, hR, hd, hD, h => by
    simp only [schedS] at h
    split at h
    · rename_i hr
      cases h
      exact fun w1 k => ⟨hr, hK _ _ _ _ _ _ (hR.ext k) hd⟩
    · cases h
  | w0, G, m + 1, listed, S, a, w, V, own, hR, hd, hD, h => by
    simp only [schedS] at h
    split at h
    · rename_i hr
      cases h
      exact fun w1 k => ⟨fun _ => hK _ _ _ _ _ _ (hR.ext k) hd, by rw [hr]; simp⟩
    · rename_i i r hr
      split at h
      · cases h
      · rename_i S1 hdec
        split at h
        · rename_i j S2 hq
          obtain ⟨hjr, o, ho, hf, hst⟩ := firstQ_spec hq
          rw [← hr] at hjr
          have hc2 : All S2.cs := schedS_cs h hc
          have hc1 : All S1.cs := stepO_cs hst hc2
          obtain ⟨e1, e2, e3⟩ := decOs_spec hR hd hdec hc1
          have hR1 : RelV n K w0 G w a S1.E S1.L V own := by rw [e1, e2]; exact hR
          obtain ⟨v, hy, g1, g2⟩ := stepO_quiet hT hX hR1 e3 hst hc2
          refine wpAnyK_first ho (Region.noSelect_spec hs) hQ m listed a w hD (Region.free_spec ho hf) hjr hy ?_
          exact schedS_spec hT hX hs hQ hc hK g1 g2 (hD.set hjr) h
        · split at h
          · rename_i o hno _
            rw [nthO_eq] at hno
            have ho : ops[i]? = some o := by simpa using hno
            split at h
            · rename_i S2 hB
              have hc2 : All S2.cs := schedS_cs h hc
              have hc1 : All S1.cs := stepB_cs hB hc2
              obtain ⟨e1, e2, e3⟩ := decOs_spec hR hd hdec hc1
              have hir : i ∈ Region.ready .any ops listed := by rw [hr]; simp
              refine fun w1 k => ⟨fun h0 => by (rw [hr] at h0; cases h0), fun j hj => ?_⟩
              have hji : j = i := by rw [hr] at hj; simpa using hj
              subst hji
              have hR1 : RelV n K w0 G w1 a S1.E S1.L V own := by rw [e1, e2]; exact hR.ext k
              unfold wpOp
              simp only [ho]
              have := stepB_wp (Kt := fun a' w' => (barB ops listed j = true ∨ Kept [] w1 w') ∧ wpAnyK P ops Q [] m (listed.setIfInBounds j true) a' w') (Q := Q) hT hX hR1 e3 hB hc2 (fun a' w0' G' w' V' own' hb hR' hd' => ⟨hb, schedS_spec hT hX hs hQ hc hK hR' hd' (hD.set hir) h⟩)
              split
              · rename_i hw; rw [if_pos hw] at this; exact .inl this
              · rename_i hw; rw [if_neg hw] at this; exact this
            · cases h
          · rename_i j o hno _
            split at h
            · rename_i p hnp
              rw [nthO_eq] at hno hnp
              have ho : ops[i]? = some o := by simpa using hno
              have hp : ops[j]? = some p := by simpa using hnp
              split at h
              · rename_i S2 S3 hA hB
                split at h
                · rename_i A B hA2 hB2
                  split at h
                  case h_2 => cases h
                  rename_i B' hnB
                  obtain ⟨nb1, nb2, nb3⟩ := normB_spec hnB
                  split at h
                  case h_2 => cases h
                  rename_i hpn
                  have hpn := eqNs_spec hpn
                  cases h
                  have hcA : All A.cs := (All.append.1 hc).1
                  have hcB : All B.cs := by rw [← nb1]; exact (All.append.1 (All.append.1 hc).2).1
                  have heq : (tabE A.E n [], A.L) = (tabE B'.E n [], B'.L) := (All.append.1 (All.append.1 hc).2).2.1
                  have hc2 : All S2.cs := schedS_cs hA2 hcA
                  have hc3 : All S3.cs := schedS_cs hB2 hcB
                  have hc1 : All S1.cs := stepB_cs hA hc2
                  obtain ⟨e1, e2, e3⟩ := decOs_spec hR hd hdec hc1
                  have hKA : ∀ a' w0' G' w' V' own', RelV n K w0' G' w' a' A.E A.L V' own' → DecOk q a' A → Q .normal a' w' := fun a' w0' G' w' V' own' hr' hd' =>
                    hK a' w0' G' w' V' own' hr'.tab ⟨fun t d hl => (by cases hl), hd'.2⟩
                  have hKB : ∀ a' w0' G' w' V' own', RelV n K w0' G' w' a' B.E B.L V' own' → DecOk q a' B → Q .normal a' w' := fun a' w0' G' w' V' own' hr' hd' => by
                    obtain ⟨V2, own2, hr2⟩ := nb3 hr'
                    refine hK a' w0' G' w' V2 own2 ?_ ⟨fun t d hl => (by cases hl), ?_⟩
                    · have k1 : tabE A.E n [] = tabE B'.E n [] := congrArg Prod.fst heq
                      have k2 : A.L = B'.L := congrArg Prod.snd heq
                      show RelV n K w0' G' w' a' (tabE A.E n []) A.L V2 own2
                      rw [k1, k2]; exact hr2.tab
                    · show ∀ t ∈ A.pins, a'.tmps.getD t undef = q t
                      rw [hpn, nb2]; exact hd'.2
                  have hir : i ∈ Region.ready .any ops listed := by rw [hr]; simp
                  have hjr : j ∈ Region.ready .any ops listed := by rw [hr]; simp
                  refine fun w1 k => ⟨fun h0 => by (rw [hr] at h0; cases h0), fun c hk => ?_⟩
                  have hkk : c = i ∨ c = j := by rw [hr] at hk; simpa using hk
                  have hR1 : RelV n K w0 G w1 a S1.E S1.L V own := by rw [e1, e2]; exact hR.ext k
                  rcases hkk with rfl | rfl
                  · unfold wpOp
                    simp only [ho]
                    have := stepB_wp (Kt := fun a' w' => (barB ops listed c = true ∨ Kept [] w1 w') ∧ wpAnyK P ops Q [] m (listed.setIfInBounds c true) a' w') (Q := Q) hT hX hR1 e3 hA hc2 (fun a' w0' G' w' V' own' hb hR' hd' => ⟨hb, schedS_spec hT hX hs hQ hcA hKA hR' hd' (hD.set hir) hA2⟩)
                    split
                    · rename_i hw; rw [if_pos hw] at this; exact .inl this
                    · rename_i hw; rw [if_neg hw] at this; exact this
                  · unfold wpOp
                    simp only [hp]
                    have := stepB_wp (Kt := fun a' w' => (barB ops listed c = true ∨ Kept [] w1 w') ∧ wpAnyK P ops Q [] m (listed.setIfInBounds c true) a' w') (Q := Q) (S := ⟨S1.path, S1.dec, S1.E, S1.L, [], S1.pins⟩) hT hX hR1 e3 hB hc3 (fun a' w0' G' w' V' own' hb hR' hd' => ⟨hb, schedS_spec hT hX hs hQ hcB hKB hR' hd' (hD.set hjr) hB2⟩)
                    split
                    · rename_i hw; rw [if_pos hw] at this; exact .inl this
                    · rename_i hw; rw [if_neg hw] at this; exact this
                · cases h
              · cases h
            · cases h
          · cases h


def bitsL : List Nat → Nat
  | [] => 0
  | d :: r => Nat.lor (Nat.shiftLeft 1 d) (bitsL r)

theorem one_shl_bit (x d : Nat) : (1 <<< x).testBit d = decide (x = d) := by
  rw [Nat.one_shiftLeft, Nat.testBit_two_pow]

theorem bitsL_mem : ∀ (l : List Nat) (d : Nat), (bitsL l).testBit d = decide (d ∈ l)
  | [], d => by simp [bitsL]
  | x :: r, d => by
    have e : bitsL (x :: r) = (1 <<< x) ||| bitsL r := rfl
    rw [e, Nat.testBit_or, bitsL_mem r d, one_shl_bit]
    by_cases hx : x = d
    · subst hx; simp
    · have : ¬ d = x := fun h => hx h.symm
      simp [hx, this]

structure OpI where
  looks : Nat
  dst : Nat
  pre : Nat
  loud : Bool

def loudOp : Op → Bool
  | .call { callee := .builtin .len, .. } => false
  | .call _ => true
  | .box _ _ => true
  | .alloc _ => true
  | .buildSlice _ _ _ => true
  | .makeSlice _ _ _ => true
  | .store _ _ _ => true
  | .convert _ _ _ => true
  | _ => false

def dstL (o : Oper) : List Nat := match o.dst with | some d => [d] | none => []
def preL (o : Oper) : List Nat := (o.after.toList.filter fun e => Region.binds .any e).map fun e => e.on

def opI (ops : Array Oper) (o : Oper) : OpI := ⟨bitsL (o.looksAt ops), bitsL (dstL o), bitsL (preL o), loudOp o.op⟩

def pairsB (y : OpI) (j : Nat) : Nat → List OpI → Bool
  | _, [] => true
  | k, x :: r => match Nat.beq k j with
    | true => true
    | false => match Nat.beq (Nat.land y.pre (Nat.shiftLeft 1 k)) 0 with
      | false => pairsB y j (k + 1) r
      | true => Nat.beq (Nat.land (Nat.lor y.looks y.dst) x.dst) 0 && (Nat.beq (Nat.land x.looks y.dst) 0 && pairsB y j (k + 1) r)

def onlyB (j : Nat) : List OpI → Bool
  | [] => true
  | x :: r => !Nat.beq (Nat.shiftRight x.pre j) 0 && onlyB j r

def seqB (all : List OpI) : Nat → List OpI → Bool
  | _, [] => true
  | j, y :: r => Nat.beq (Nat.shiftRight y.pre j) 0 && (pairsB y j 0 all && ((match y.loud with | true => onlyB j r | false => true) && seqB all (j + 1) r))

def seqOk (ops : Array Oper) : Bool := match ops.toList.map (opI ops) with
  | all => seqB all 0 all

def seqS (tab : List TI) (ext : Ext) (wr : Bool) (n : Nat) (ops : Array Oper) : Nat → Array Bool → List Oper → St → Option St
  | _, _, [], S => some S
  | j, listed, o :: r, S => match loudOp o.op with
    | false => match stepO tab ext wr n true ops.toList S o with
      | some S' => seqS tab ext wr n ops (j + 1) (listed.setIfInBounds j true) r S'
      | none => none
    | true => match stepO tab ext wr n true ops.toList S o with
      | some S' => seqS tab ext wr n ops (j + 1) (listed.setIfInBounds j true) r S'
      | none => match stepB tab ext wr n ops listed j S o with
        | some S' => seqS tab ext wr n ops (j + 1) (listed.setIfInBounds j true) r S'
        | none => none

theorem seqS_cs {tab : List TI} {ext : Ext} {wr : Bool} {ops : Array Oper} {S' : St} : ∀ {l : List Oper} {j : Nat} {listed : Array Bool} {S : St}, seqS tab ext wr n ops j listed l S = some S' → All S'.cs → All S.cs
  | [], j, listed, S, h, hc => by cases h; exact hc
  | o :: r, j, listed, S, h, hc => by
    simp only [seqS] at h
    split at h
    · split at h
      · rename_i h1; exact stepO_cs h1 (seqS_cs h hc)
      · cases h
    · split at h
      · rename_i h1; exact stepO_cs h1 (seqS_cs h hc)
      · split at h
        · rename_i h1; exact stepB_cs h1 (seqS_cs h hc)
        · cases h

theorem pairsB_spec {ops : Array Oper} {y : Oper} {j : Nat} : ∀ {l : List Oper} {k : Nat}, pairsB (opI ops y) j k (l.map (opI ops)) = true → ∀ (i : Nat) (x : Oper), l[i]? = some x → k + i < j →
    (∃ e ∈ y.after, Region.binds .any e = true ∧ e.on = k + i) ∨ x.apart ops y = true
  | [], k, _, i, x, hx, _ => by simp at hx
  | z :: r, k, h, i, x, hx, hi => by
    simp only [List.map_cons, pairsB] at h
    have hkj : Nat.beq k j = false := nbeq_false (by omega)
    rw [hkj] at h
    simp only at h
    have rest : pairsB (opI ops y) j (k + 1) (r.map (opI ops)) = true → ∀ i', i = i' + 1 → (∃ e ∈ y.after, Region.binds .any e = true ∧ e.on = k + i) ∨ x.apart ops y = true := by
      rintro h i' rfl
      have := pairsB_spec h i' x (by simpa using hx) (by omega)
      rw [show k + (i' + 1) = k + 1 + i' by omega]
      exact this
    split at h
    · rename_i hb
      cases i with
      | zero =>
        left
        have hb2 : (bitsL (preL y)).testBit k = true := by
          cases ht : (bitsL (preL y)).testBit k with
          | true => rfl
          | false =>
            exfalso
            have h0 : Nat.beq (Nat.land (bitsL (preL y)) (Nat.shiftLeft 1 k)) 0 = true := by
              have : (bitsL (preL y)) &&& (1 <<< k) = 0 := by
                apply Nat.eq_of_testBit_eq
                intro m
                rw [Nat.testBit_and, one_shl_bit]
                by_cases hm : k = m
                · subst hm; simp [ht]
                · simp [hm]
              have h1 : Nat.land (bitsL (preL y)) (Nat.shiftLeft 1 k) = 0 := this
              rw [h1]; rfl
            have h2 : Nat.beq (Nat.land (opI ops y).pre (Nat.shiftLeft 1 k)) 0 = true := h0
            rw [h2] at hb
            cases hb
        rw [bitsL_mem] at hb2
        have := of_decide_eq_true hb2
        obtain ⟨e, he, rfl⟩ := List.mem_map.1 this
        obtain ⟨he, hbe⟩ := List.mem_filter.1 he
        exact ⟨e, by simpa using he, hbe, by simp⟩
      | succ i' => exact rest h i' rfl
    · simp only [Bool.and_eq_true] at h
      obtain ⟨h1, h2, h3⟩ := h
      cases i with
      | zero =>
        right
        simp at hx
        subst hx
        have land0 : ∀ {a b d : Nat}, Nat.beq (Nat.land a b) 0 = true → b.testBit d = true → a.testBit d = false := by
          intro a b d h hb
          have h := Nat.eq_of_beq_eq_true h
          have h' : a &&& b = 0 := h
          have h3 : (a &&& b).testBit d = false := by rw [h']; simp
          rw [Nat.testBit_and, hb] at h3
          simpa using h3
        have hdst : ∀ (o : Oper) d, o.dst = some d → (opI ops o).dst.testBit d = true := by
          intro o d hd
          show (bitsL (dstL o)).testBit d = true
          rw [bitsL_mem]
          simp [dstL, hd]
        unfold Oper.apart
        rw [Bool.and_eq_true]
        constructor
        · split
          · rename_i d hd
            have h4 := land0 h1 (hdst _ d hd)
            have h4' : ((bitsL (y.looksAt ops)) ||| (bitsL (dstL y))).testBit d = false := h4
            rw [Nat.testBit_or, bitsL_mem, bitsL_mem, Bool.or_eq_false_iff] at h4'
            obtain ⟨g1, g2⟩ := h4'
            have g1 := of_decide_eq_false g1
            have g2 := of_decide_eq_false g2
            rw [Bool.and_eq_true]
            refine ⟨by simpa using g1, ?_⟩
            simp only [bne_iff_ne, ne_eq]
            intro hy
            exact g2 (by simp [dstL, hy])
          · rfl
        · split
          · rename_i d hd
            have h4 := land0 h2 (hdst _ d hd)
            have h4' : (bitsL (z.looksAt ops)).testBit d = false := h4
            rw [bitsL_mem] at h4'
            have g1 := of_decide_eq_false h4'
            simpa using g1
          · rfl
      | succ i' => exact rest h3 i' rfl

def FirstJ (ops : Array Oper) (listed : Array Bool) (j : Nat) : Prop := listed.size = ops.size ∧ ∀ k, k < ops.size → listed.getD k true = decide (k < j)

theorem FirstJ.false {ops : Array Oper} {listed : Array Bool} {j : Nat} (h : FirstJ ops listed j) {k : Nat} : listed.getD k false = decide (k < j ∧ k < ops.size) := by
  by_cases hk : k < ops.size
  · have := h.2 k hk
    rw [Array.getD_eq_getD_getElem?] at this ⊢
    rw [Array.getElem?_eq_getElem (by rw [h.1]; exact hk)] at this ⊢
    simp only [Option.getD_some] at this ⊢
    rw [this]
    simp [hk]
  · rw [Array.getD_eq_getD_getElem?, Array.getElem?_eq_none (by rw [h.1]; omega)]
    simp [hk]

theorem FirstJ.set {ops : Array Oper} {listed : Array Bool} {j : Nat} (h : FirstJ ops listed j) : FirstJ ops (listed.setIfInBounds j true) (j + 1) := by
  refine ⟨by simpa using h.1, fun k hk => ?_⟩
  by_cases hkj : j = k
  · subst hkj
    rw [Array.getD_eq_getD_getElem?, Array.getElem?_setIfInBounds_self_of_lt (by rw [h.1]; exact hk)]
    simp
  · rw [getD_set_ne true hkj, h.2 k hk]
    simp only [decide_eq_decide]
    omega

theorem pre_lt {ops : Array Oper} {o : Oper} {j : Nat} (h : Nat.beq (Nat.shiftRight (opI ops o).pre j) 0 = true) : ∀ e ∈ o.after, Region.binds .any e = true → e.on < j := by
  intro e he hb
  rcases Nat.lt_or_ge e.on j with h1 | h1
  · exact h1
  · exfalso
    have h := Nat.eq_of_beq_eq_true h
    have h' : (bitsL (preL o)) >>> j = 0 := h
    have h2 : ((bitsL (preL o)) >>> j).testBit (e.on - j) = true := by
      rw [Nat.testBit_shiftRight, bitsL_mem, show j + (e.on - j) = e.on by omega]
      refine decide_eq_true (List.mem_map.2 ⟨e, List.mem_filter.2 ⟨by simpa using he, hb⟩, rfl⟩)
    rw [h'] at h2
    simp at h2

theorem pre_ge {ops : Array Oper} {o : Oper} {j : Nat} (h : Nat.beq (Nat.shiftRight (opI ops o).pre j) 0 = false) : ∃ e ∈ o.after, Region.binds .any e = true ∧ j ≤ e.on := by
  apply Classical.byContradiction
  intro hn
  have h' : (bitsL (preL o)) >>> j = 0 := by
    apply Nat.eq_of_testBit_eq
    intro m
    rw [Nat.testBit_shiftRight, bitsL_mem, Nat.zero_testBit]
    refine decide_eq_false fun hm => hn ?_
    obtain ⟨e, he, h1⟩ := List.mem_map.1 hm
    obtain ⟨he, hb⟩ := List.mem_filter.1 he
    exact ⟨e, by simpa using he, hb, by omega⟩
  have h2 : Nat.shiftRight (opI ops o).pre j = 0 := h'
  rw [h2] at h
  cases h

theorem onlyB_spec {ops : Array Oper} {j : Nat} : ∀ (l : List Oper), onlyB j (l.map (opI ops)) = true → ∀ x ∈ l, ∃ e ∈ x.after, Region.binds .any e = true ∧ j ≤ e.on := by
  intro l
  induction l with
  | nil => intro _ x hx; cases hx
  | cons x r ih =>
    intro h y hy
    rw [List.map_cons, onlyB, Bool.and_eq_true, Bool.not_eq_true'] at h
    rcases List.mem_cons.1 hy with rfl | hy
    · exact pre_ge h.1
    · exact ih h.2 y hy

theorem seqB_tail {all : List OpI} : ∀ {l : List OpI} {j : Nat}, seqB all j l = true → ∀ i y, l[i]? = some y → Nat.beq (Nat.shiftRight y.pre (j + i)) 0 = true ∧ pairsB y (j + i) 0 all = true
  | x :: r, j, h, i, y, hy => by
    simp only [seqB, Bool.and_eq_true] at h
    obtain ⟨h1, h2, _, h4⟩ := h
    cases i with
    | zero => simp at hy; subst hy; exact ⟨h1, h2⟩
    | succ i =>
      have := seqB_tail h4 i y (by simpa using hy)
      rw [show j + (i + 1) = j + 1 + i by omega]
      exact this

theorem seqS_spec {tab : List TI} {ext : Ext} (hT : TabOk P tab) (hX : ExtOk P ext) {wr : Bool} {ops : Array Oper} {Q : Exit → Act → World → Prop} (hs : Region.noSelect ops = true) (hQ : ∀ c a w, ¬ Q (.panic c) a w) {S' : St}
    (hc : All S'.cs) (hK : ∀ a' w0' G' w' V' own', RelV n K w0' G' w' a' S'.E S'.L V' own' → DecOk q a' S' → Q .normal a' w')
    (hall : seqB (ops.toList.map (opI ops)) 0 (ops.toList.map (opI ops)) = true) : ∀ {l : List Oper} {w0 : World} {G : Nat → Prop} {j : Nat} {listed : Array Bool} {S : St} {a : Act} {w : World} {V : Nat → Value} {own : Nat → List Nat},
    RelV n K w0 G w a S.E S.L V own → DecOk q a S → Down ops listed → FirstJ ops listed j → ops.toList.drop j = l → seqB (ops.toList.map (opI ops)) j (l.map (opI ops)) = true → seqS tab ext wr n ops j listed l S = some S' → wpAnyK P ops Q [] l.length listed a w
  | [], w0, G, j, listed, S, a, w, V, own, hR, hd, hD, hF, hl, _, h => by
    cases h
    have hge : ops.size ≤ j := by
      have := congrArg List.length hl
      simp at this
      omega
    refine fun w1 k => ⟨?_, hK _ _ _ _ _ _ (hR.ext k) hd⟩
    apply List.eq_nil_iff_forall_not_mem.2
    intro i hi
    obtain ⟨h1, o, ho, _⟩ := mem_ready.1 hi
    have hlt := (Array.getElem?_eq_some_iff.1 ho).1
    rw [hF.2 i hlt] at h1
    have := of_decide_eq_false h1
    omega
  | o :: r, w0, G, j, listed, S, a, w, V, own, hR, hd, hD, hF, hl, hB, h => by
    have hlen := congrArg List.length hl
    simp only [List.length_drop, Array.length_toList, List.length_cons] at hlen
    have hj : j < ops.size := by omega
    have ho : ops[j]? = some o := by
      have := congrArg (fun l => l[0]?) hl
      simpa using this
    have hr : ops.toList.drop (j + 1) = r := by
      have := congrArg List.tail hl
      simpa using this
    simp only [List.map_cons, seqB, Bool.and_eq_true] at hB
    obtain ⟨b1, b2, b3, b4⟩ := hB
    have hready : j ∈ Region.ready .any ops listed := by
      refine mem_ready.2 ⟨by rw [hF.2 j hj]; simp, o, ho, fun e he hb => ?_⟩
      have := pre_lt b1 e he hb
      rw [hF.false]
      exact decide_eq_true ⟨this, by omega⟩
    have hfree : ∀ i oi, ops[i]? = some oi → i ≠ j → listed.getD i true = false → (∀ e ∈ oi.after, Region.binds .any e = true → e.on ≠ j) → o.apart ops oi = true := by
      intro i oi hi hij hun hno
      have hlt := (Array.getElem?_eq_some_iff.1 hi).1
      rw [hF.2 i hlt] at hun
      have hge := of_decide_eq_false hun
      have hy : (ops.toList.map (opI ops))[i]? = some (opI ops oi) := by simp [hi]
      obtain ⟨_, hp⟩ := seqB_tail hall i _ hy
      rw [Nat.zero_add] at hp
      rcases pairsB_spec hp j o (by simpa using ho) (by omega) with ⟨e, he, hb, he2⟩ | hap
      · exact absurd (by rw [he2]; simp) (hno e he hb)
      · exact hap
    have quiet : ∀ {S2 : St}, stepO tab ext wr n true ops.toList S o = some S2 → seqS tab ext wr n ops (j + 1) (listed.setIfInBounds j true) r S2 = some S' → wpAnyK P ops Q [] (o :: r).length listed a w := by
      intro S2 hst h
      obtain ⟨v, hy, g1, g2⟩ := stepO_quiet hT hX hR hd hst (seqS_cs h hc)
      exact wpAnyK_first ho (Region.noSelect_spec hs) hQ r.length listed a w hD hfree hready hy (seqS_spec hT hX hs hQ hc hK hall g1 g2 (hD.set hready) hF.set hr b4 h)
    simp only [seqS] at h
    split at h
    · split at h
      · rename_i S2 hst; exact quiet hst h
      · cases h
    · rename_i hloud
      split at h
      · rename_i S2 hst; exact quiet hst h
      · split at h
        · rename_i S2 hB
          have hlo : (opI ops o).loud = true := hloud
          rw [hlo] at b3
          simp only at b3
          have hc2 : All S2.cs := seqS_cs h hc
          refine fun w1 k => ⟨fun h0 => by (rw [h0] at hready; cases hready), fun i hi => ?_⟩
          have hji : i = j := by
            obtain ⟨h1, oi, hoi, hai⟩ := mem_ready.1 hi
            have hlt := (Array.getElem?_eq_some_iff.1 hoi).1
            rw [hF.2 i hlt] at h1
            have hge := of_decide_eq_false h1
            apply Classical.byContradiction
            intro hne
            have hmem : oi ∈ r := by
              rw [← hr]
              refine List.mem_of_getElem? (i := i - (j + 1)) ?_
              rw [List.getElem?_drop, show j + 1 + (i - (j + 1)) = i by omega]
              simpa using hoi
            obtain ⟨e, he, hb, hle⟩ := onlyB_spec _ b3 oi hmem
            have := hai e he hb
            rw [hF.false] at this
            have := (of_decide_eq_true this).1
            omega
          subst hji
          have hR1 : RelV n K w0 G w1 a S.E S.L V own := hR.ext k
          unfold wpOp
          simp only [ho]
          have := stepB_wp (Kt := fun a' w' => (barB ops listed i = true ∨ Kept [] w1 w') ∧ wpAnyK P ops Q [] r.length (listed.setIfInBounds i true) a' w') (Q := Q) hT hX hR1 hd hB hc2 (fun a' w0' G' w' V' own' hb hR' hd' => ⟨hb, seqS_spec hT hX hs hQ hc hK hall hR' hd' (hD.set hready) hF.set hr b4 h⟩)
          split
          · rename_i hw; rw [if_pos hw] at this; exact .inl this
          · rename_i hw; rw [if_neg hw] at this; exact this
        · cases h


theorem stepF_cs {tab : List TI} {ext : Ext} {wr : Bool} {r0 : Nat} {all : List Oper} {S S' : St} {o : Oper} (h : stepF tab ext wr n r0 all S o = some S') (hc : All S'.cs) : All S.cs := by
  unfold stepF at h
  split at h
  · cases h
  · rename_i S1 hg
    have := putS_cs h
    rw [this] at hc
    exact guardS_cs hg (All.append.1 hc).1
  · rename_i S1 hg
    refine guardS_cs hg ?_
    split at h
    · split at h
      · rename_i d S2 hdec
        have := putS_cs h
        rw [this] at hc
        exact decideS_cs hdec (All.append.1 hc).1
      · cases h
    · split at h
      · split at h
        · have := putS_cs h
          rw [this] at hc
          exact (All.append.1 hc).1
        · cases h
      · split at h
        · split at h
          · have := putS_cs h
            rw [this] at hc
            exact (All.append.1 hc).1
          · cases h
        · cases h

theorem stepL_cs {tab : List TI} {ext : Ext} {r0 : Nat} {all : List Oper} {S S' : St} {o : Oper} (h : stepL tab ext n r0 all S o = some S') (hc : All S'.cs) : All S.cs := by
  unfold stepL at h
  split at h
  · rename_i S1 hg
    split at h
    · split at h
      · split at h
        · have := putS_cs h
          rw [this] at hc
          exact guardS_cs hg (All.append.1 hc).1
        · cases h
      · cases h
    · split at h
      · split at h
        · have := putS_cs h
          rw [this] at hc
          exact guardS_cs hg (All.append.1 hc).1
        · cases h
      · cases h
    · cases h
  · cases h

theorem stepF_quiet {tab : List TI} {ext : Ext} (hT : TabOk P tab) (hX : ExtOk P ext) {wr : Bool} {r0 : Nat} {A : Arr} {ops : Array Oper} {S S' : St} {o : Oper} (hR : RelV n K w0 G w a S.E S.L V own) (hA : hget S.L r0 = some A) (hd : DecOk q a S)
    (h : stepF tab ext wr n r0 ops.toList S o = some S') (hc : All S'.cs) :
    ∃ v, YieldsK P ops (own r0) o v a w ∧ RelV n K w0 G w (a.put o.dst v) S'.E S'.L V own ∧ DecOk q (a.put o.dst v) S' := by
  unfold stepF at h
  split at h
  · cases h
  · rename_i S1 hg
    have hcs := putS_cs h
    rw [hcs] at hc
    obtain ⟨h1, h2, h3, h4, h5⟩ := guardS_spec hR hd hg (All.append.1 hc).1
    have hR1 : RelV n K w0 G w a S1.E S1.L V own := by rw [h2, h3]; exact hR
    obtain ⟨g1, g2, _⟩ := putS_spec (v := undef) h hR1 h4 ⟨rfl, trivial⟩
    exact ⟨undef, .inr ⟨h1, rfl⟩, g1, g2⟩
  · rename_i S1 hg
    have hc1 : All S1.cs := by
      split at h
      · split at h
        · rename_i d S2 hdec
          have hcs := putS_cs h
          rw [hcs] at hc
          exact decideS_cs hdec (All.append.1 hc).1
        · cases h
      · split at h
        · split at h
          · have hcs := putS_cs h
            rw [hcs] at hc
            exact (All.append.1 hc).1
          · cases h
        · split at h
          · split at h
            · have hcs := putS_cs h
              rw [hcs] at hc
              exact (All.append.1 hc).1
            · cases h
          · cases h
    obtain ⟨h1, h2, h3, h4, h5⟩ := guardS_spec hR hd hg hc1
    have hR1 : RelV n K w0 G w a S1.E S1.L V own := by rw [h2, h3]; exact hR
    have hA1 : hget S1.L r0 = some A := by rw [h3]; exact hA
    split at h
    · rename_i c x y ho
      split at h
      · rename_i d S2 hdec
        have hcs := putS_cs h
        rw [hcs] at hc
        obtain ⟨k1, k2, k3, k4, k5⟩ := decideS_spec hR1 h4 hdec (All.append.1 hc).1
        have hR2 : RelV n K w0 G w a S2.E S2.L V own := by rw [k2, k3]; exact hR1
        obtain ⟨g1, g2, _⟩ := putS_spec h hR2 k4 (cond_rep (d := d) (hR2.opnd x) (hR2.opnd y))
        refine ⟨_, .inl ⟨h1, fun w' k => ?_⟩, g1, g2⟩
        unfold Oper.quietAt
        rw [pick_run ho k1 w']
        exact ⟨rfl, rfl⟩
      · cases h
    · split at h
      · rename_i hnm
        split at h
        · rename_i cs pv hop
          have hcs := putS_cs h
          rw [hcs] at hc
          obtain ⟨v, hv, hq⟩ := noMem_spec (P := P) hR1 hnm hop
          obtain ⟨g1, g2, _⟩ := putS_spec h hR1 h4 hv
          refine ⟨v, .inl ⟨h1, fun w' k => ?_⟩, g1, g2⟩
          unfold Oper.quietAt
          rw [hq w']
          exact ⟨rfl, rfl⟩
        · cases h
      · split at h
        · rename_i cs pv hop
          split at h
          · rename_i hdet
            have hcs := putS_cs h
            rw [hcs] at hc
            obtain ⟨v, hv, hq⟩ := opQ_specF hT hX hR1 hA1 hop hdet (All.append.1 hc).2
            obtain ⟨g1, g2, _⟩ := putS_spec h hR1 h4 hv
            exact ⟨v, .inl ⟨h1, hq⟩, g1, g2⟩
          · cases h
        · cases h

theorem stepL_wp {tab : List TI} (hT : TabOk P tab) {ext : Ext} (hX : ExtOk P ext) {r0 : Nat} {ops : Array Oper} {S S' : St} {o : Oper} (hR : RelV n K w0 G w a S.E S.L V own) (hd : DecOk q a S)
    (h : stepL tab ext n r0 ops.toList S o = some S') (hc : All S'.cs) {Kt : Act → World → Prop} {Q : Exit → Act → World → Prop}
    (hK : ∀ a' w0' G' w' V' own', Kept (own r0) w w' → RelV n K w0' G' w' a' S'.E S'.L V' own' → DecOk q a' S' → Kt a' w') :
    if Region.wanted o (yielded ops a.tmps) then o.wp P a w Kt Q else Kt (a.put o.dst undef) w := by
  unfold stepL at h
  split at h
  · rename_i S1 hg
    split at h
    · rename_i f args ts ho
      split at h
      · rename_i g ps hgp
        split at h
        · rename_i cs pv E L hop
          have hcs := putS_cs h
          rw [hcs] at hc
          obtain ⟨h1, h2, h3, h4, h5⟩ := guardS_spec hR hd hg (All.append.1 hc).1
          rw [h1, if_pos rfl]
          have hR1 : RelV n K w0 G w a S1.E S1.L V own := by rw [h2, h3]; exact hR
          obtain ⟨vs, hv, hps⟩ := calleeA_spec hR1 hgp
          obtain ⟨hcall, hcalls⟩ := callF_spec hX hR1 hps hop (All.append.1 hc).2
          unfold Oper.wp
          rw [call_run hcall ho hv]
          refine hcalls.mono ?_
          rintro e w' ⟨v, w0', G', V', own', rfl, hk, hR', hv'⟩
          obtain ⟨g1, g2, _⟩ := putS_spec h hR' h4 hv'
          exact hK _ _ _ _ _ _ hk g1 g2
        · cases h
      · cases h
    · rename_i T x y ho
      split at h
      · rename_i r L1 ht hL
        split at h
        · rename_i hr
          have hcs := putS_cs h
          rw [hcs] at hc
          obtain ⟨h1, h2, h3, h4, h5⟩ := guardS_spec hR hd hg (All.append.1 hc).1
          rw [h1, if_pos rfl]
          have hR1 : RelV n K w0 G w a S1.E S1.L V own := by rw [h2, h3]; exact hR
          obtain ⟨w1, hrun, hR2, r2, ht2, hk⟩ := store_spec hT hR1 hL
          rw [ht] at ht2; cases ht2
          obtain rfl := Nat.eq_of_beq_eq_true hr
          unfold Oper.wp
          have : (execOp a.eval o).run P w = .ok .skip w1 := by simp [execOp, ho, hrun]
          rw [this]
          obtain ⟨g1, g2, _⟩ := putS_spec h hR2 h4 (v := undef) trivial
          exact hK _ _ _ _ _ _ hk g1 g2
        · cases h
      · cases h
    · cases h
  · cases h

def srcOf : Nat → Heap → Option Nat
  | _, [] => none
  | k, some A :: l => match A.sm with
    | some true => some k
    | _ => srcOf (k + 1) l
  | k, none :: l => srcOf (k + 1) l

def firstF (tab : List TI) (ext : Ext) (wr : Bool) (n r0 : Nat) (ops : Array Oper) (listed : Array Bool) (S : St) : List Nat → Option (Nat × St)
  | [] => none
  | i :: r => match nthO ops.toList i, Region.free .any ops listed i with
    | some o, true => match stepF tab ext wr n r0 ops.toList S o with
      | some S' => some (i, S')
      | none => firstF tab ext wr n r0 ops listed S r
    | _, _ => firstF tab ext wr n r0 ops listed S r

def schedF (tab : List TI) (ext : Ext) (wr : Bool) (n r0 : Nat) (ops : Array Oper) : Nat → Array Bool → St → Option St
  | 0, _, _ => none
  | m + 1, listed, S => match Region.ready .any ops listed with
    | [] => none
    | i :: r => match decOs ops.toList (i :: r) S with
      | none => none
      | some S => match hget S.L r0 with
        | none => none
        | some _ => match firstF tab ext wr n r0 ops listed S (i :: r) with
          | some (j, S') => schedF tab ext wr n r0 ops m (listed.setIfInBounds j true) S'
          | none => match r, nthO ops.toList i with
            | [], some o => match stepL tab ext n r0 ops.toList S o with
              | some S' => schedS tab ext wr n ops m (listed.setIfInBounds i true) S'
              | none => none
            | _, _ => none

theorem firstF_spec {tab : List TI} {ext : Ext} {wr : Bool} {r0 : Nat} {ops : Array Oper} {listed : Array Bool} {S : St} {j : Nat} {S' : St} : ∀ {rs : List Nat}, firstF tab ext wr n r0 ops listed S rs = some (j, S') →
    j ∈ rs ∧ ∃ o, ops[j]? = some o ∧ Region.free .any ops listed j = true ∧ stepF tab ext wr n r0 ops.toList S o = some S'
  | [], h => by cases h
  | i :: r, h => by
    simp only [firstF] at h
    have rest : firstF tab ext wr n r0 ops listed S r = some (j, S') → j ∈ i :: r ∧ ∃ o, ops[j]? = some o ∧ Region.free .any ops listed j = true ∧ stepF tab ext wr n r0 ops.toList S o = some S' := fun h => by
      obtain ⟨h1, h2⟩ := firstF_spec h
      exact ⟨List.mem_cons_of_mem _ h1, h2⟩
    split at h
    · rename_i o ho hf
      split at h
      · rename_i S1 h1
        cases h
        rw [nthO_eq] at ho
        exact ⟨List.mem_cons_self .., o, by simpa using ho, hf, h1⟩
      · exact rest h
    · exact rest h

theorem schedF_cs {tab : List TI} {ext : Ext} {wr : Bool} {r0 : Nat} {ops : Array Oper} {S' : St} : ∀ {m : Nat} {listed : Array Bool} {S : St}, schedF tab ext wr n r0 ops m listed S = some S' → All S'.cs → All S.cs
  | 0, listed, S, h, hc => by
    simp only [schedF] at h
    cases h
  | m + 1, listed, S, h, hc => by
    simp only [schedF] at h
    split at h
    · cases h
    · split at h
      · cases h
      · rename_i S1 hdec
        refine decOs_cs hdec ?_
        split at h
        · cases h
        · split at h
          · rename_i j S2 hq
            obtain ⟨_, o, _, _, hst⟩ := firstF_spec hq
            exact stepF_cs hst (schedF_cs h hc)
          · split at h
            · split at h
              · rename_i S2 hB
                exact stepL_cs hB (schedS_cs h hc)
              · cases h
            · cases h

theorem schedF_spec {tab : List TI} {ext : Ext} (hT : TabOk P tab) (hX : ExtOk P ext) {wr : Bool} {ops : Array Oper} {Q : Exit → Act → World → Prop} (hs : Region.noSelect ops = true) (hQ : ∀ c a w, ¬ Q (.panic c) a w) {S' : St}
    (hc : All S'.cs) (hK : ∀ a' w0' G' w' V' own', RelV n K w0' G' w' a' S'.E S'.L V' own' → DecOk q a' S' → Q .normal a' w') {r0 : Nat} : ∀ {m : Nat} {listed : Array Bool} {S : St} {a : Act} {w : World},
    RelV n K w0 G w a S.E S.L V own → DecOk q a S → Down ops listed → schedF tab ext wr n r0 ops m listed S = some S' → wpAnyK P ops Q (own r0) m listed a w
  | 0, listed, S, a, w, hR, hd, hD, h => by
    simp only [schedF] at h
    cases h
  | m + 1, listed, S, a, w, hR, hd, hD, h => by
    simp only [schedF] at h
    split at h
    · cases h
    · rename_i i r hr
      split at h
      · cases h
      · rename_i S1 hdec
        split at h
        · cases h
        · rename_i A0 hA0
          split at h
          · rename_i j S2 hq
            obtain ⟨hjr, o, ho, hf, hst⟩ := firstF_spec hq
            rw [← hr] at hjr
            have hc2 : All S2.cs := schedF_cs h hc
            have hc1 : All S1.cs := stepF_cs hst hc2
            obtain ⟨e1, e2, e3⟩ := decOs_spec hR hd hdec hc1
            have hR1 : RelV n K w0 G w a S1.E S1.L V own := by rw [e1, e2]; exact hR
            obtain ⟨v, hy, g1, g2⟩ := stepF_quiet (ops := ops) hT hX hR1 hA0 e3 hst hc2
            refine wpAnyK_first ho (Region.noSelect_spec hs) hQ m listed a w hD (Region.free_spec ho hf) hjr hy ?_
            exact schedF_spec hT hX hs hQ hc hK g1 g2 (hD.set hjr) h
          · split at h
            · rename_i o hno _
              rw [nthO_eq] at hno
              have ho : ops[i]? = some o := by simpa using hno
              split at h
              · rename_i S2 hB
                have hc2 : All S2.cs := schedS_cs h hc
                have hc1 : All S1.cs := stepL_cs hB hc2
                obtain ⟨e1, e2, e3⟩ := decOs_spec hR hd hdec hc1
                have hir : i ∈ Region.ready .any ops listed := by rw [hr]; simp
                refine fun w1 k => ⟨fun h0 => by (rw [hr] at h0; cases h0), fun j hj => ?_⟩
                have hji : j = i := by rw [hr] at hj; simpa using hj
                subst hji
                have hR1 : RelV n K w0 G w1 a S1.E S1.L V own := by rw [e1, e2]; exact hR.ext k
                unfold wpOp
                simp only [ho]
                have := stepL_wp (Kt := fun a' w' => (barB ops listed j = true ∨ Kept (own r0) w1 w') ∧ wpAnyK P ops Q (own r0) m (listed.setIfInBounds j true) a' w') (Q := Q) hT hX hR1 e3 hB hc2 (fun a' w0' G' w' V' own' hb hR' hd' => ⟨.inr hb, (schedS_spec hT hX hs hQ hc hK hR' hd' (hD.set hir) h).mono (by simp)⟩)
                split
                · rename_i hw; rw [if_pos hw] at this; exact .inl this
                · rename_i hw; rw [if_neg hw] at this; exact this
              · cases h
            · cases h

def firstT (tab : List TI) (wr : Bool) (n : Nat) (ops : Array Oper) (listed : Array Bool) (S : St) : List Nat → Option (Nat × St)
  | [] => none
  | i :: r => match nthO ops.toList i, Region.free .any ops listed i with
    | some o, true => match stepT tab wr n ops.toList S o with
      | some S' => some (i, S')
      | none => firstT tab wr n ops listed S r
    | _, _ => firstT tab wr n ops listed S r

def schedT (tab : List TI) (ext : Ext) (wr : Bool) (n : Nat) (ops : Array Oper) : Nat → Array Bool → St → Option St
  | 0, listed, S => match Region.ready .any ops listed with
    | [] => some S
    | _ => none
  | m + 1, listed, S => match Region.ready .any ops listed with
    | [] => some S
    | i :: r => match decOs ops.toList (i :: r) S with
      | none => none
      | some S => match firstT tab wr n ops listed S (i :: r) with
        | some (j, S') => schedT tab ext wr n ops m (listed.setIfInBounds j true) S'
        | none => match r, nthO ops.toList i with
          | [], some o => match stepO tab ext wr n false ops.toList S o with
            | some S' => schedT tab ext wr n ops m (listed.setIfInBounds i true) S'
            | none => none
          | [j], some o => match nthO ops.toList j with
            | some p => match stepO tab ext wr n false ops.toList S o, stepO tab ext wr n false ops.toList ⟨S.path, S.dec, S.E, S.L, [], S.pins⟩ p with
              | some S1, some S2 => match schedT tab ext wr n ops m (listed.setIfInBounds i true) S1, schedT tab ext wr n ops m (listed.setIfInBounds j true) S2 with
                | some A, some B => match normB n S.L.length A B with
                  | some B' => match eqNs A.pins B'.pins with
                    | true => some (joinS n A B')
                    | false => none
                  | none => none
                | _, _ => none
              | _, _ => none
            | none => none
          | _, _ => none

theorem firstT_spec {tab : List TI} {wr : Bool} {ops : Array Oper} {listed : Array Bool} {S : St} {j : Nat} {S' : St} : ∀ {rs : List Nat}, firstT tab wr n ops listed S rs = some (j, S') →
    j ∈ rs ∧ ∃ o, ops[j]? = some o ∧ Region.free .any ops listed j = true ∧ stepT tab wr n ops.toList S o = some S'
  | [], h => by cases h
  | i :: r, h => by
    simp only [firstT] at h
    have rest : firstT tab wr n ops listed S r = some (j, S') → j ∈ i :: r ∧ ∃ o, ops[j]? = some o ∧ Region.free .any ops listed j = true ∧ stepT tab wr n ops.toList S o = some S' := fun h => by
      obtain ⟨h1, h2⟩ := firstT_spec h
      exact ⟨List.mem_cons_of_mem _ h1, h2⟩
    split at h
    · rename_i o ho hf
      split at h
      · rename_i S1 h1
        cases h
        rw [nthO_eq] at ho
        exact ⟨List.mem_cons_self .., o, by simpa using ho, hf, h1⟩
      · exact rest h
    · exact rest h

theorem stepT_cs {tab : List TI} {wr : Bool} {all : List Oper} {S S' : St} {o : Oper} (h : stepT tab wr n all S o = some S') (hc : All S'.cs) : All S.cs := by
  unfold stepT at h
  split at h
  · cases h
  · rename_i S1 hg
    have hcs := putS_cs h
    rw [hcs] at hc
    exact guardS_cs hg (All.append.1 hc).1
  · rename_i S1 hg
    refine guardS_cs hg ?_
    split at h
    · split at h
      · rename_i d S2 hdec
        have hcs := putS_cs h
        rw [hcs] at hc
        exact decideS_cs hdec (All.append.1 hc).1
      · cases h
    · split at h
      · cases h
      · split at h
        · have hcs := putS_cs h
          rw [hcs] at hc
          exact (All.append.1 hc).1
        · cases h

theorem stepT_quiet {tab : List TI} (hT : TabOk P tab) {wr : Bool} {ops : Array Oper} {S S' : St} {o : Oper} (hR : RelV n K w0 G w a S.E S.L V own) (hd : DecOk q a S)
    (h : stepT tab wr n ops.toList S o = some S') (hc : All S'.cs) :
    ∃ v, YieldsT P ops o v a ∧ RelV n K w0 G w (a.put o.dst v) S'.E S'.L V own ∧ DecOk q (a.put o.dst v) S' := by
  have hc0 := stepT_cs h hc
  unfold stepT at h
  split at h
  · cases h
  · rename_i S1 hg
    have hcs := putS_cs h
    rw [hcs] at hc
    obtain ⟨h1, h2, h3, h4, h5⟩ := guardS_spec hR hd hg (All.append.1 hc).1
    have hR1 : RelV n K w0 G w a S1.E S1.L V own := by rw [h2, h3]; exact hR
    obtain ⟨g1, g2, _⟩ := putS_spec (v := undef) h hR1 h4 ⟨rfl, trivial⟩
    exact ⟨undef, .inr ⟨h1, rfl⟩, g1, g2⟩
  · rename_i S1 hg
    have hc1 : All S1.cs := by
      split at h
      · split at h
        · rename_i d S2 hdec
          have hcs := putS_cs h
          rw [hcs] at hc
          exact decideS_cs hdec (All.append.1 hc).1
        · cases h
      · split at h
        · cases h
        · split at h
          · have hcs := putS_cs h
            rw [hcs] at hc
            exact (All.append.1 hc).1
          · cases h
    obtain ⟨h1, h2, h3, h4, h5⟩ := guardS_spec hR hd hg hc1
    have hR1 : RelV n K w0 G w a S1.E S1.L V own := by rw [h2, h3]; exact hR
    split at h
    · rename_i c x y ho
      split at h
      · rename_i d S2 hdec
        have hcs := putS_cs h
        rw [hcs] at hc
        obtain ⟨k1, k2, k3, k4, k5⟩ := decideS_spec hR1 h4 hdec (All.append.1 hc).1
        have hR2 : RelV n K w0 G w a S2.E S2.L V own := by rw [k2, k3]; exact hR1
        have hv : RepP w0 G S2.L V (cond d (opnd S2.E x) (opnd S2.E y)) (if d then a.eval x else a.eval y) := by
          cases d
          · exact hR2.opnd y
          · exact hR2.opnd x
        obtain ⟨g1, g2, _⟩ := putS_spec h hR2 k4 hv
        exact ⟨_, .inl ⟨h1, fun w' => pick_run ho k1 w'⟩, g1, g2⟩
      · cases h
    · split at h
      · cases h
      · rename_i hnl
        split at h
        · rename_i cs pv hop
          have hcs := putS_cs h
          rw [hcs] at hc
          obtain ⟨v, hv, hq⟩ := absQ_spec hT hR1 hop (All.append.1 hc).2
          obtain ⟨g1, g2, _⟩ := putS_spec h hR1 h4 hv
          exact ⟨v, .inl ⟨h1, fun w' => hq w' fun hl => by rw [hnl] at hl; cases hl⟩, g1, g2⟩
        · cases h

theorem schedT_cs {tab : List TI} {ext : Ext} {wr : Bool} {ops : Array Oper} {S' : St} : ∀ {m : Nat} {listed : Array Bool} {S : St}, schedT tab ext wr n ops m listed S = some S' → All S'.cs → All S.cs
  | 0, listed, S, h, hc => by
    simp only [schedT] at h
    split at h
    · cases h; exact hc
    · cases h
  | m + 1, listed, S, h, hc => by
    simp only [schedT] at h
    split at h
    · cases h; exact hc
    · split at h
      · cases h
      · rename_i S1 hdec
        refine decOs_cs hdec ?_
        split at h
        · rename_i j S2 hq
          obtain ⟨_, o, _, _, hst⟩ := firstT_spec hq
          exact stepT_cs hst (schedT_cs h hc)
        · split at h
          · split at h
            · rename_i S2 hB
              exact stepO_cs hB (schedT_cs h hc)
            · cases h
          · split at h
            · split at h
              · rename_i S2 S3 hA hB
                split at h
                · rename_i A B hA2 hB2
                  split at h
                  · split at h
                    · cases h
                      exact stepO_cs hA (schedT_cs hA2 (All.append.1 hc).1)
                    · cases h
                  · cases h
                · cases h
              · cases h
            · cases h
          · cases h

theorem schedT_spec {tab : List TI} {ext : Ext} (hT : TabOk P tab) (hX : ExtOk P ext) {wr : Bool} {ops : Array Oper} {Q : Exit → Act → World → Prop} (hs : Region.noSelect ops = true) (hQ : ∀ c a w, ¬ Q (.panic c) a w) {S' : St}
    (hc : All S'.cs) (hK : ∀ a' w0' G' w' V' own', RelV n K w0' G' w' a' S'.E S'.L V' own' → DecOk q a' S' → Q .normal a' w') : ∀ {w0 : World} {G : Nat → Prop} {m : Nat} {listed : Array Bool} {S : St} {a : Act} {w : World} {V : Nat → Value} {own : Nat → List Nat},
    RelV n K w0 G w a S.E S.L V own → DecOk q a S → Down ops listed → schedT tab ext wr n ops m listed S = some S' → wpAny P .any ops Q m listed a w
  | w0, G, 0, listed, S, a, w, V, own, hR, hd, hD, h => by
    simp only [schedT] at h
    split at h
    · rename_i hr
      cases h
      exact ⟨hr, hK _ _ _ _ _ _ hR hd⟩
    · cases h
  | w0, G, m + 1, listed, S, a, w, V, own, hR, hd, hD, h => by
    simp only [schedT] at h
    split at h
    · rename_i hr
      cases h
      exact ⟨fun _ => hK _ _ _ _ _ _ hR hd, fun i hi => by rw [hr] at hi; cases hi⟩
    · rename_i i r hr
      split at h
      · cases h
      · rename_i S1 hdec
        split at h
        · rename_i j S2 hq
          obtain ⟨hjr, o, ho, hf, hst⟩ := firstT_spec hq
          rw [← hr] at hjr
          have hc2 : All S2.cs := schedT_cs h hc
          have hc1 : All S1.cs := stepT_cs hst hc2
          obtain ⟨e1, e2, e3⟩ := decOs_spec hR hd hdec hc1
          have hR1 : RelV n K w0 G w a S1.E S1.L V own := by rw [e1, e2]; exact hR
          obtain ⟨v, hy, g1, g2⟩ := stepT_quiet (ops := ops) hT hR1 e3 hst hc2
          refine wpAny_firstT ho (Region.noSelect_spec hs) hQ m listed a w hD (Region.free_spec ho hf) hjr hy ?_
          exact schedT_spec hT hX hs hQ hc hK g1 g2 (hD.set hjr) h
        · split at h
          · rename_i o hno _
            rw [nthO_eq] at hno
            have ho : ops[i]? = some o := by simpa using hno
            split at h
            · rename_i S2 hB
              have hc2 : All S2.cs := schedT_cs h hc
              have hc1 : All S1.cs := stepO_cs hB hc2
              obtain ⟨e1, e2, e3⟩ := decOs_spec hR hd hdec hc1
              have hir : i ∈ Region.ready .any ops listed := by rw [hr]; simp
              refine ⟨fun h0 => by (rw [hr] at h0; cases h0), fun j hj => ?_⟩
              have hji : j = i := by rw [hr] at hj; simpa using hj
              subst hji
              have hR1 : RelV n K w0 G w a S1.E S1.L V own := by rw [e1, e2]; exact hR
              unfold wpOp
              simp only [ho]
              have := stepO_wp (Kt := wpAny P .any ops Q m (listed.setIfInBounds j true)) (Q := Q) hT hX hR1 e3 hB hc2 (fun a' w0' G' w' V' own' hR' hd' => schedT_spec hT hX hs hQ hc hK hR' hd' (hD.set hir) h)
              split
              · rename_i hw; rw [if_pos hw] at this; exact .inl this
              · rename_i hw; rw [if_neg hw] at this; exact this
            · cases h
          · rename_i j o hno _
            split at h
            · rename_i p hnp
              rw [nthO_eq] at hno hnp
              have ho : ops[i]? = some o := by simpa using hno
              have hp : ops[j]? = some p := by simpa using hnp
              split at h
              · rename_i S2 S3 hA hB
                split at h
                · rename_i A B hA2 hB2
                  split at h
                  case h_2 => cases h
                  rename_i B' hnB
                  obtain ⟨nb1, nb2, nb3⟩ := normB_spec hnB
                  split at h
                  case h_2 => cases h
                  rename_i hpn
                  have hpn := eqNs_spec hpn
                  cases h
                  have hcA : All A.cs := (All.append.1 hc).1
                  have hcB : All B.cs := by rw [← nb1]; exact (All.append.1 (All.append.1 hc).2).1
                  have heq : (tabE A.E n [], A.L) = (tabE B'.E n [], B'.L) := (All.append.1 (All.append.1 hc).2).2.1
                  have hc2 : All S2.cs := schedT_cs hA2 hcA
                  have hc3 : All S3.cs := schedT_cs hB2 hcB
                  have hc1 : All S1.cs := stepO_cs hA hc2
                  obtain ⟨e1, e2, e3⟩ := decOs_spec hR hd hdec hc1
                  have hR1 : RelV n K w0 G w a S1.E S1.L V own := by rw [e1, e2]; exact hR
                  have hKA : ∀ a' w0' G' w' V' own', RelV n K w0' G' w' a' A.E A.L V' own' → DecOk q a' A → Q .normal a' w' := fun a' w0' G' w' V' own' hr' hd' =>
                    hK a' w0' G' w' V' own' hr'.tab ⟨fun t d hl => (by cases hl), hd'.2⟩
                  have hKB : ∀ a' w0' G' w' V' own', RelV n K w0' G' w' a' B.E B.L V' own' → DecOk q a' B → Q .normal a' w' := fun a' w0' G' w' V' own' hr' hd' => by
                    obtain ⟨V2, own2, hr2⟩ := nb3 hr'
                    refine hK a' w0' G' w' V2 own2 ?_ ⟨fun t d hl => (by cases hl), ?_⟩
                    · have k1 : tabE A.E n [] = tabE B'.E n [] := congrArg Prod.fst heq
                      have k2 : A.L = B'.L := congrArg Prod.snd heq
                      show RelV n K w0' G' w' a' (tabE A.E n []) A.L V2 own2
                      rw [k1, k2]; exact hr2.tab
                    · show ∀ t ∈ A.pins, a'.tmps.getD t undef = q t
                      rw [hpn, nb2]; exact hd'.2
                  have hir : i ∈ Region.ready .any ops listed := by rw [hr]; simp
                  have hjr : j ∈ Region.ready .any ops listed := by rw [hr]; simp
                  refine ⟨fun h0 => by (rw [hr] at h0; cases h0), fun k hk => ?_⟩
                  have hkk : k = i ∨ k = j := by rw [hr] at hk; simpa using hk
                  rcases hkk with rfl | rfl
                  · unfold wpOp
                    simp only [ho]
                    have := stepO_wp (Kt := wpAny P .any ops Q m (listed.setIfInBounds k true)) (Q := Q) hT hX hR1 e3 hA hc2 (fun a' w0' G' w' V' own' hR' hd' => schedT_spec hT hX hs hQ hcA hKA hR' hd' (hD.set hir) hA2)
                    split
                    · rename_i hw; rw [if_pos hw] at this; exact .inl this
                    · rename_i hw; rw [if_neg hw] at this; exact this
                  · unfold wpOp
                    simp only [hp]
                    have := stepO_wp (Kt := wpAny P .any ops Q m (listed.setIfInBounds k true)) (Q := Q) (S := ⟨S1.path, S1.dec, S1.E, S1.L, [], S1.pins⟩) hT hX hR1 e3 hB hc3 (fun a' w0' G' w' V' own' hR' hd' => schedT_spec hT hX hs hQ hcB hKB hR' hd' (hD.set hjr) hB2)
                    split
                    · rename_i hw; rw [if_pos hw] at this; exact .inl this
                    · rename_i hw; rw [if_neg hw] at this; exact this
                · cases h
              · cases h
            · cases h
          · cases h

def storeOf (E : Env) : List Oper → Option Nat
  | [] => none
  | o :: r => match o.op with
    | .store _ x _ => match tgt (opnd E x) with
      | some k => some k
      | none => storeOf E r
    | _ => storeOf E r

def fO (tab : List TI) (ext : Ext) (wr : Bool) (n : Nat) (ops : Array Oper) (S : St) : Option Nat → Option St
  | some r0 => schedF tab ext wr n r0 ops ops.size (Array.replicate ops.size false) S
  | none => none

def regionS (tab : List TI) (ext : Ext) (wr : Bool) (n : Nat) (ops : Array Oper) (draw : Bool) (S : St) : Option St :=
  match draw with
  | false => stepsO tab ext wr n false ops.toList ops.toList S
  | true => match Region.noSelect ops with
    | true => match (match seqOk ops with
      | true => seqS tab ext wr n ops 0 (Array.replicate ops.size false) ops.toList S
      | false => schedS tab ext wr n ops ops.size (Array.replicate ops.size false) S) with
      | some S' => some S'
      | none => match fO tab ext wr n ops S (srcOf 0 S.L) with
        | some S' => some S'
        | none => match fO tab ext wr n ops S (storeOf S.E ops.toList) with
          | some S' => some S'
          | none => schedT tab ext wr n ops ops.size (Array.replicate ops.size false) S
    | false => none

theorem fO_cs {tab : List TI} {ext : Ext} {wr : Bool} {ops : Array Oper} {S S' : St} {o : Option Nat} (h : fO tab ext wr n ops S o = some S') (hc : All S'.cs) : All S.cs := by
  cases o with
  | none => cases h
  | some r0 => exact schedF_cs h hc

theorem regionS_cs {tab : List TI} {ext : Ext} {wr : Bool} {ops : Array Oper} {draw : Bool} {S S' : St} (h : regionS tab ext wr n ops draw S = some S') (hc : All S'.cs) : All S.cs := by
  unfold regionS at h
  split at h
  · exact stepsO_cs h hc
  · split at h
    · split at h
      · rename_i S1 h1
        cases h
        split at h1
        · exact seqS_cs h1 hc
        · exact schedS_cs h1 hc
      · split at h
        · rename_i h1
          cases h
          exact fO_cs h1 hc
        · split at h
          · rename_i h1
            cases h
            exact fO_cs h1 hc
          · exact schedT_cs h hc
    · cases h

theorem regionS_wp {tab : List TI} {ext : Ext} (hT : TabOk P tab) (hX : ExtOk P ext) (hm : P.follows .mixedOrders = true) {wr : Bool} {id : Nat} {ops : Array Oper} {draw : Bool} {Q : Exit → Act → World → Prop} (hQ : ∀ c a w, ¬ Q (.panic c) a w) {S S' : St}
    (hR : RelV n K w0 G w a S.E S.L V own) (hd : DecOk q a S)
    (h : regionS tab ext wr n ops draw S = some S') (hc : All S'.cs) (hK : ∀ a' w0' G' w' V' own', RelV n K w0' G' w' a' S'.E S'.L V' own' → DecOk q a' S' → Q .normal a' w') : (Code.region id ops draw).wp P Q a w := by
  unfold regionS at h
  split at h
  · exact wp_region_list (stepsO_wp hT hX hR hd h hc hK)
  · split at h
    · rename_i hs
      split at h
      · rename_i S1 h1
        cases h
        refine wp_region_any hm (wpAny_of_K (F := []) _ _ _ _ ?_)
        split at h1
        · rename_i hok
          have := seqS_spec hT hX hs hQ hc hK hok (hR.ext (Kept.refl _ _).drew) hd (Down.start ops ops.size) ⟨by simp, fun k hk => by rw [Array.getD_eq_getD_getElem?]; simp [hk]⟩ (by simp) hok h1
          simpa using this
        · exact schedS_spec hT hX hs hQ hc hK (hR.ext (Kept.refl _ _).drew) hd (Down.start ops _) h1
      · have key : ∀ o S1, fO tab ext wr n ops S o = some S1 → S1 = S' → (Code.region id ops true).wp P Q a w := by
          intro o S1 h1 e
          subst e
          cases o with
          | none => cases h1
          | some r0 =>
            refine wp_region_any hm (wpAny_of_K (F := own r0) _ _ _ _ ?_)
            exact schedF_spec hT hX hs hQ hc hK (hR.ext (Kept.refl _ _).drew) hd (Down.start ops _) h1
        split at h
        · rename_i h1
          cases h
          exact key _ _ h1 rfl
        · split at h
          · rename_i h1
            cases h
            exact key _ _ h1 rfl
          · refine wp_region_any hm ?_
            exact schedT_spec hT hX hs hQ hc hK (hR.ext (Kept.refl _ _).drew) hd (Down.start ops _) h
    · cases h
end
end Go.Am

/- The abstract machine, part 20: runs between cut points. -/
namespace Go.Am
set_option linter.unusedVariables false
set_option linter.unusedSimpArgs false

def RunK (P : Program) (f : FuncId) (R : Ending → World → Prop) (k : List Item) (a : Act) (w : World) : Prop :=
  ∀ (b : Frame) cs, b.fn = f → b.kind = .normal → ∃ e w' fr, R e w' ∧ Comes P (lone (b.at a k) cs w) (lone fr cs w') e ∧ fr.fn = f ∧ fr.leaving P w' e

section
variable {P : Program} {f : FuncId} {R : Ending → World → Prop} {k k' : List Item} {a a' : Act} {w w' : World}

theorem RunK.step (h : ∀ (b : Frame) cs, step P (lone (b.at a k) cs w) = .next (lone (b.at a' k') cs w')) (hr : RunK P f R k' a' w') : RunK P f R k a w := fun b cs hb hk => by
  obtain ⟨e, w2, fr, h1, h2, h3, h4⟩ := hr b cs hb hk
  exact ⟨e, w2, fr, h1, Comes.of_steps (.one (h b cs)) h2, h3, h4⟩

theorem RunK.of_wp {c : Code} (h : c.wp P (fun e a' w' => e = .normal ∧ RunK P f R k a' w') a w) : RunK P f R (.code c :: k) a w := fun b cs hb hk => by
  obtain ⟨e, a', w', ⟨rfl, hr⟩, harr⟩ := h b k cs
  obtain ⟨e, w2, fr, h1, h2, h3, h4⟩ := hr b cs hb hk
  exact ⟨e, w2, fr, h1, Comes.of_steps harr h2, h3, h4⟩

def FinK (P : Program) (f : FuncId) (R : Ending → World → Prop) (a : Act) (w : World) : Prop :=
  a.defers = [] ∧ ∃ fn v, P.funcs[f]? = some fn ∧ (results fn a.tmps).run P w = .ok v w ∧ R (.returned v) w

theorem RunK.nil (h : FinK P f R a w) : RunK P f R [] a w := fun b cs hb hk => by
  obtain ⟨hd, fn, v, hf, hr, hR⟩ := h
  exact ⟨.returned v, w, _, hR, Steps.one step_end, hb, rfl, hd, hk, fn, by rw [show (b.at a []).fn = f from hb]; exact hf, hr⟩

theorem RunK.ret (h : FinK P f R a w) : RunK P f R (.code .ret :: k) a w := fun b cs hb hk => by
  obtain ⟨hd, fn, v, hf, hr, hR⟩ := h
  exact ⟨.returned v, w, _, hR, Steps.one step_ret, hb, rfl, hd, hk, fn, by rw [show (b.at a (.code .ret :: k)).fn = f from hb]; exact hf, hr⟩

theorem calls_of_run {fn : Func} {c : Code} {args : Array Value} (hf : P.funcs[f]? = some fn) (hb : fn.body = some c)
    (h : RunK P f R [.code c] { tmps := args ++ Array.replicate (fn.ntmps - args.size) undef, defers := [] } w) : Calls P f args w R := by
  intro cs
  let b : Frame := { (default : Frame) with fn := f, kind := .normal }
  have henter : Frame.enter P f args .normal =
      b.at { tmps := args ++ Array.replicate (fn.ntmps - args.size) undef, defers := [] } [.code c] := by
    simp [Frame.enter, Frame.at, hf, hb, b]
  rw [henter]
  exact h b cs rfl rfl
end


inductive OutS where
  | stop (k : List Item) (S : St)
  | fin (S : St)

def OutS.st : OutS → St
  | .stop _ S => S
  | .fin S => S

def decideO (S : St) : Operand → Option (Bool × St)
  | .tmp t => decideS S t
  | .const (.bool b) => some (b, S)
  | _ => none

def runA (tab : List TI) (ext : Ext) (wr : Bool) (n : Nat) (stops : List Nat) : Nat → Bool → List Item → St → Option OutS
  | 0, _, _, _ => none
  | _ + 1, _, [], S => some (.fin S)
  | m + 1, first, .inBlock _ :: k, S => runA tab ext wr n stops m first k S
  | m + 1, first, .inLoop c :: k, S => match memB 1000007 stops with
    | true => runA tab ext wr n stops m first (.code c :: .inLoop c :: k) S
    | false => some (.stop (.code c :: .inLoop c :: k) S)
  | m + 1, first, .code c :: k, S => match c with
    | .skip => runA tab ext wr n stops m first k S
    | .label _ => runA tab ext wr n stops m first k S
    | .seq x y => runA tab ext wr n stops m first (.code x :: .code y :: k) S
    | .block id c => runA tab ext wr n stops m first (.code c :: .inBlock id :: k) S
    | .loop c => match memB 1000007 stops with
      | true => runA tab ext wr n stops m first (.code c :: .inLoop c :: k) S
      | false => some (.stop (.code c :: .inLoop c :: k) S)
    | .exit id => match exitTo id k with
      | some k' => runA tab ext wr n stops m first k' S
      | none => none
    | .ret => some (.fin S)
    | .cond c x y => match decideO S c with
      | some (d, S') => runA tab ext wr n stops m false (.code (cond d x y) :: k) S'
      | none => none
    | .region id ops draw => match !first && memB id stops with
      | true => some (.stop (.code (.region id ops draw) :: k) S)
      | false => match regionS tab ext wr n ops draw S with
        | some S' => runA tab ext wr n stops m false k S'
        | none => none
    | _ => none
  | _ + 1, _, _, _ => none

section
variable {P : Program} {n : Nat} {q : Nat → Value} {K : Ctx} {G : Nat → Prop} {w0 w : World} {a : Act} {V : Nat → Value} {own : Nat → List Nat} {f : FuncId} {R : Ending → World → Prop}

def AtV (P : Program) (f : FuncId) (R : Ending → World → Prop) (n : Nat) (K : Ctx) (q : Nat → Value) (ps : List Nat) (k : List Item) (E : Env) (L : Heap) : Prop :=
  ∀ a w w0 G V own, RelV n K w0 G w a E L V own → (∀ t ∈ ps, a.tmps.getD t undef = q t) → RunK P f R k a w

def FinV (P : Program) (f : FuncId) (R : Ending → World → Prop) (n : Nat) (K : Ctx) (q : Nat → Value) (ps : List Nat) (E : Env) (L : Heap) : Prop :=
  ∀ a w w0 G V own, RelV n K w0 G w a E L V own → (∀ t ∈ ps, a.tmps.getD t undef = q t) → FinK P f R a w

def OutOk (P : Program) (f : FuncId) (R : Ending → World → Prop) (n : Nat) (K : Ctx) (q : Nat → Value) : OutS → Prop
  | .stop k S => AtV P f R n K q S.pins k S.E S.L
  | .fin S => FinV P f R n K q S.pins S.E S.L

theorem decideO_spec {S S' : St} {x : Operand} {d : Bool} (hR : RelV n K w0 G w a S.E S.L V own) (hd : DecOk q a S) (h : decideO S x = some (d, S')) (hc : All S'.cs) :
    a.eval x = .bool d ∧ S'.E = S.E ∧ S'.L = S.L ∧ DecOk q a S' ∧ All S.cs := by
  unfold decideO at h
  split at h
  · exact decideS_spec hR hd h hc
  · cases h; exact ⟨rfl, rfl, rfl, hd, hc⟩
  · cases h

theorem decideO_cs {S S' : St} {x : Operand} {d : Bool} (h : decideO S x = some (d, S')) (hc : All S'.cs) : All S.cs := by
  unfold decideO at h
  split at h
  · exact decideS_cs h hc
  · cases h; exact hc
  · cases h

theorem runA_cs {tab : List TI} {ext : Ext} {wr : Bool} {stops : List Nat} : ∀ {m : Nat} {first : Bool} {k : List Item} {S : St} {out : OutS}, runA tab ext wr n stops m first k S = some out → All out.st.cs → All S.cs := by
  intro m
  induction m with
  | zero => intro first k S out h; cases h
  | succ m ih =>
    intro first k S out h hc
    match k, h with
    | [], h => cases h; exact hc
    | .inBlock _ :: k, h => simp only [runA] at h; exact ih h hc
    | .inLoop c :: k, h =>
      simp only [runA] at h
      split at h
      · exact ih h hc
      · cases h; exact hc
    | .code c :: k, h =>
      cases c with
      | skip => simp only [runA] at h; exact ih h hc
      | label _ => simp only [runA] at h; exact ih h hc
      | seq x y => simp only [runA] at h; exact ih h hc
      | block id c => simp only [runA] at h; exact ih h hc
      | loop c =>
        simp only [runA] at h
        split at h
        · exact ih h hc
        · cases h; exact hc
      | exit id =>
        simp only [runA] at h
        split at h
        · exact ih h hc
        · cases h
      | ret => cases h; exact hc
      | cond c x y =>
        simp only [runA] at h
        split at h
        · rename_i hd; exact decideO_cs hd (ih h hc)
        · cases h
      | region id ops draw =>
        simp only [runA] at h
        split at h
        · cases h; exact hc
        · split at h
          · rename_i hr; exact regionS_cs hr (ih h hc)
          · cases h
      | _ => cases h

theorem runA_run {tab : List TI} {ext : Ext} (hT : TabOk P tab) (hX : ExtOk P ext) (hm : P.follows .mixedOrders = true) {wr : Bool} {stops : List Nat} : ∀ {w0 : World} {G : Nat → Prop} {m : Nat} {first : Bool} {k : List Item} {S : St} {out : OutS} {a : Act} {w : World} {V : Nat → Value} {own : Nat → List Nat},
    runA tab ext wr n stops m first k S = some out → All out.st.cs → RelV n K w0 G w a S.E S.L V own → DecOk q a S → OutOk P f R n K q out → RunK P f R k a w := by
  intro w0 G m
  induction m generalizing w0 G with
  | zero => intro first k S out a w V own h; cases h
  | succ m ih =>
    intro first k S out a w V own h hc hR hd ho
    match k, h with
    | [], h => cases h; exact RunK.nil (ho _ _ _ _ _ _ hR hd.2)
    | .inBlock _ :: k, h => simp only [runA] at h; exact RunK.step (fun b cs => step_inBlock) (ih h hc hR hd ho)
    | .inLoop c :: k, h =>
      simp only [runA] at h
      split at h
      · exact RunK.step (fun b cs => step_inLoop) (ih h hc hR hd ho)
      · cases h; exact RunK.step (fun b cs => step_inLoop) (ho _ _ _ _ _ _ hR hd.2)
    | .code c :: k, h =>
      cases c with
      | skip => simp only [runA] at h; exact RunK.step (fun b cs => step_skip) (ih h hc hR hd ho)
      | label _ => simp only [runA] at h; exact RunK.step (fun b cs => step_label) (ih h hc hR hd ho)
      | seq x y => simp only [runA] at h; exact RunK.step (fun b cs => step_seq) (ih h hc hR hd ho)
      | block id c => simp only [runA] at h; exact RunK.step (fun b cs => step_block) (ih h hc hR hd ho)
      | loop c =>
        simp only [runA] at h
        split at h
        · exact RunK.step (fun b cs => step_loop) (ih h hc hR hd ho)
        · cases h; exact RunK.step (fun b cs => step_loop) (ho _ _ _ _ _ _ hR hd.2)
      | exit id =>
        simp only [runA] at h
        split at h
        · rename_i k' he; exact RunK.step (fun b cs => step_exit he) (ih h hc hR hd ho)
        · cases h
      | ret => cases h; exact RunK.ret (ho _ _ _ _ _ _ hR hd.2)
      | cond c x y =>
        simp only [runA] at h
        split at h
        · rename_i d S' hdec
          obtain ⟨h1, h2, h3, h4, h5⟩ := decideO_spec hR hd hdec (runA_cs h hc)
          refine RunK.step (fun b cs => step_cond h1) ?_
          have := ih h hc (by rw [h2, h3]; exact hR) h4 ho
          cases d <;> exact this
        · cases h
      | region id ops draw =>
        simp only [runA] at h
        split at h
        · cases h; exact ho _ _ _ _ _ _ hR hd.2
        · split at h
          · rename_i S' hr
            refine RunK.of_wp (regionS_wp hT hX hm (fun c a w hh => by cases hh.1) hR hd hr (runA_cs h hc) fun a' w0' G' w' V' own' hR' hd' => ⟨rfl, ih h hc hR' hd' ho⟩)
          · cases h
      | _ => cases h
end

end Go.Am

/- The abstract machine, part 21: how a function is entered and left. -/
namespace Go.Am
set_option linter.unusedVariables false
set_option linter.unusedSimpArgs false


def capsA : (caps : List (Bool × Ty)) → capsDen caps → List Atom
  | [], _ => []
  | (true, t) :: r, x => .ptr t x.1 :: capsA r x.2
  | (false, t) :: r, x => toAtom t x.1 :: capsA r x.2

def argA (k : Nat) : (a : AT) → a.den → PV × Heap
  | .v t, x => (.a (toAtom t x), [])
  | .p t, x => (.a (.ptr t x), [])
  | .own t, xs => (.a (.osl k none), [some ⟨t, xs, false, none, none⟩])
  | .pb t, x => (.a (.optr k 0 []), [some ⟨t, [x], true, none, some true⟩])
  | .po t, x => match expl k t x with
    | (ls, es) => (.a (.bptr (k + es.length) 0 t), es ++ [some ⟨t, [], false, some ls, none⟩])
  | .sv t, x => match expl k t x with
    | (ls, es) => (.a (.rcd t ls), es)
  | .fn f caps, x => (.fn f (capsA caps x), [])
  | .fns fs, _ => (.a (.sl .fn (fs.map some)), [])

def entE : Nat → Nat → (sig : List AT) → sigDen sig → Env
  | _, _, [], _ => []
  | i, k, a :: r, x => match argA k a x.1 with
    | (p, es) => (i, p) :: entE (i + 1) (k + es.length) r x.2

def entH : Nat → (sig : List AT) → sigDen sig → Heap
  | _, [], _ => []
  | k, a :: r, x => match argA k a x.1 with
    | (_, es) => es ++ entH (k + es.length) r x.2

def entL (sig : List AT) (x : sigDen sig) : Heap := entH 0 sig x

def pinsOf : Nat → List AT → List Nat
  | _, [] => []
  | i, a :: r => match isOwn a with
    | true => i :: pinsOf (i + 1) r
    | false => pinsOf (i + 1) r

def wfCaps : (caps : List (Bool × Ty)) → capsDen caps → Prop
  | [], _ => True
  | (_, t) :: r, x => Wf t x.1 ∧ wfCaps r x.2

def wfA : (a : AT) → a.den → Prop
  | .v t, x => Wf t x
  | .p t, x => Wf t x
  | .own t, xs => Wf (.sl t) xs
  | .pb t, x => Wf t x
  | .po t, x => Wf t x
  | .sv t, x => Wf t x
  | .fn _ caps, x => wfCaps caps x
  | .fns _, _ => True

def wfSig : (sig : List AT) → sigDen sig → Prop
  | [], _ => True
  | a :: r, x => wfA a x.1 ∧ wfSig r x.2

section
variable {P : Program} {n : Nat} {K : Ctx} {G : Nat → Prop} {w0 w : World} {a : Act} {V : Nat → Value} {own : Nat → List Nat} {f : FuncId} {R : Ending → World → Prop} {E : Env} {L : Heap}

theorem repB_wf {G : Nat → Prop} {t : Ty} {x : t.den} {v : Value} (h : RepB w G (toAtom t x) v) : Wf t x := by
  cases t with
  | int k => exact h.2
  | bool => trivial
  | fn => trivial
  | str => exact h.2
  | sl e => exact wf_slAt (fun _ _ => RepC.wf) h
  | unit => trivial
  | cons a b => obtain ⟨cs, _, h⟩ := h; exact h.wf

theorem ptr_wf {G : Nat → Prop} {t : Ty} {x : t.den} {v : Value} (h : PtrAt w G t x v) : Wf t x := by
  obtain ⟨_, _, _, _, _, _, h⟩ := h
  exact h.wf

theorem caps_wf {G : Nat → Prop} : ∀ {caps : List (Bool × Ty)} {x : capsDen caps} {vs : List Value}, CapsRep w G caps x vs → wfCaps caps x
  | [], _, _, _ => trivial
  | (true, t) :: r, x, vs, ⟨_, _, _, h, h2⟩ => ⟨ptr_wf h, caps_wf h2⟩
  | (false, t) :: r, x, vs, ⟨_, _, _, h, h2⟩ => ⟨repB_wf h, caps_wf h2⟩

theorem argsK_wf {G G0 : Nat → Prop} : ∀ {sig : List AT} {x : sigDen sig} {vs : List Value} {bss : List (List Nat)}, ArgsK w G G0 sig x vs bss → wfSig sig x
  | [], _, _, _, _ => trivial
  | a :: r, x, vs, bss, ⟨_, _, _, _, _, _, h, h2⟩ => by
    refine ⟨?_, argsK_wf h2⟩
    cases a with
    | v t => exact repB_wf h.2
    | p t => exact ptr_wf h.2
    | own t => exact OwnC.wf h
    | pb t => obtain ⟨b, off, _, h⟩ := h; exact (EntC.wf h).2 _ (List.mem_singleton.2 rfl)
    | po t => obtain ⟨b, off, _, h⟩ := h; exact (wf_ownSl (fun _ _ _ => OwnC.wf) h).2 _ (List.mem_singleton.2 rfl)
    | sv t => obtain ⟨cs, _, h⟩ := h; exact h.wf
    | fn g caps => obtain ⟨_, _, _, h⟩ := h; exact caps_wf h
    | fns _ => trivial

theorem args_wf {G : Nat → Prop} {sig : List AT} {x : sigDen sig} {vs : List Value} {bss : List (List Nat)} (h : ArgsRep w G sig x vs bss) : wfSig sig x := argsK_wf h

theorem repA_ofB {t : Ty} {x : t.den} {v : Value} (h : RepB w0 G (toAtom t x) v) : RepA w0 G L V (toAtom t x) v := by
  cases t <;> exact h

theorem caps_rep : ∀ {caps : List (Bool × Ty)} {x : capsDen caps} {vs : List Value}, CapsRep w0 G caps x vs → RepAs w0 G L V (capsA caps x) vs
  | [], _, _, h => h
  | (true, t) :: r, x, vs, ⟨v, s, h1, h, h2⟩ => ⟨v, s, h1, h, caps_rep h2⟩
  | (false, t) :: r, x, vs, ⟨v, s, h1, h, h2⟩ => ⟨v, s, h1, repA_ofB h, caps_rep h2⟩

theorem arg_spec (hR : RelV n K w G w a E L V own) {o : AT} {x : o.den} {v : Value} {bs : List Nat} (h : ArgRep w G K.G0 o x v bs) (hn : bs.Nodup) (hg : ∀ b ∈ bs, Out K G b) (hd : ∀ r A, hget L r = some A → ∀ b ∈ own r, b ∉ bs) :
    ∃ V' own', RelV n K w G w a E (L ++ (argA L.length o x).2) V' own' ∧ Grown L (argA L.length o x).2 V V' own own' bs ∧ RepP w G (L ++ (argA L.length o x).2) V' (argA L.length o x).1 v := by
  cases o with
  | v t =>
    exact ⟨V, own, by simpa [argA] using hR, Grown.refl _ _ _, repA_ofB h.2⟩
  | p t =>
    exact ⟨V, own, by simpa [argA] using hR, Grown.refl _ _ _, h.2⟩
  | fns fs =>
    exact ⟨V, own, by simpa [argA] using hR, Grown.refl _ _ _, repA_ofB (L := L ++ []) (V := V) (t := .sl .fn) (x := fs.map some) h.2⟩
  | fn f caps =>
    obtain ⟨_, vs, hv, hh⟩ := h
    exact ⟨V, own, by simpa [argA] using hR, Grown.refl _ _ _, vs, hv, caps_rep hh⟩
  | own t =>
    have hE : EntC w G w ⟨t, x, false, none, none⟩ v bs := EntC.own.2 h
    obtain ⟨h1, h2⟩ := grow_one hR hE hn hg hd
    exact ⟨_, _, h1, h2, repA_new (w0 := w) (G := G) (u := w) (G' := G) hE⟩
  | pb t =>
    obtain ⟨b, off, rfl, hE0⟩ := h
    have hE : EntC w G w ⟨t, [x], true, none, some true⟩ (.slice (some ⟨b, off, none⟩) 1 1) bs := EntC.keepG (A := ⟨t, [x], true, none, none⟩) hR.gsub (fun _ _ => rfl) (fun _ _ => rfl) hE0
    obtain ⟨h1, h2⟩ := grow_one hR hE hn hg hd (hsm := fun q hq => ⟨⟨b, off, rfl⟩, fun _ => ⟨rfl, hE0⟩⟩)
    refine ⟨_, _, h1, h2, ⟨t, [x], true, none, some true⟩, hget_new _ _, by simp, b, off, 1, 1, 0, t, upd1_same _ _ _, rfl, by simp⟩
  | po t =>
    obtain ⟨b, off, rfl, hO⟩ := h
    rcases hO.2 with ⟨_, h1, _, _⟩ | ⟨b2, off2, cap, cur, ty, fz, bss, h1, h2, h3, h4, h5, h6, h7, h8, h9⟩
    · cases h1
    · simp only [Value.slice.injEq, Option.some.injEq, Addr.mk.injEq] at h1
      obtain ⟨⟨q1, q2, _⟩, _, q3⟩ := h1
      subst q1 q2 q3
      obtain ⟨bi, rfl⟩ : ∃ bi, bss = [bi] := by
        match bss, h7 with
        | [bi], _ => exact ⟨bi, rfl⟩
      obtain ⟨cs, g1, g2, g3⟩ := h9 0 x bi rfl rfl
      have hcells : CellsAt w b off cs := fun j c hj => by
        simp only [World.cell?, h5]
        have := g2 j c hj
        simpa using this
      have h8 : bs = b :: bi := by rw [h8]; simp
      subst h8
      obtain ⟨hb, hni⟩ := List.nodup_cons.1 hn
      obtain ⟨V1, own1, r1, k1, l1, n1⟩ := expl_spec hR g3 hni (fun c hc => hg c (List.mem_cons_of_mem _ hc)) (fun r A hA c hc hm => hd r A hA c hc (List.mem_cons_of_mem _ hm))
      have hE : EntC w G w ⟨t, [], false, some (expl L.length t x).1, none⟩ (.slice (some ⟨b, off, none⟩) 0 1) [b] :=
        ⟨by simp [maxLen], .inr ⟨b, off, 1, cur, ty, fz, [], rfl, Nat.zero_le _, h3, h4, h5, h6, rfl, rfl, fun i y bi hy => by simp at hy⟩⟩
      have hap := k1.apart (rest := [b]) (fun r A hA c hc hm => hd r A hA c hc (by rw [List.mem_singleton.1 hm]; exact List.mem_cons_self ..)) (fun c hc hm => hb (by rw [← List.mem_singleton.1 hm]; exact hc))
      obtain ⟨h10, h11⟩ := grow_one r1 hE (by simp) (fun c hc => by rw [List.mem_singleton.1 hc]; exact hg b (List.mem_cons_self ..)) hap (hbox := fun l hl => by cases hl; exact ⟨b, off, cs, rfl, g1, n1, hcells, l1⟩)
      have e2 : (argA L.length (.po t) x).2 = (expl L.length t x).2 ++ [some ⟨t, [], false, some (expl L.length t x).1, none⟩] := rfl
      have e1 : (argA L.length (.po t) x).1 = .a (.bptr (L.length + (expl L.length t x).2.length) 0 t) := rfl
      rw [e1, e2, ← List.append_assoc]
      have hlen : (L ++ (expl L.length t x).2).length = L.length + (expl L.length t x).2.length := by simp
      refine ⟨_, _, h10, k1.trans h11 (fun c hc => List.mem_cons_of_mem _ hc) (fun c hc => by rw [List.mem_singleton.1 hc]; exact List.mem_cons_self ..), ?_⟩
      rw [← hlen]
      exact ⟨_, _, b, off, hget_new _ _, rfl, upd1_same _ _ _, rfl, by simp⟩
  | sv t =>
    obtain ⟨cs, rfl, ho⟩ := h
    obtain ⟨V1, own1, r1, k1, l1, n1⟩ := expl_spec hR ho hn hg hd
    exact ⟨V1, own1, r1, k1, cs, rfl, n1, l1⟩

theorem ent_spec : ∀ {sig : List AT} {x : sigDen sig} {vs : List Value} {bss : List (List Nat)} {L : Heap} {V : Nat → Value} {own : Nat → List Nat} {i : Nat}, RelV n K w G w a E L V own → ArgsK w G K.G0 sig x vs bss → bss.flatten.Nodup → (∀ b ∈ bss.flatten, Out K G b) → (∀ r A, hget L r = some A → ∀ b ∈ own r, b ∉ bss.flatten) →
    (∀ j v, vs[j]? = some v → a.tmps.getD (i + j) undef = v) →
    ∃ V' own', RelV n K w G w a E (L ++ entH L.length sig x) V' own' ∧ (∀ r, (∃ B, hget L r = some B) → Agree L V (L ++ entH L.length sig x) V' r) ∧ ∀ j, RepP w G (L ++ entH L.length sig x) V' ((entE i L.length sig x).get j) (a.tmps.getD j undef)
  | [], x, vs, bss, L, V, own, i, hR, _, _, _, _, _ => ⟨V, own, by simpa [entH] using hR, fun r _ => Agree.of_same rfl (by simp [entH]), fun j => trivial⟩
  | o :: sig, x, vs, bss, L, V, own, i, hR, ⟨v, s, b, bs, h1, h2, h, h3⟩, hn, hg, hd, ht => by
    subst h1 h2
    obtain ⟨hn1, hn2, hn3⟩ := nodup_flatten_cons hn
    obtain ⟨V1, own1, r1, g1, p1⟩ := arg_spec hR h hn1 (fun c hc => hg c (by simp [hc])) (fun r A hA c hc hm => hd r A hA c hc (by simp [hm]))
    have hlen : (L ++ (argA L.length o x.1).2).length = L.length + (argA L.length o x.1).2.length := by simp
    obtain ⟨V2, own2, r2, a2, p2⟩ := ent_spec (i := i + 1) r1 h3 hn2 (fun c hc => hg c (by rw [List.flatten_cons]; exact List.mem_append_right _ hc)) (g1.apart (fun r A hA c hc hm => hd r A hA c hc (by rw [List.flatten_cons]; exact List.mem_append_right _ hm)) hn3) (fun j u hj => by
      have := ht (j + 1) u (by simpa using hj)
      rwa [show i + (j + 1) = i + 1 + j from by omega] at this)
    rw [hlen] at r2 a2 p2
    have e1 : entH L.length (o :: sig) x = (argA L.length o x.1).2 ++ entH (L.length + (argA L.length o x.1).2.length) sig x.2 := rfl
    have e2 : entE i L.length (o :: sig) x = (i, (argA L.length o x.1).1) :: entE (i + 1) (L.length + (argA L.length o x.1).2.length) sig x.2 := rfl
    rw [e1, e2, ← List.append_assoc]
    refine ⟨V2, own2, r2, fun r hr => ?_, fun j => ?_⟩
    · have a1 := g1.agree r hr
      obtain ⟨B, hB⟩ := hr
      obtain ⟨B', hB', _⟩ := a1.2 B hB
      exact a1.trans (a2 r ⟨B', hB'⟩)
    · simp only [Env.get]
      cases hij : Nat.beq i j with
      | true =>
        obtain rfl := Nat.eq_of_beq_eq_true hij
        simp only [cond_true]
        have := ht 0 v rfl
        rw [Nat.add_zero] at this
        rw [this]
        exact repP_agree p1 fun r hr => a2 r (repP_live p1 r hr)
      | false =>
        simp only [cond_false]
        exact p2 j

theorem own_vals {G G0 : Nat → Prop} : ∀ {sig : List AT} {x : sigDen sig} {vs : List Value} {bss : List (List Nat)} {i : Nat} {q : Nat → Value}, ArgsK w G G0 sig x vs bss → (∀ j v, vs[j]? = some v → q (i + j) = v) → ownVals sig vs = (pinsOf i sig).map q
  | [], x, vs, bss, i, q, h, _ => by obtain ⟨rfl, rfl⟩ := h; rfl
  | a :: r, x, vs, bss, i, q, ⟨v, s, b, bs, h1, h2, h, h3⟩, hq => by
    subst h1 h2
    have h0 : q i = v := by have := hq 0 v rfl; simpa using this
    have ih := own_vals (i := i + 1) (q := q) h3 (fun j u hj => by have := hq (j + 1) u (by simpa using hj); rw [show i + 1 + j = i + (j + 1) by omega]; exact this)
    cases a with
    | v t => exact ih
    | p t => exact ih
    | fn g caps => exact ih
    | fns _ => exact ih
    | own t => simp only [ownVals, pinsOf, isOwn, List.map_cons, h0, ih]
    | pb t => simp only [ownVals, pinsOf, isOwn, List.map_cons, h0, ih]
    | po t => simp only [ownVals, pinsOf, isOwn, List.map_cons, h0, ih]
    | sv t => simp only [ownVals, pinsOf, isOwn, List.map_cons, h0, ih]


def PostR (kds : List RK) (oks : List AT) (ds : List Dyn) (us : List (Option Lst)) (pins : List Nat) (q : Nat → Value) (K : Ctx) (e : Ending) (w' : World) : Prop :=
  PostC K.w0 K.O K.Ga K.G0 kds ds oks us (pins.map q) e w'

theorem contract_of {fn : Func} {c : Code} {S : Spec} (hf : P.funcs[f]? = some fn) (hb : fn.body = some c) (hl : S.sig.length ≤ fn.ntmps)
    (h : ∀ x, S.pre x → wfSig S.sig x → ∀ K q, AtV P f (PostR S.kds (owns S.sig) (S.res x) (S.upd x) (pinsOf 0 S.sig) q K) fn.ntmps K q (pinsOf 0 S.sig) [.code c] (entE 0 0 S.sig x) (entL S.sig x)) : Contract P f S := by
  intro w G G0 x vs bss hgo hG hG0 hpre hargs hnd
  have hlen := args_len hargs
  have hget0 : ∀ j v, vs[j]? = some v → (vs.toArray ++ Array.replicate (fn.ntmps - vs.toArray.size) undef).getD j undef = v := fun j v hj => by
    have hlt := (List.getElem?_eq_some_iff.1 hj).1
    rw [Array.getD_eq_getD_getElem?, Array.getElem?_append_left (by simpa using hlt)]
    simp [hj]
  let q : Nat → Value := fun i => (vs.toArray ++ Array.replicate (fn.ntmps - vs.toArray.size) undef).getD i undef
  let K : Ctx := ⟨w, bss.flatten, G0, G⟩
  let a0 : Act := { tmps := vs.toArray ++ Array.replicate (fn.ntmps - vs.toArray.size) undef, defers := [] }
  have hov : ownVals S.sig vs = (pinsOf 0 S.sig).map q := own_vals hargs (fun j v hj => by rw [Nat.zero_add]; exact hget0 j v hj)
  have h0 : RelV fn.ntmps K w G w a0 [] [] (fun _ => undef) (fun _ => []) := by
    refine ⟨hgo, Kept.refl _ _, ?_, rfl, fun b hb => (hG b hb).1, fun _ _ => rfl, hG0, fun b hb => hG b (hG0 b hb), fun b hb => .inl hb, (fun r A hr => by cases hr), (fun r A hr => by cases hr), (fun r A hr => by cases hr), (fun r s A B hr => by cases hr), (fun r A ls hr => by cases hr), (fun r A q hr => by cases hr), fun i => trivial⟩
    show (vs.toArray ++ Array.replicate (fn.ntmps - vs.toArray.size) undef).size = fn.ntmps
    simp [hlen]; omega
  obtain ⟨V, own, h1, _, h2⟩ := ent_spec (i := 0) h0 hargs hnd (fun b hb => ⟨fun h => h.2 hb, fun h => (hG b h).2 hb⟩) (fun r A hr => by cases hr) (fun j v hj => by rw [Nat.zero_add]; exact hget0 j v hj)
  have h3 : RelV fn.ntmps K w G w a0 (entE 0 0 S.sig x) (entL S.sig x) V own := { h1 with env := fun i => h2 i }
  refine (calls_of_run hf hb (h x hpre (argsK_wf hargs) K q a0 w w G V own h3 (fun t ht => rfl))).mono ?_
  intro e w' hp
  rw [hov]
  exact hp

def updOne (L : Heap) : AT → PV → Option (Lst × List Nat)
  | .own t, .a (.osl k none) => match hget L k with
    | some A => match A.bor with
      | false => some (⟨A.t, A.xs⟩, [k])
      | true => none
    | none => none
  | .pb t, .a (.optr k 0 []) => match hget L k with
    | some A => match A.sm with
      | some true => if h : A.t = t then (match one1 (castL h A.xs) with | some x => some (⟨t, [x]⟩, [k]) | none => none) else none
      | _ => none
    | none => none
  | .po t, .a A => match decPo L t A with
    | some (x, us) => some (⟨t, [x]⟩, us)
    | none => none
  | .sv t, .a A => match decSv L t A with
    | some (x, us) => some (⟨t, [x]⟩, us)
    | none => none
  | _, _ => none

def updO (E : Env) (L : Heap) (gone : List Nat) : List Nat → List AT → List (Option Lst) × List Nat
  | i :: r, o :: os => match updO E L gone r os with
    | (us, rs) => match updOne L o (E.get i) with
      | some (A, ks) => match disjB ks gone with
        | true => (some A :: us, ks ++ rs)
        | false => (none :: us, rs)
      | none => (none :: us, rs)
  | _ :: r, [] => (none :: (updO E L gone r []).1, [])
  | [], _ => ([], [])

theorem updOne_spec (hR : RelV n K w0 G w a E L V own) {o : AT} {p : PV} {A : Lst} {ks : List Nat} {v : Value} (hp : RepP w0 G L V p v) (h : updOne L o p = some (A, ks)) : UpdOne w K.G0 o A v (ks.map own).flatten ∧ ∀ r ∈ ks, ∃ B, hget L r = some B := by
  unfold updOne at h
  split at h
  · rename_i t k
    split at h
    · rename_i B hB
      split at h
      · rename_i hbor
        cases h
        obtain ⟨B', hB', h1, _⟩ := hp
        rw [hB] at hB'; cases hB'
        have hE := hR.heap k B hB
        obtain ⟨tB, xB, bB, lB, sB⟩ := B
        simp only at hbor
        subst hbor
        refine ⟨?_, fun r hr => by rw [List.mem_singleton.1 hr]; exact ⟨_, hB⟩⟩
        rw [h1 rfl]
        simp only [List.map_cons, List.map_nil, List.flatten_cons, List.flatten_nil, List.append_nil]
        exact EntC.own.1 hE
      · cases h
    · cases h
  · rename_i t k
    split at h
    · rename_i B hB
      split at h
      · rename_i hsm
        split at h
        · rename_i ht
          split at h
          · rename_i x hx
            cases h
            obtain ⟨B', hB', hi, b, off, m, cap, po, t', hv, hpp, rfl⟩ := hp
            rw [hB] at hB'; cases hB'
            simp only [pathOff, Option.some.injEq, Prod.mk.injEq] at hpp
            obtain ⟨rfl, rfl⟩ := hpp
            obtain ⟨⟨b1, off1, hv1⟩, hsm2⟩ := hR.small k B true hB hsm
            obtain ⟨hbor, hE⟩ := hsm2 rfl
            obtain ⟨tB, xB, bB, lB, sB⟩ := B
            simp only at hbor ht
            subst ht
            have hy : xB = [x] := one1_eq hx
            subst hbor hy
            rw [hv1] at hv hE
            cases hv
            refine ⟨⟨x, rfl, b, off, by simp, ?_⟩, fun r hr => by rw [List.mem_singleton.1 hr]; exact ⟨_, hB⟩⟩
            simp only [List.map_cons, List.map_nil, List.flatten_cons, List.flatten_nil, List.append_nil]
            exact EntC.keepG (A := ⟨tB, [x], true, none, none⟩) (fun _ h => h) (fun c hc => hR.gref c (hR.gsub c hc)) (fun _ _ => rfl) hE
          · cases h
        · cases h
      · cases h
    · cases h
  · rename_i t A1
    split at h
    · rename_i x us hpo
      cases h
      obtain ⟨h1, h2, _⟩ := decPo_rep hR (Kept.refl _ _) hp hpo
      exact ⟨⟨x, rfl, h1⟩, h2⟩
    · cases h
  · rename_i t A1
    split at h
    · rename_i x us hsv
      cases h
      obtain ⟨h1, h2⟩ := decSv_rep hR (Kept.refl _ _) hp hsv
      exact ⟨⟨x, rfl, h1⟩, h2⟩
    · cases h
  · cases h

theorem updO_spec {q : Nat → Value} {gone : List Nat} (hR : RelV n K w0 G w a E L V own) : ∀ {ps : List Nat} {os : List AT}, ps.length ≤ os.length → (∀ t ∈ ps, a.tmps.getD t undef = q t) →
    ∃ ubs, UpdK w K.G0 os (updO E L gone ps os).1 (ps.map q) ubs ∧ ubs.flatten = ((updO E L gone ps os).2.map own).flatten ∧ ∀ r ∈ (updO E L gone ps os).2, ∃ B, hget L r = some B
  | [], os, _, _ => ⟨[], by cases os <;> exact ⟨rfl, rfl⟩, by cases os <;> rfl, fun r hr => by cases os <;> cases hr⟩
  | i :: ps, [], hl, _ => by simp at hl
  | i :: ps, o :: os, hl, hq => by
    obtain ⟨ubs, h1, h2, h3⟩ := updO_spec hR (ps := ps) (os := os) (by simpa using hl) (fun t ht => hq t (List.mem_cons_of_mem _ ht))
    simp only [updO]
    have skip : ∃ ubs, UpdK w K.G0 (o :: os) (none :: (updO E L gone ps os).1) ((i :: ps).map q) ubs ∧ ubs.flatten = ((updO E L gone ps os).2.map own).flatten ∧ ∀ r ∈ (updO E L gone ps os).2, ∃ B, hget L r = some B :=
      ⟨[] :: ubs, ⟨_, _, _, rfl, rfl, h1⟩, by simpa using h2, h3⟩
    split
    · rename_i A ks hk
      split
      · have hv := hR.env i
        rw [hq i (List.mem_cons_self ..)] at hv
        obtain ⟨g1, g2⟩ := updOne_spec hR hv hk
        refine ⟨(ks.map own).flatten :: ubs, ⟨_, _, _, _, rfl, rfl, g1, h1⟩, by simp [h2], fun r hr => ?_⟩
        rcases List.mem_append.1 hr with hr | hr
        · exact g2 r hr
        · exact h3 r hr
      · exact skip
    · exact skip

def decO (L : Heap) : (t : Ty) → Atom → Option (t.den × List Nat)
  | .sl e, .osl r none => match hget L r with
    | some A => match A.bor with
      | true => none
      | false => if h : A.t = e then some (castL h A.xs, [r]) else none
    | none => none
  | .sl e, .osl r (some (lo, hi)) => match hget L r with
    | some A => match e.flat && !A.bor with
      | true => if h : A.t = e then some (rgL (some (lo, hi)) (castL h A.xs), [r]) else none
      | false => none
    | none => none
  | .sl e, .val (.slice none _ _) => some ([], [])
  | t, .rcd t' ls => match decide (t' = t), t.agg with
    | true, true => ownLs L t ls
    | _, _ => none
  | t, A => match t.flat with
    | true => match decB t A with
      | some x => some (x, [])
      | none => none
    | false => none

def decK (L : Heap) : RK → (t : Ty) → Atom → Option (t.den × List Nat)
  | .own, t, A => decO L t A
  | .frz, t, A => match decB t (stAtom A) with
    | some x => some (x, [])
    | none => none
  | .bx, t, A => match decPb L t A with
    | some (x, us) => some (x, us)
    | none => none

def cellA (tab : List TI) (L : Heap) (T : TypeId) (A : Atom) : Option Atom :=
  match (tabGet tab T).ty with
  | some t => loadA L t A
  | none => none

def finA (tab : List TI) (E : Env) (L : Heap) : List RK → List Ty → List ResultVar → Option (List Dyn × List Nat)
  | _, [], [] => some ([], [])
  | ks, t :: ts, .tmp i :: r => match E.get i with
    | .a A => match decK L (RK.hd ks) t A, finA tab E L ks.tail ts r with
      | some (x, us), some (ds, vs) => some (⟨t, x⟩ :: ds, us ++ vs)
      | _, _ => none
    | _ => none
  | ks, t :: ts, .cell i T :: r => match E.get i with
    | .a A => match cellA tab L T A with
      | some B => match decK L (RK.hd ks) t B, finA tab E L ks.tail ts r with
        | some (x, us), some (ds, vs) => some (⟨t, x⟩ :: ds, us ++ vs)
        | _, _ => none
      | none => none
    | _ => none
  | _, _, _ => none

def frzF (tab : List TI) (E : Env) (L : Heap) : List RK → List ResultVar → List Nat
  | .frz :: ks, .tmp i :: r => (match E.get i with
    | .a A => refA A
    | _ => []) ++ frzF tab E L ks r
  | .frz :: ks, .cell i T :: r => (match E.get i with
    | .a A => match cellA tab L T A with
      | some B => refA B
      | none => []
    | _ => []) ++ frzF tab E L ks r
  | _ :: ks, _ :: r => frzF tab E L ks r
  | _, _ => []

theorem isVal_of {t : Ty} {cs : List Value} (hl : cs.length = t.size) : IsVal t cs (valOf t cs) := by
  cases t <;> simp only [IsVal, valOf, Ty.agg, if_true, if_false, Bool.false_eq_true]
  all_goals (match cs, hl with | [c], _ => rfl)

theorem cell_run {T : TypeId} {u v : Value} (h : (Instr.loadAt T u).run P w = .ok v w) : (do loadVar T (← asAddr u) : Sem Value).run P w = .ok v w := by
  cases u with
  | pointer a =>
    cases a with
    | none => simp [Instr.loadAt, Instr.sureAddr] at h
    | some a => simpa [Instr.loadAt, Instr.sureAddr, asAddr] using h
  | _ => simp [Instr.loadAt, Instr.sureAddr] at h

theorem decO_flat (hR : RelV n K w0 G w a E L V own) {t : Ty} {A : Atom} {x : t.den} {us : List Nat} {v : Value} (hv : RepA w0 G L V A v) (h : (match t.flat with | true => (match decB t A with | some x => some (x, ([] : List Nat)) | none => none) | false => none) = some (x, us)) :
    us = [] ∧ ∃ cs, OwnC w t x cs [] ∧ IsVal t cs v := by
  split at h
  · rename_i hf
    split at h
    · rename_i y hd
      cases h
      obtain ⟨cs, hv, _, _, hent⟩ := entR_of_decB (repB_of_decB hv hd) hd false (fun _ => hf)
      exact ⟨rfl, cs, hent w, by rw [hv]; exact isVal_of (OwnC.length (hent w))⟩
    · cases h
  · cases h

theorem decO_spec (hR : RelV n K w0 G w a E L V own) {t : Ty} {A : Atom} {x : t.den} {us : List Nat} {v : Value} (hv : RepA w0 G L V A v) (h : decO L t A = some (x, us)) :
    (∃ cs, OwnC w t x cs (us.map own).flatten ∧ IsVal t cs v) ∧ ∀ r ∈ us, ∃ B, hget L r = some B := by
  unfold decO at h
  split at h
  · rename_i e r
    have h' : slW L e (.osl r none) = some (x, us) := h
    obtain ⟨h1, h2⟩ := slW_rep hR (l := .osl r none) (v := v) hv h'
    exact ⟨⟨[v], h1, rfl⟩, h2⟩
  · rename_i e r lo hi
    have h' : slW L e (.osl r (some (lo, hi))) = some (x, us) := h
    obtain ⟨h1, h2⟩ := slW_rep hR (l := .osl r (some (lo, hi))) (v := v) hv h'
    exact ⟨⟨[v], h1, rfl⟩, h2⟩
  · rename_i e n c
    cases h
    obtain ⟨rfl, hn, hc⟩ := hv
    subst hn hc
    exact ⟨⟨_, ⟨_, rfl, by simp [maxLen], .inl ⟨_, rfl, rfl, rfl⟩⟩, rfl⟩, fun r hr => by cases hr⟩
  · rename_i t' ls
    split at h
    · rename_i ht ha
      obtain rfl := of_decide_eq_true ht
      obtain ⟨cs, rfl, hl, hr⟩ := hv
      obtain ⟨h1, h2⟩ := ownLs_rep hR hr h
      refine ⟨⟨cs, h1, ?_⟩, h2⟩
      have := isVal_of h1.length
      rwa [valOf, if_pos ha] at this
    · cases h
  · obtain ⟨rfl, cs, h1, h2⟩ := decO_flat hR hv h
    exact ⟨⟨cs, by simpa using h1, h2⟩, fun r hr => by cases hr⟩

def NewG (K : Ctx) (G : Nat → Prop) (b : Nat) : Prop := G b ∧ ¬ Good K.w0 K.O b

theorem decK_spec (hR : RelV n K w0 G w a E L V own) {k : RK} {t : Ty} {A : Atom} {x : t.den} {us : List Nat} {v : Value} (hv : RepA w0 G L V A v) (h : decK L k t A = some (x, us)) :
    ResOne w K.Ga (NewG K G) k ⟨t, x⟩ v (us.map own).flatten ∧ ∀ r ∈ us, ∃ B, hget L r = some B := by
  have hup : ∀ b, G b → K.Ga b ∨ NewG K G b := fun b hb => (hR.gup b hb).imp_right fun h => ⟨hb, h⟩
  cases k with
  | own => exact decO_spec hR hv h
  | frz =>
    simp only [decK] at h
    split at h
    · rename_i y hd
      cases h
      obtain ⟨cs, hr, hvv⟩ := decB_spec (repB_of_decB (stAtom_rep hv) hd) hd
      refine ⟨⟨rfl, cs, hr.keep hup hR.gref, ?_⟩, fun r hr => by cases hr⟩
      rw [hvv]
      exact isVal_of hr.length
    · cases h
  | bx =>
    simp only [decK] at h
    split at h
    · rename_i y us' hd
      cases h
      obtain ⟨⟨b, off, h1, h2⟩, r, B, b', off', e1, _, e3, _⟩ := decPb_rep (q := false) hR (Kept.refl _ _) hv hd (fun h => by cases h)
      refine ⟨⟨b, off, h1, EntC.keepG (A := ⟨t, [x], true, none, none⟩) (fun c hc => hup c hc) (fun _ _ => rfl) (fun _ _ => rfl) h2⟩, fun s hs => ?_⟩
      rw [e1] at hs
      rw [List.mem_singleton.1 hs]
      exact ⟨B, e3⟩
    · cases h

theorem finA_spec {tab : List TI} (hT : TabOk P tab) (hR : RelV n K w0 G w a E L V own) : ∀ {ks : List RK} {ts : List Ty} {rv : List ResultVar} {ds : List Dyn} {us : List Nat}, finA tab E L ks ts rv = some (ds, us) →
    ∃ rs bss, (rv.mapM fun x => (match x with | .tmp t => pure (a.tmps.getD t undef) | .cell b t => do loadVar t (← asAddr (a.tmps.getD b undef)) : Sem Value)).run P w = .ok rs w ∧ rs.length = rv.length ∧ ResK w K.Ga (NewG K G) ks ds rs bss ∧ bss.flatten = (us.map own).flatten ∧ ∀ r ∈ us, ∃ B, hget L r = some B
  | ks, [], [], ds, us, h => by
    have h' : ds = [] ∧ us = [] := by cases ks <;> (cases h; exact ⟨rfl, rfl⟩)
    obtain ⟨rfl, rfl⟩ := h'
    exact ⟨[], [], by simp, rfl, by cases ks <;> exact ⟨rfl, rfl⟩, rfl, fun r hr => by cases hr⟩
  | ks, t :: ts, .tmp i :: rv, ds, us, h => by
    simp only [finA] at h
    split at h
    · rename_i A hA
      split at h
      · rename_i x u ds' vs hd hf
        cases h
        have hv : RepA w0 G L V A (a.tmps.getD i undef) := by
          have := hR.env i
          rw [hA] at this
          exact this
        obtain ⟨h1, h3⟩ := decK_spec hR hv hd
        obtain ⟨rs, bss, g1, g2, g3, g4, g5⟩ := finA_spec hT hR hf
        refine ⟨a.tmps.getD i undef :: rs, (u.map own).flatten :: bss, ?_, by simp [g2], by cases ks <;> exact ⟨_, _, _, _, rfl, rfl, h1, g3⟩, ?_, ?_⟩
        · rw [List.mapM_cons]
          simp only [Sem.run_bind, Sem.run_pure, Result.andThen_ok]
          rw [g1]
          rfl
        · simp [g4]
        · intro r hr
          rcases List.mem_append.1 hr with hr | hr
          · exact h3 r hr
          · exact g5 r hr
      · cases h
    · cases h
  | ks, t :: ts, .cell i T :: rv, ds, us, h => by
    simp only [finA] at h
    split at h
    · rename_i A hA
      split at h
      · rename_i B hB
        split at h
        · rename_i x u ds' vs hd hf
          cases h
          have hv : RepA w0 G L V A (a.tmps.getD i undef) := by
            have := hR.env i
            rw [hA] at this
            exact this
          unfold cellA at hB
          split at hB
          · rename_i t0 ht0
            obtain ⟨v, hv', hrun⟩ := loadA_spec (P := P) hR (TI.ty_ok (hT T) ht0) hv hB
            obtain ⟨h1, h3⟩ := decK_spec hR hv' hd
            obtain ⟨rs, bss, g1, g2, g3, g4, g5⟩ := finA_spec hT hR hf
            refine ⟨v :: rs, (u.map own).flatten :: bss, ?_, by simp [g2], by cases ks <;> exact ⟨_, _, _, _, rfl, rfl, h1, g3⟩, ?_, ?_⟩
            · have hc := cell_run (hrun w (Kept.refl _ _))
              rw [List.mapM_cons, Sem.run_bind]
              refine (congrArg (fun r => Result.andThen r _) hc).trans ?_
              simp only [Result.andThen_ok, Sem.run_bind]
              rw [g1]
              rfl
            · simp [g4]
            · intro r hr
              rcases List.mem_append.1 hr with hr | hr
              · exact h3 r hr
              · exact g5 r hr
          · cases hB
        · cases h
      · cases h
    · cases h
  | ks, [], _ :: _, _, _, h => by cases ks <;> cases h
  | ks, _ :: _, [], _, _, h => by cases ks <;> cases h

def runF (tab : List TI) (ext : Ext) (wr : Bool) (n : Nat) (stops : List Nat) (m : Nat) (pins : List Nat) (oks : List AT) (kds : List RK) (ts : List Ty) (rv : Array ResultVar) (path : List Bool) (k : List Item) (E : Env) (L : Heap) : Option (List Dyn × List (Option Lst) × List Prop) :=
  match runA tab ext wr n stops m true k ⟨path, [], E, L, [], pins⟩ with
  | some (.fin S) => match frzAll (frzF tab S.E S.L kds rv.toList) (S.E, S.L) with
    | (E1, L1) => match finA tab E1 L1 kds ts rv.toList with
      | some (ds, us) => match nodupB ((updO E1 L1 us pins oks).2 ++ us) && decide (S.pins = pins) && Nat.ble pins.length oks.length with
        | true => some (ds, (updO E1 L1 us pins oks).1, S.cs)
        | false => none
      | none => none
  | _ => none

def WeakU : List (Option Lst) → List (Option Lst) → Prop
  | [], [] => True
  | u :: r, u' :: r' => (u' = u ∨ u' = none) ∧ WeakU r r'
  | _, _ => False

theorem PostR.weak {kds : List RK} {oks : List AT} {ds : List Dyn} {us us' : List (Option Lst)} {pins : List Nat} {q : Nat → Value} {K : Ctx} {e : Ending} {w' : World} (h : PostR kds oks ds us pins q K e w') (hw : WeakU us us') : PostR kds oks ds us' pins q K e w' := by
  obtain ⟨rs, ubs, rbs, F, h1, h2, h3, h4, h5, h6, h7⟩ := h
  have key : ∀ (us us' : List (Option Lst)) (os : List AT) (vs : List Value) (ubs : List (List Nat)), WeakU us us' → UpdK w' K.G0 os us vs ubs → ∃ nbs : List (List Nat), UpdK w' K.G0 os us' vs nbs ∧ nbs.flatten.Sublist ubs.flatten := by
    intro us
    induction us with
    | nil =>
      intro us' os vs ubs hw h
      cases us' with
      | nil => exact ⟨ubs, h, List.Sublist.refl _⟩
      | cons _ _ => cases hw
    | cons u r ih =>
      intro us' os vs ubs hw h
      cases us' with
      | nil => cases hw
      | cons u' r' =>
        obtain ⟨hu, hw⟩ := hw
        cases os with
        | nil => cases u <;> exact h.elim
        | cons o os =>
          cases u with
          | none =>
            obtain ⟨v, s, bs, rfl, rfl, h⟩ := h
            obtain ⟨nbs, g1, g2⟩ := ih _ _ _ _ hw h
            have : u' = none := by rcases hu with h | h <;> exact h
            subst this
            exact ⟨[] :: nbs, ⟨_, _, _, rfl, rfl, g1⟩, by simpa using g2⟩
          | some A =>
            obtain ⟨v, s, b, bs, rfl, rfl, h0, h⟩ := h
            obtain ⟨nbs, g1, g2⟩ := ih _ _ _ _ hw h
            rcases hu with rfl | rfl
            · exact ⟨b :: nbs, ⟨_, _, _, _, rfl, rfl, h0, g1⟩, by simpa using g2⟩
            · exact ⟨[] :: nbs, ⟨_, _, _, rfl, rfl, g1⟩, by simpa using g2.trans (List.sublist_append_right _ _)⟩
  obtain ⟨nbs, g1, g2⟩ := key _ _ _ _ _ hw h4
  have g3 : (nbs.flatten ++ rbs.flatten).Sublist (ubs.flatten ++ rbs.flatten) := g2.append_right _
  refine ⟨rs, nbs, rbs, F, h1, h2, h3, g1, h5.sublist g3, fun b hb => h6 b (g3.subset hb), fun b hb => ?_⟩
  obtain ⟨k1, k2, k3⟩ := h7 b hb
  exact ⟨k1, k2, fun hm => k3 (g3.subset hm)⟩

theorem AtV.mono {R' : Ending → World → Prop} {q : Nat → Value} {ps : List Nat} {k : List Item} (h : AtV P f R n K q ps k E L) (hm : ∀ e w, R e w → R' e w) : AtV P f R' n K q ps k E L := by
  intro a w w0 G V own hR hq b cs hb hk
  obtain ⟨e, w', fr, h1, h2⟩ := h a w w0 G V own hR hq b cs hb hk
  exact ⟨e, w', fr, hm _ _ h1, h2⟩

theorem AtV.weak {kds : List RK} {oks : List AT} {ds : List Dyn} {us us' : List (Option Lst)} {q : Nat → Value} {pins ps : List Nat} {k : List Item} (h : AtV P f (PostR kds oks ds us pins q K) n K q ps k E L) (hw : WeakU us us') : AtV P f (PostR kds oks ds us' pins q K) n K q ps k E L :=
  h.mono fun _ _ h => h.weak hw

theorem AtV.fin {fn : Func} (hf : P.funcs[f]? = some fn) {tab : List TI} {ext : Ext} (hT : TabOk P tab) (hX : ExtOk P ext) (hm : P.follows .mixedOrders = true) {q : Nat → Value} {pins : List Nat} {oks : List AT} {kds : List RK} {wr : Bool} {stops : List Nat} {m : Nat} {ts : List Ty} {path : List Bool} {k : List Item} {ds : List Dyn} {us : List (Option Lst)} {cs : List Prop}
    (h : runF tab ext wr n stops m pins oks kds ts fn.results path k E L = some (ds, us, cs)) (hc : All cs) : AtV P f (PostR kds oks ds us pins q K) n K q pins k E L := by
  intro a w w0 G V own hR hq
  unfold runF at h
  split at h
  · rename_i S hr
    split at h
    rename_i E1 L1 hfrz
    split at h
    · rename_i ds' us' hfin
      split at h
      · rename_i hnd
        simp only [Bool.and_eq_true, decide_eq_true_eq, Nat.ble_eq] at hnd
        obtain ⟨⟨hnd, hp⟩, hpl⟩ := hnd
        cases h
        refine runA_run hT hX hm hr hc hR ⟨fun t d ht => by simp [lookB] at ht, hq⟩ ?_
        intro a' w' w1 G1 V' own' hR1 hq'
        rw [hp] at hq'
        obtain ⟨w2, G2, hR'⟩ := frzAll_spec (rs := frzF tab S.E S.L kds fn.results.toList) hR1
        rw [hfrz] at hR'
        obtain ⟨rs, bss, g1, g2, g3, g4, g5⟩ := finA_spec (P := P) hT hR' hfin
        obtain ⟨ubs, k1, k2, k3⟩ := updO_spec (gone := us') hR' hpl hq'
        have hall : ubs.flatten ++ bss.flatten = (((updO E1 L1 us' pins oks).2 ++ us').map own').flatten := by rw [k2, g4, List.map_append, List.flatten_append]
        have hlive : ∀ r ∈ (updO E1 L1 us' pins oks).2 ++ us', ∃ B, hget L1 r = some B := fun r hr => by
          rcases List.mem_append.1 hr with hr | hr
          · exact k3 r hr
          · exact g5 r hr
        have hout : ∀ b ∈ ubs.flatten ++ bss.flatten, Am.Out K G2 b := by
          intro b hb
          rw [hall] at hb
          obtain ⟨l, hl, hb⟩ := List.mem_flatten.1 hb
          obtain ⟨r, hr, rfl⟩ := List.mem_map.1 hl
          obtain ⟨B, hB⟩ := hlive r hr
          exact hR'.good r B hB b hb
        refine ⟨hR'.defers, fn, packV rs, hf, ?_, rs, ubs, bss, NewG K G2, rfl, hR'.kept, g3, k1, ?_, fun b hb => (hout b hb).1, fun b hb => ⟨hR'.glt b hb.1, hb.2, fun hm => (hout b hm).2 hb.1⟩⟩
        · unfold results
          have hm' : (fn.results.mapM fun x => (match x with | .tmp t => pure (a'.tmps.getD t undef) | .cell b t => do loadVar t (← asAddr (a'.tmps.getD b undef)) : Sem Value)).run P w' = .ok rs.toArray w' := by
            rw [show fn.results = fn.results.toList.toArray from rfl, List.mapM_toArray]
            simp only [map_eq_pure_bind, Sem.run_bind, g1, Result.andThen_ok, Sem.run_pure]
          simp only [Sem.run_bind]
          refine (congrArg (fun r => Result.andThen r _) hm').trans ?_
          simp only [Result.andThen_ok, Sem.run_pure]
          congr 1
          match rs with
          | [] => rfl
          | [v] => rfl
          | _ :: _ :: _ => simp [packV]
        · rw [hall]; exact own_nodup hR' (nodupB_spec hnd) hlive
      · cases h
    · cases h
  · cases h
end
end Go.Am

/- The abstract machine, part 22: a law's arguments, and its statement. -/
namespace Go.Am
open Go.ChangeShapes Go.WideShapes Go.ChangeAt Go.RowKit
set_option linter.unusedVariables false
set_option linter.unusedSimpArgs false

def wrapB (P : Program) (agg : Bool) (T : TypeId) (k : TypeId ⊕ (List Field × Nat) → Bool) : Bool :=
  match agg with
  | true => match P.underlying T with
    | some (.struct fs) => k (.inr (fs.toList, 0))
    | _ => false
  | false => k (.inl T)


def readsB (P : Program) : Ty → TypeId ⊕ (List Field × Nat) → Bool
  | .int k, .inl T => isIntB k (P.underlying T)
  | .bool, .inl T => isBoolB (P.underlying T)
  | .str, .inl T => isStrB (P.underlying T)
  | .unit, .inr ([], _) => true
  | .cons a b, .inr (f :: fs, o) => Nat.beq f.offset o && (Nat.beq (P.cellsOf f.type) a.size && (wrapB P a.agg f.type (readsB P a) && readsB P b (.inr (fs, o + a.size))))
  | _, _ => false

def readsT (P : Program) (t : Ty) (T : TypeId) : Bool := Nat.beq (P.cellsOf T) t.size && wrapB P t.agg T (readsB P t)

section
variable {H : Type} {enc : TypeId × Value → H} {P : Program} {w : World} {base : Nat} {spare : Nat → Bool} {held : Bool} {G : Nat → Prop}


def TrodOne (enc : TypeId × Value → H) (P : Program) (w : World) (base : Nat) (spare : Nat → Bool) (held : Bool) (cs : List Value) (f : Field) : Prop :=
  ∃ n x, DataW.trod enc P w base spare held n f.type ((cs.drop f.offset).take (P.cellsOf f.type)) = some x

theorem trod_fields {T : TypeId} {fs : Array Field} {fuel : Nat} {cs : List Value} {x : DataW H × List MemPlace} (ht : P.underlying T = some (.struct fs)) (h : DataW.trod enc P w base spare held fuel T cs = some x) :
    cs.length = P.cellsOf T ∧ ∀ f ∈ fs.toList, TrodOne enc P w base spare held cs f := by
  obtain ⟨xs, n, _, _, hl, hx, hf⟩ := DataW.trod_struct ht h
  refine ⟨hl, fun f hf' => ?_⟩
  obtain ⟨i, hi⟩ := List.getElem?_of_mem hf'
  rw [Array.getElem?_toList] at hi
  have hlt : i < fs.size := (Array.getElem?_eq_some_iff.1 hi).1
  have := hf i f hi
  exact ⟨n, xs[i]'(by omega), by rw [this]; exact List.getElem?_eq_getElem _⟩

theorem trod_rep : ∀ (t : Ty),
    (∀ T fuel cs x, wrapB P t.agg T (readsB P t) = true → P.cellsOf T = t.size → DataW.trod enc P w base spare held fuel T cs = some x → ∃ y, RepC w G t y cs) ∧
    (∀ fs o cs, readsB P t (.inr (fs, o)) = true → (∀ f ∈ fs, TrodOne enc P w base spare held cs f) → cs.length = o + t.size → ∃ y, RepC w G t y (cs.drop o))
  | .int k => by
    refine ⟨fun T fuel cs x h _ ht => ?_, fun fs o cs h => by simp [readsB] at h⟩
    have hu := isIntB_eq (by simpa [wrapB, Ty.agg, readsB] using h)
    obtain ⟨n, rfl, _, hw⟩ := DataW.trod_int hu ht
    exact ⟨n, rfl, by simpa [Lit.wf, InR] using hw⟩
  | .bool => by
    refine ⟨fun T fuel cs x h _ ht => ?_, fun fs o cs h => by simp [readsB] at h⟩
    have hu := isBoolB_eq (by simpa [wrapB, Ty.agg, readsB] using h)
    obtain ⟨b, rfl, _⟩ := DataW.trod_bool hu ht
    exact ⟨b, rfl⟩
  | .fn => ⟨fun T fuel cs x h => by simp [wrapB, Ty.agg, readsB] at h, fun fs o cs h => by simp [readsB] at h⟩
  | .str => by
    refine ⟨fun T fuel cs x h _ ht => ?_, fun fs o cs h => by simp [readsB] at h⟩
    have hu := isStrB_eq (by simpa [wrapB, Ty.agg, readsB] using h)
    obtain ⟨s, rfl, _, hs⟩ := DataW.trod_string hu ht
    exact ⟨s, rfl, hs⟩
  | .sl e => by
    exact ⟨fun T fuel cs x h => by simp [wrapB, Ty.agg, readsB] at h, fun fs o cs h => by simp [readsB] at h⟩
  | .unit => by
    have hB : ∀ fs o cs, readsB P .unit (.inr (fs, o)) = true → (∀ f ∈ fs, TrodOne enc P w base spare held cs f) → cs.length = o + Ty.unit.size → ∃ y, RepC w G .unit y (cs.drop o) := by
      intro fs o cs h _ hl
      refine ⟨(), ?_⟩
      show cs.drop o = []
      rw [List.drop_eq_nil_iff]
      simp [Ty.size] at hl
      omega
    refine ⟨fun T fuel cs x h hc ht => ?_, hB⟩
    simp only [wrapB, Ty.agg] at h
    split at h
    · rename_i fs hu
      obtain ⟨h1, h2⟩ := trod_fields hu ht
      simpa using hB _ _ cs h h2 (by rw [h1, hc]; simp)
    · cases h
  | .cons a b => by
    obtain ⟨ha, _⟩ := trod_rep a
    obtain ⟨_, hb⟩ := trod_rep b
    have hB : ∀ fs o cs, readsB P (.cons a b) (.inr (fs, o)) = true → (∀ f ∈ fs, TrodOne enc P w base spare held cs f) → cs.length = o + (Ty.cons a b).size → ∃ y, RepC w G (.cons a b) y (cs.drop o) := by
      intro fs o cs h hf hl
      match fs, h with
      | [], h => simp [readsB] at h
      | f :: fs, h =>
        simp only [readsB, Bool.and_eq_true] at h
        obtain ⟨h1, h2, h3, h4⟩ := h
        have h1 := Nat.eq_of_beq_eq_true h1
        have h2 := Nat.eq_of_beq_eq_true h2
        simp only [Ty.size] at hl
        obtain ⟨n, x, hx⟩ := hf f (List.mem_cons_self ..)
        rw [h1, h2] at hx
        obtain ⟨y1, hy1⟩ := ha _ _ _ _ h3 h2 hx
        obtain ⟨y2, hy2⟩ := hb fs (o + a.size) cs h4 (fun g hg => hf g (List.mem_cons_of_mem _ hg)) (by omega)
        refine ⟨(y1, y2), _, _, ?_, hy1, hy2⟩
        rw [← List.drop_drop]
        exact (List.take_append_drop _ _).symm
    refine ⟨fun T fuel cs x h hc ht => ?_, hB⟩
    simp only [wrapB, Ty.agg] at h
    split at h
    · rename_i fs hu
      obtain ⟨h1, h2⟩ := trod_fields hu ht
      simpa using hB _ _ cs h h2 (by rw [h1, hc]; simp)
    · cases h

theorem cells_list {a : Addr} {n : Nat} {cs : List Value} (h : w.cells? base a n = some cs) : cs.length = n ∧ ∀ j c, cs[j]? = some c → w.cell? (a.add j) = some c := by
  unfold World.cells? at h
  split at h
  · have key : ∀ (l : List Nat) (cs : List Value), (l.mapM fun i => w.cell? (a.add i)) = some cs → cs.length = l.length ∧ ∀ (j : Nat) (c : Value) (i : Nat), cs[j]? = some c → l[j]? = some i → w.cell? (a.add i) = some c := by
      intro l
      induction l with
      | nil => intro cs h; simp at h; subst h; simp
      | cons i l ih =>
        intro cs h
        rw [List.mapM_cons] at h
        cases hc : w.cell? (a.add i) with
        | none => simp [hc] at h
        | some c =>
          cases hr : l.mapM fun i => w.cell? (a.add i) with
          | none => simp [hc, hr] at h
          | some r =>
            simp [hc, hr] at h
            subst h
            obtain ⟨h1, h2⟩ := ih r hr
            refine ⟨by simp [h1], fun j c' i' hj hi => ?_⟩
            cases j with
            | zero => simp at hj hi; subst hj hi; exact hc
            | succ j => exact h2 j c' i' (by simpa using hj) (by simpa using hi)
    obtain ⟨h1, h2⟩ := key _ _ h
    refine ⟨by simpa using h1, fun j c hj => h2 j c j hj ?_⟩
    have hlt := (List.getElem?_eq_some_iff.1 hj).1
    have h1' : cs.length = n := by simpa using h1
    rw [List.getElem?_range (by omega)]
  · cases h

def FitV (w : World) (v : Value) : Prop := ∀ a len cap, v = .slice (some a) len cap → a.spot = none ∧ a.block < w.heap.size

theorem has_fit {r : Reach} {b0 : Nat} {a : Addr} {e : TypeId} {n : Nat} (h : w.has P r b0 a e n) : a.spot = none ∧ a.block < w.heap.size := by
  obtain ⟨_, hs, row, cells, hsh, _⟩ := h
  refine ⟨hs, ?_⟩
  rcases Nat.lt_or_ge a.block w.heap.size with hlt | hge
  · exact hlt
  · simp [World.shape?, Array.getElem?_eq_none hge] at hsh

theorem cell_fit {r : Reach} {b0 : Nat} {u : TypeId} {v : Value} (h : Cell.okWide P w r b0 u v) : FitV w v := by
  rintro a len cap rfl
  unfold Cell.okWide at h
  split at h
  all_goals first
    | (rename_i hv; cases hv; done)
    | skip
  unfold Cell.ok at h
  split at h
  all_goals first
    | (rename_i hv; cases hv; done)
    | (cases h; done)
    | skip
  rename_i hv
  cases hv
  exact has_fit h.2.2

theorem row_fit {r : Reach} {b0 : Nat} {T : TypeId} {cs : Array Value} (h : Row.okWide P w r b0 T cs) : ∀ v ∈ cs.toList, FitV w v := by
  obtain ⟨ts, _, _, h⟩ := h
  intro v hv
  obtain ⟨i, hi⟩ := List.getElem?_of_mem hv
  rw [Array.getElem?_toList] at hi
  obtain ⟨u, _, hu⟩ := h i v hi
  exact cell_fit hu

theorem trod_slice_rep {e : Ty} {E T : TypeId} {fuel : Nat} {cs : List Value} {x : DataW H × List MemPlace} (hu : P.underlying T = some (.slice E)) (hr : readsT P e E = true) (hz : e.size ≠ 0) (hf : ∀ v ∈ cs, FitV w v)
    (h : DataW.trod enc P w base spare held fuel T cs = some x) : ∃ (v : Value) (ys : List e.den), cs = [v] ∧ SlAt w (Good w []) (RepC w (Good w []) e) e.size ys v := by
  simp only [readsT, Bool.and_eq_true] at hr
  obtain ⟨hc, hr⟩ := hr
  have hc := Nat.eq_of_beq_eq_true hc
  rcases DataW.trod_slice hu h with ⟨h1, _⟩ | ⟨a, len, cap, elems, rest, n, _, h1, _, _, hl, hm, hlen, hel, _⟩
  · exact ⟨_, [], h1, by simp [maxLen], .inl ⟨_, rfl, rfl⟩⟩
  · subst h1
    obtain ⟨hs, hb⟩ := hf _ (List.mem_singleton.2 rfl) _ _ _ rfl
    obtain ⟨b, off, spot⟩ := a
    simp only at hs hb
    subst hs
    have each : ∀ i, i < len → ∃ y cs, cs.length = e.size ∧ (∀ j c, cs[j]? = some c → w.cell? ⟨b, off + i * e.size + j, none⟩ = some c) ∧ RepC w (Good w []) e y cs := by
      intro i hi
      have hx := hel i hi
      rw [List.getElem?_eq_getElem (by omega)] at hx
      simp only [Option.bind_eq_some_iff] at hx
      obtain ⟨cs, g1, g2⟩ := hx
      obtain ⟨k1, k2⟩ := cells_list g1
      obtain ⟨y, hy⟩ := (trod_rep (G := Good w []) e).1 E _ _ _ hr hc g2
      refine ⟨y, cs, by rw [k1, hc], fun j c hj => ?_, hy⟩
      have := k2 j c hj
      rw [hc] at this
      rw [Addr.add_lit, Addr.add_lit] at this
      exact this
    have build : ∀ k, k ≤ len → ∃ ys : List e.den, ys.length = k ∧ ∀ i y, ys[i]? = some y → ∃ cs, cs.length = e.size ∧ (∀ j c, cs[j]? = some c → w.cell? ⟨b, off + i * e.size + j, none⟩ = some c) ∧ RepC w (Good w []) e y cs := by
      intro k
      induction k with
      | zero => intro _; exact ⟨[], rfl, fun i y h => by simp at h⟩
      | succ k ih =>
        intro hk
        obtain ⟨ys, h1, h2⟩ := ih (by omega)
        obtain ⟨y, cs, g1, g2, g3⟩ := each k (by omega)
        refine ⟨ys ++ [y], by simp [h1], fun i z hz => ?_⟩
        by_cases hi : i < ys.length
        · rw [List.getElem?_append_left hi] at hz
          exact h2 i z hz
        · have hlt := (List.getElem?_eq_some_iff.1 hz).1
          simp at hlt
          have : i = k := by omega
          subst this
          rw [List.getElem?_append_right (by omega)] at hz
          simp [h1] at hz
          subst hz
          exact ⟨cs, g1, g2, g3⟩
    obtain ⟨ys, h1, h2⟩ := build len (Nat.le_refl _)
    exact ⟨_, ys, rfl, by omega, .inr ⟨b, off, cap, by rw [h1], by omega, by omega, ⟨hb, by simp⟩, h2⟩⟩

def readsW (P : Program) : Ty → TypeId ⊕ (List Field × Nat) → Bool
  | .sl e, .inl T => match P.underlying T with
    | some (.slice E) => readsT P e E && !Nat.beq e.size 0
    | _ => false
  | .unit, .inr ([], _) => true
  | .cons a b, .inr (f :: fs, o) => Nat.beq f.offset o && (Nat.beq (P.cellsOf f.type) a.size && (wrapB P a.agg f.type (readsW P a) && readsW P b (.inr (fs, o + a.size))))
  | .int k, x => readsB P (.int k) x
  | .bool, x => readsB P .bool x
  | .str, x => readsB P .str x
  | _, _ => false

theorem trod_repW : ∀ (t : Ty),
    (∀ T fuel cs x, wrapB P t.agg T (readsW P t) = true → P.cellsOf T = t.size → (∀ v ∈ cs, FitV w v) → DataW.trod enc P w base spare held fuel T cs = some x → ∃ y, RepC w (Good w []) t y cs) ∧
    (∀ fs o cs, readsW P t (.inr (fs, o)) = true → (∀ f ∈ fs, TrodOne enc P w base spare held cs f) → (∀ v ∈ cs, FitV w v) → cs.length = o + t.size → ∃ y, RepC w (Good w []) t y (cs.drop o))
  | .int k => by
    refine ⟨fun T fuel cs x h hc _ ht => (trod_rep (.int k)).1 T fuel cs x ?_ hc ht, fun fs o cs h => by simp [readsW, readsB] at h⟩
    simpa [wrapB, Ty.agg, readsW] using h
  | .bool => by
    refine ⟨fun T fuel cs x h hc _ ht => (trod_rep .bool).1 T fuel cs x ?_ hc ht, fun fs o cs h => by simp [readsW, readsB] at h⟩
    simpa [wrapB, Ty.agg, readsW] using h
  | .fn => ⟨fun T fuel cs x h => by simp [wrapB, Ty.agg, readsW] at h, fun fs o cs h => by simp [readsW] at h⟩
  | .str => by
    refine ⟨fun T fuel cs x h hc _ ht => (trod_rep .str).1 T fuel cs x ?_ hc ht, fun fs o cs h => by simp [readsW, readsB] at h⟩
    simpa [wrapB, Ty.agg, readsW] using h
  | .sl e => by
    refine ⟨fun T fuel cs x h hc hf ht => ?_, fun fs o cs h => by simp [readsW] at h⟩
    simp only [wrapB, Ty.agg, readsW] at h
    split at h
    · rename_i E hu
      simp only [Bool.and_eq_true, Bool.not_eq_true'] at h
      obtain ⟨v, ys, h1, h2⟩ := trod_slice_rep hu h.1 (fun hz => by have := h.2; rw [hz] at this; simp at this) hf ht
      exact ⟨ys, v, h1, h2⟩
    · cases h
  | .unit => by
    have hB : ∀ fs o cs, readsW P .unit (.inr (fs, o)) = true → (∀ f ∈ fs, TrodOne enc P w base spare held cs f) → cs.length = o + Ty.unit.size → ∃ y, RepC w (Good w []) .unit y (cs.drop o) := by
      intro fs o cs h _ hl
      refine ⟨(), ?_⟩
      show cs.drop o = []
      rw [List.drop_eq_nil_iff]
      simp [Ty.size] at hl
      omega
    refine ⟨fun T fuel cs x h hc _ ht => ?_, fun fs o cs h1 h2 _ h3 => hB fs o cs h1 h2 h3⟩
    simp only [wrapB, Ty.agg] at h
    split at h
    · rename_i fs hu
      obtain ⟨h1, h2⟩ := trod_fields hu ht
      simpa using hB _ _ cs h h2 (by rw [h1, hc]; simp)
    · cases h
  | .cons a b => by
    obtain ⟨ha, _⟩ := trod_repW a
    obtain ⟨_, hb⟩ := trod_repW b
    have hB : ∀ fs o cs, readsW P (.cons a b) (.inr (fs, o)) = true → (∀ f ∈ fs, TrodOne enc P w base spare held cs f) → (∀ v ∈ cs, FitV w v) → cs.length = o + (Ty.cons a b).size → ∃ y, RepC w (Good w []) (.cons a b) y (cs.drop o) := by
      intro fs o cs h hf hfit hl
      match fs, h with
      | [], h => simp [readsW] at h
      | f :: fs, h =>
        simp only [readsW, Bool.and_eq_true] at h
        obtain ⟨h1, h2, h3, h4⟩ := h
        have h1 := Nat.eq_of_beq_eq_true h1
        have h2 := Nat.eq_of_beq_eq_true h2
        simp only [Ty.size] at hl
        obtain ⟨n, x, hx⟩ := hf f (List.mem_cons_self ..)
        rw [h1, h2] at hx
        obtain ⟨y1, hy1⟩ := ha _ _ _ _ h3 h2 (fun v hv => hfit v (List.mem_of_mem_drop (List.mem_of_mem_take hv))) hx
        obtain ⟨y2, hy2⟩ := hb fs (o + a.size) cs h4 (fun g hg => hf g (List.mem_cons_of_mem _ hg)) hfit (by omega)
        refine ⟨(y1, y2), _, _, ?_, hy1, hy2⟩
        rw [← List.drop_drop]
        exact (List.take_append_drop _ _).symm
    refine ⟨fun T fuel cs x h hc hfit ht => ?_, hB⟩
    simp only [wrapB, Ty.agg] at h
    split at h
    · rename_i fs hu
      obtain ⟨h1, h2⟩ := trod_fields hu ht
      simpa using hB _ _ cs h h2 hfit (by rw [h1, hc]; simp)
    · cases h

def argB (P : Program) : Ty → TypeId → Bool
  | .sl e, T => match P.underlying T with
    | some (.slice E) => readsT P e E && !Nat.beq e.size 0
    | _ => false
  | t, T => readsT P t T || (t.agg && (Nat.beq (P.cellsOf T) t.size && wrapB P true T (readsW P t)))

theorem okWide_agg {r : Reach} {b0 : Nat} {T : TypeId} {v : Value} {fs : Array Field} (hu : P.underlying T = some (.struct fs)) (h : Value.okWide P w r b0 T v) : ∃ cs, v = .agg cs := by
  simp only [Value.okWide, hu] at h
  obtain ⟨cs, hv, _⟩ := h
  exact ⟨cs, hv⟩

theorem trod_flat_arg {r : Reach} {b0 : Nat} {t : Ty} {T : TypeId} {v : Value} {d : DataW H} {ps : List MemPlace} (hB : readsT P t T = true) (hv : Value.okWide P w r b0 T v) (h : DataW.Trod enc P w base spare held T v d ps) :
    ∃ x : t.den, RepB w G (toAtom t x) v := by
  simp only [readsT, Bool.and_eq_true] at hB
  obtain ⟨hc, hB⟩ := hB
  have hc := Nat.eq_of_beq_eq_true hc
  obtain ⟨fuel, hf⟩ := h
  obtain ⟨y, hy⟩ := (trod_rep (G := G) t).1 T fuel _ _ hB hc hf
  refine ⟨y, ?_⟩
  cases t with
  | int k =>
    have hu := isIntB_eq (by simpa [wrapB, Ty.agg, readsB] using hB)
    obtain ⟨n, rfl⟩ := okWide_int hu hv
    obtain ⟨h1, h2⟩ := hy
    simp [Value.cells] at h1
    subst h1
    exact ⟨rfl, h2⟩
  | bool =>
    have hu := isBoolB_eq (by simpa [wrapB, Ty.agg, readsB] using hB)
    obtain ⟨b, rfl⟩ := okWide_bool hu hv
    have h1 : ([.bool b] : List Value) = [.bool y] := hy
    cases h1
    exact ⟨rfl, trivial⟩
  | fn => simp [wrapB, Ty.agg, readsB] at hB
  | str =>
    have hu := isStrB_eq (by simpa [wrapB, Ty.agg, readsB] using hB)
    obtain ⟨s, rfl⟩ := okWide_string hu hv
    obtain ⟨h1, h2⟩ := hy
    simp [Value.cells] at h1
    subst h1
    exact ⟨rfl, h2⟩
  | sl e => simp [wrapB, Ty.agg, readsB] at hB
  | unit =>
    simp only [wrapB, Ty.agg] at hB
    split at hB
    · rename_i fs hu
      obtain ⟨cs, rfl⟩ := okWide_agg hu hv
      exact ⟨cs.toList, by simp, hy⟩
    · cases hB
  | cons a b =>
    simp only [wrapB, Ty.agg] at hB
    split at hB
    · rename_i fs hu
      obtain ⟨cs, rfl⟩ := okWide_agg hu hv
      exact ⟨cs.toList, by simp, hy⟩
    · cases hB

theorem has_spot {r : Reach} {b0 : Nat} {T E : TypeId} {a : Addr} {len cap : Nat} (hu : P.underlying T = some (.slice E)) (hv : Value.okWide P w r b0 T (.slice (some a) len cap)) : a.spot = none ∧ a.block < w.heap.size := by
  simp only [Value.okWide, hu, Cell.okWide, Cell.ok] at hv
  obtain ⟨_, _, hh⟩ := hv
  obtain ⟨_, hs, row, cells, hsh, _⟩ := hh
  refine ⟨hs, ?_⟩
  rcases Nat.lt_or_ge a.block w.heap.size with hlt | hge
  · exact hlt
  · simp [World.shape?, Array.getElem?_eq_none hge] at hsh

theorem trod_arg {r : Reach} {b0 : Nat} {t : Ty} {T : TypeId} {v : Value} {d : DataW H} {ps : List MemPlace} (hB : argB P t T = true) (hv : Value.okWide P w r b0 T v) (h : DataW.Trod enc P w base spare held T v d ps) :
    ∃ x : t.den, RepB w (Good w []) (toAtom t x) v := by
  unfold argB at hB
  split at hB
  · rename_i e
    split at hB
    · rename_i E hu
      simp only [Bool.and_eq_true, Bool.not_eq_true'] at hB
      obtain ⟨a0, len, cap, rfl⟩ := okWide_slice hu hv
      obtain ⟨fuel, hf⟩ := h
      have hfit : ∀ u ∈ (Value.slice a0 len cap).cells.toList, FitV w u := fun u hu' => by
        simp [Value.cells] at hu'
        subst hu'
        rintro a l c he
        cases he
        exact has_spot hu hv
      obtain ⟨u, ys, h1, h2⟩ := trod_slice_rep hu hB.1 (fun hz => by have := hB.2; rw [hz] at this; simp at this) hfit hf
      simp [Value.cells] at h1
      subst h1
      exact ⟨ys, h2⟩
    · cases hB
  · rename_i hns
    rw [Bool.or_eq_true] at hB
    rcases hB with hB | hB
    · exact trod_flat_arg hB hv h
    · simp only [Bool.and_eq_true] at hB
      obtain ⟨ha, hc, hB⟩ := hB
      have hc := Nat.eq_of_beq_eq_true hc
      obtain ⟨fuel, hf⟩ := h
      have hB' := hB
      unfold wrapB at hB
      simp only at hB
      split at hB
      · rename_i fs hu
        simp only [Value.okWide, hu] at hv
        obtain ⟨cs, rfl, _, hrow⟩ := hv
        obtain ⟨y, hy⟩ := (trod_repW t).1 T fuel _ _ (by rw [ha]; exact hB') hc (row_fit hrow) (by simpa [Value.cells] using hf)
        refine ⟨y, ?_⟩
        cases t with
        | cons a b => exact ⟨cs.toList, by simp, hy⟩
        | unit => exact ⟨cs.toList, by simp, hy⟩
        | _ => cases ha
      · cases hB

theorem trod_args {r : Reach} {b0 : Nat} : ∀ {ts : List Ty} {Ts : List TypeId} {vs : List Value} {ds : List (DataW H)} {ps : List MemPlace}, ts.length = Ts.length → (∀ (i : Nat) (t : Ty) (T : TypeId), ts[i]? = some t → Ts[i]? = some T → argB P t T = true) →
    (∀ (j : Nat) T v, Ts[j]? = some T → vs[j]? = some v → Value.okWide P w r b0 T v) → DataW.TrodAll enc P w base spare held Ts vs ds ps →
    ∃ (x : sigDen (ts.map AT.v)) (bss : List (List Nat)), bss.flatten = [] ∧ ArgsRep w (Good w []) (ts.map AT.v) x vs bss
  | [], [], [], [], _, _, _, _, _ => ⟨(), [], rfl, rfl, rfl⟩
  | t :: ts, T :: Ts, v :: vs, d :: ds, ps, hl, hB, hv, h => by
    obtain ⟨p, q, h1, h2, _⟩ := h
    obtain ⟨x, hx⟩ := trod_arg (hB 0 t T rfl rfl) (hv 0 T v rfl rfl) h1
    obtain ⟨y, bss, hb, hy⟩ := trod_args (by simpa using hl) (fun i t T h1 h2 => hB (i + 1) t T (by simpa using h1) (by simpa using h2)) (fun j T v h1 h2 => hv (j + 1) T v (by simpa using h1) (by simpa using h2)) h2
    exact ⟨(x, y), [] :: bss, by simpa using hb, v, vs, [], bss, rfl, rfl, ⟨rfl, hx⟩, hy⟩
  | [], _ :: _, _, _, _, hl, _, _, _ => by simp at hl
  | _ :: _, [], _, _, _, hl, _, _, _ => by simp at hl
end
end Go.Am

/- The abstract machine, part 23: from a law's contract to its statement. -/
namespace Go.Am
open Go.ChangeShapes Go.WideShapes Go.ChangeAt Go.RowKit
set_option linter.unusedVariables false
set_option linter.unusedSimpArgs false

section
variable {H : Type} {enc : TypeId × Value → H} {P : Program} {W W' : World}

theorem trodAll_below (hl : laidOutB P = true) (hb : Below W.heap.size W W') : ∀ {ts : List TypeId} {vs : List Value} {ds : List (DataW H)} {ps : List MemPlace}, (∀ t ∈ ts, P.readableRec t = true ∧ t < P.types.size) →
    DataW.TrodAll enc P W 0 (fun _ => true) true ts vs ds ps → (∀ x ∈ ps, x.block < W.heap.size) → DataW.TrodAll enc P W' 0 (fun b => decide (b < W.heap.size)) true ts vs ds ps
  | [], [], [], _, _, h, _ => h
  | t :: ts, v :: vs, d :: ds, ps, hr, ⟨p, q, h1, h2, e⟩, hlt => by
    obtain ⟨r1, r2⟩ := hr t (List.mem_cons_self ..)
    refine ⟨p, q, Below.trod hl r1 r2 h1 hb (fun x hx => hlt x (by rw [e]; exact List.mem_append_left _ hx)), trodAll_below hl hb (fun t ht => hr t (List.mem_cons_of_mem _ ht)) h2 (fun x hx => hlt x (by rw [e]; exact List.mem_append_right _ hx)), e⟩
  | [], [], _ :: _, _, _, h, _ => h.elim
  | [], _ :: _, _, _, _, h, _ => h.elim
  | _ :: _, [], _, _, _, h, _ => h.elim
  | _ :: _, _ :: _, [], _, _, h, _ => h.elim

theorem trodAll_len {base : Nat} {sp : Nat → Bool} {held : Bool} : ∀ {ts : List TypeId} {vs : List Value} {ds : List (DataW H)} {ps : List MemPlace}, DataW.TrodAll enc P W base sp held ts vs ds ps → ds.length = ts.length ∧ vs.length = ts.length
  | [], [], [], _, h => ⟨rfl, rfl⟩
  | t :: ts, v :: vs, d :: ds, ps, ⟨p, q, h1, h2, e⟩ => by obtain ⟨a, b⟩ := trodAll_len h2; exact ⟨by simp [a], by simp [b]⟩
  | [], [], _ :: _, _, h => h.elim
  | [], _ :: _, _, _, h => h.elim
  | _ :: _, [], _, _, h => h.elim
  | _ :: _, _ :: _, [], _, h => h.elim
end

def argsB (P : Program) : List Ty → List TypeId → Bool
  | [], [] => true
  | t :: ts, T :: Ts => argB P t T && argsB P ts Ts
  | _, _ => false

theorem argsB_spec {P : Program} : ∀ {ts : List Ty} {Ts : List TypeId}, argsB P ts Ts = true → ts.length = Ts.length ∧ ∀ (i : Nat) (t : Ty) (T : TypeId), ts[i]? = some t → Ts[i]? = some T → argB P t T = true
  | [], [], _ => ⟨rfl, fun i t T h => by simp at h⟩
  | t :: ts, T :: Ts, h => by
    simp only [argsB, Bool.and_eq_true] at h
    obtain ⟨h1, h2⟩ := argsB_spec h.2
    refine ⟨by simp [h1], fun i u U hu hU => ?_⟩
    cases i with
    | zero => simp at hu hU; subst hu hU; exact h.1
    | succ i => exact h2 i u U (by simpa using hu) (by simpa using hU)
  | [], _ :: _, h => by cases h
  | _ :: _, [], h => by cases h

def lawSpec (ts : List Ty) : Spec := { sig := ts.map AT.v, pre := fun _ => True, res := fun _ => [⟨.bool, true⟩] }

theorem law_calls {H : Type} {enc : TypeId × Value → H} {C : Checked} {f : FuncId} {fn : Func} {s : ChangeSpec} {apart fresh handsOn : Bool}
    (hl : laidOutB C.prog = true) (hr : (fn.params.toList.all fun t => C.prog.readableRec t && Nat.blt t C.prog.types.size) = true)
    (ts : List Ty) (hts : argsB C.prog ts fn.params.toList = true) {tb : TypeId} (hres : fn.resultTypes = #[tb]) (htb : C.prog.underlying tb = some .bool) (hvars : s.vars = [])
    (hs : ∀ ds : List (DataW H), ds.length = fn.params.toList.length → (s.fn H (ds ++ [])).results = [.lit (.bool true)] ∧ (s.fn H (ds ++ [])).args = ds ∧ (s.fn H (ds ++ [])).vars = [])
    (hcon : Contract C.prog f (lawSpec ts)) {W : World} (hg : GInv W) {base : Nat} {args : Array Value} {ds gs : List (DataW H)} {before : List MemPlace}
    (hval : ∀ (j : Nat) t v, fn.params[j]? = some t → args[j]? = some v → Value.okWide C.prog W .any base t v)
    (hW : DataW.Whole enc C.prog fn.params.toList s.vars apart W args.toList ds gs before) :
    Calls C.prog f args W fun e W' => ∃ v, e = .returned v ∧ s.post enc C.prog fn apart fresh handsOn false W args v W' := by
  have hW' := hW
  obtain ⟨p, q, hA, hV, hbef, hfz, hnd⟩ := hW
  rw [hvars] at hV
  obtain ⟨rfl, rfl⟩ := trodVars_none hV
  obtain ⟨hlen, hall⟩ := argsB_spec hts
  obtain ⟨x, bss, hb0, hx⟩ := trod_args (r := .any) (b0 := base) hlen hall (fun j T v h1 h2 => hval j T v (by simpa using h1) (by simpa using h2)) hA
  have hcall := hcon W (Good W []) (Good W []) x args.toList bss (by rw [hb0]; exact ⟨hg, hg.size, fun b hb => by cases hb⟩) (by rw [hb0]; exact fun b hb => hb) (fun b hb => hb) trivial hx (by rw [hb0]; exact List.nodup_nil)
  rw [hb0] at hcall
  refine hcall.mono ?_
  rintro e W' ⟨rs, ubs, rbs, F, rfl, hk, hrr, _⟩
  have hrs : rs = [.bool true] := by
    obtain ⟨v, s', b, bs, h1, h2, ⟨cs, h3, h4⟩, h5⟩ := hrr
    obtain ⟨h3, _⟩ := h3
    simp only [IsVal] at h4
    rw [h3] at h4
    cases h4
    rw [h1, h5.1]
  subst hrs
  have hbel := hk.below
  obtain ⟨g1, g2, g3⟩ := hs ds (trodAll_len hA).1
  have hlt : ∀ y ∈ p, y.block < W.heap.size := fun y hy => hW'.lt y (by rw [hbef]; exact List.mem_append_left _ hy)
  have hr' : ∀ t ∈ fn.params.toList, C.prog.readableRec t = true ∧ t < C.prog.types.size := fun t ht => by
    have := List.all_eq_true.1 hr t ht
    simp only [Bool.and_eq_true] at this
    exact ⟨this.1, Nat.le_of_ble_eq_true this.2⟩
  refine ⟨.bool true, rfl, ds, [], before, [], p, [], hW', ?_, ?_, ?_, hbel.frame _, fun h => by cases h⟩
  · rw [hres, g1]
    exact trodAll_mk1 (shut_bool htb true)
  · rw [g2]
    exact trodAll_below hl hbel hr' hA hlt
  · rw [hvars, g3]
    rfl

theorem law_lifted_laid {H : Type} {enc : TypeId × Value → H} {a : Assume} {C : Checked} {os : Os} {f : FuncId} {fn : Func} {s : ChangeSpec} {conds : List PathCond} {apart fresh handsOn : Bool} {laid : List (String × DataW Unit)}
    (own : ownKnob C.prog.godebug = none) (started : os.Started) (noInit : C.prog.inits.idxOf? f = none) (hfn : C.prog.funcs[f]? = some fn)
    (witness : ∃ (w : World) (tape : Tape) (i : Input), w.os = os ∧ (w.forCall tape i).Shaped C.prog ∧ i.vars = [] ∧ Input.okWide C.prog (w.forCall tape i) .any w.heap.size f i ∧
      ((s.pre enc C.prog fn conds apart (w.forCall tape i).memory i.args ∧ laidMetH C.prog laid (w.forCall tape i).memory) ∧ sizedMet enc C.prog fn (OpenSpec.ofChange s) apart (w.forCall tape i).memory i.args) ∧ a.holds C.prog (lone (Frame.enter C.prog f i.args .normal) [] (w.forCall tape i)))
    (hl : laidOutB C.prog = true) (hr : (fn.params.toList.all fun t => C.prog.readableRec t && Nat.blt t C.prog.types.size) = true)
    (ts : List Ty) (hts : argsB C.prog ts fn.params.toList = true) {tb : TypeId} (hres : fn.resultTypes = #[tb]) (htb : C.prog.underlying tb = some .bool) (hvars : s.vars = [])
    (hs : ∀ ds : List (DataW H), ds.length = fn.params.toList.length → (s.fn H (ds ++ [])).results = [.lit (.bool true)] ∧ (s.fn H (ds ++ [])).args = ds ∧ (s.fn H (ds ++ [])).vars = [])
    (hg : ∀ W : World, W.ShapedOpen C.prog → laidMetH C.prog laid W → GInv W) (hcon : Contract C.prog f (lawSpec ts)) :
    ReturnsInHanded a C os f .any (fun w args => (s.pre enc C.prog fn conds apart w args ∧ laidMetH C.prog laid w) ∧ sizedMet enc C.prog fn (OpenSpec.ofChange s) apart w args) (s.post enc C.prog fn apart fresh handsOn false) := by
  refine returnsInHanded_of_calls own started noInit witness ?_
  intro w tape i _ hsh _ hok hpre hholds
  obtain ⟨_, _, _, fn', hfn', _, _, _, _, hval⟩ := hok
  have e : fn' = fn := Option.some.inj (hfn'.symm.trans hfn)
  subst e
  obtain ⟨⟨⟨ds, gs, before, hw, hc⟩, hx⟩, hz⟩ := hpre
  have hw' := DataW.Whole.of_heap (w' := w.forCall tape i) (by rfl) hw
  have hx' : laidMetH C.prog laid (w.forCall tape i) := hx.of_heap (by rfl)
  refine (law_calls (fresh := fresh) (handsOn := handsOn) hl hr ts hts hres htb hvars hs hcon (hg _ hsh hx') hval hw').mono fun e W' ⟨v, he, hp⟩ => ?_
  subst he
  exact ChangeSpec.post_blind hp
end Go.Am

/- The abstract machine, part 24: cut points, runs between them with nil slices taken as owned ones. -/
namespace Go.Am
set_option linter.unusedVariables false
set_option linter.unusedSimpArgs false

def bodyOf (f : Func) : Code := match f.body with | some c => c | none => .skip

def firstRegion : Code → Nat
  | .region id _ _ => id
  | .seq x _ => firstRegion x
  | .block _ c => firstRegion c
  | .loop c => firstRegion c
  | .scope c => firstRegion c
  | _ => 999999

def orL : Option (List Item) → Option (List Item) → Option (List Item)
  | some k, _ => some k
  | none, x => x

def findC (id : Nat) : Code → List Item → Option (List Item)
  | .seq x y, k => orL (findC id x (.code y :: k)) (findC id y k)
  | .block b c, k => findC id c (.inBlock b :: k)
  | .loop c, k => match Nat.beq (firstRegion c) id with
    | true => some (.code c :: .inLoop c :: k)
    | false => findC id c (.inLoop c :: k)
  | .cond _ x y, k => orL (findC id x k) (findC id y k)
  | .region r ops d, k => match Nat.beq r id with
    | true => some (.code (.region r ops d) :: k)
    | false => none
  | _, _ => none

def cutAt (c : Code) (id : Nat) : List Item := match findC id c [] with | some k => k | none => []

def nilLeaf (r i : Nat) (ty : Ty) (EL : Env × Heap) : Env × Heap :=
  match hget EL.2 r with
  | some A => match A.ls with
    | some ls => match ls[i]? with
      | some (.val (.slice none _ _)) => (EL.1, hset (EL.2 ++ [some ⟨ty, [], !ty.flat, none, none⟩]) r (some ⟨A.t, A.xs, A.bor, some (ls.set i (.osl EL.2.length none)), A.sm⟩))
      | _ => EL
    | none => EL
  | none => EL

def nilA0 (t : Nat) (ty : Ty) (EL : Env × Heap) : Env × Heap :=
  match EL.1.get t with
  | .a (.val (.slice none _ _)) => (EL.1.set t (.a (.osl EL.2.length none)), EL.2 ++ [some ⟨ty, [], !ty.flat, none, none⟩])
  | _ => EL

def nilA (t : Nat) (ty : Ty) (EL : Env × Heap) : Env × Heap :=
  match Nat.ble 1000000 t with
  | true => match EL.1.get (t % 1000000) with
    | .a (.bptr r _ _) => nilLeaf r (t / 1000000 - 1) ty EL
    | .a (.optr r _ _) => nilLeaf r (t / 1000000 - 1) ty EL
    | _ => EL
  | false => nilA0 t ty EL

def nilsA : List (Nat × Ty) → Env × Heap → Env × Heap
  | [], EL => EL
  | (t, ty) :: r, EL => nilsA r (nilA t ty EL)

def borUp1 (A : Arr) : Arr :=
  match A.t.flat, A.bor with
  | false, false => match A.ls, A.sm with
    | none, none => match A.xs.isEmpty with
      | true => ⟨A.t, A.xs, true, none, none⟩
      | false => A
    | _, _ => A
  | _, _ => A

def borUp (L : Heap) : Heap := L.map fun o => match o with | some A => some (borUp1 A) | none => none

theorem hget_borUp : ∀ (L : Heap) (s : Nat), hget (borUp L) s = (hget L s).map borUp1
  | [], _ => rfl
  | some B :: L, 0 => rfl
  | none :: L, 0 => rfl
  | o :: L, s + 1 => hget_borUp L s

theorem borUp1_cases (A : Arr) : borUp1 A = A ∨ (A.xs = [] ∧ A.ls = none ∧ A.sm = none ∧ borUp1 A = ⟨A.t, A.xs, true, none, none⟩) := by
  unfold borUp1
  split
  · split
    · split
      · rename_i h1 h2 _ h3
        exact .inr ⟨List.isEmpty_iff.1 h3, h1, h2, rfl⟩
      · exact .inl rfl
    · exact .inl rfl
  · exact .inl rfl

section
variable {P : Program} {n : Nat} {K : Ctx} {G : Nat → Prop} {w0 w : World} {a : Act} {V : Nat → Value} {own : Nat → List Nat} {f : FuncId} {R : Ending → World → Prop} {E : Env} {L : Heap}

theorem RelV.reset (hR : RelV n K w0 G w a E L V own) {t : Nat} {p : PV} (hp : RepP w0 G L V p (a.tmps.getD t undef)) : RelV n K w0 G w a (E.set t p) L V own :=
  ⟨hR.glob, hR.kept, hR.size, hR.defers, hR.glt, hR.gref, hR.gsub, hR.gold, hR.gup, hR.heap, hR.good, hR.nodup, hR.apart, hR.boxs, hR.small, fun i => by
    rw [Env.get_set]
    split
    · rename_i h; subst h; exact hp
    · exact hR.env i⟩

theorem repLs_nil {V' : Nat → Value} {L' : Heap} {x : Leaf} {u : Value} (hx : RepL w0 G L' V' x u) : ∀ {ls : List Leaf} {cs : List Value} {i : Nat}, RepLs w0 G L' V' ls cs → cs[i]? = some u → RepLs w0 G L' V' (ls.set i x) cs
  | [], cs, i, h, hi => h
  | y :: ls, cs, 0, ⟨v, r, h1, h2, h3⟩, hi => by
    subst h1
    simp at hi
    subst hi
    exact ⟨v, r, rfl, hx, h3⟩
  | y :: ls, cs, i + 1, ⟨v, r, h1, h2, h3⟩, hi => by
    subst h1
    exact ⟨v, r, rfl, h2, repLs_nil hx h3 (by simpa using hi)⟩

theorem repLs_at {V' : Nat → Value} {L' : Heap} {x : Leaf} : ∀ {ls : List Leaf} {cs : List Value} {i : Nat}, RepLs w0 G L' V' ls cs → ls[i]? = some x → ∃ u, cs[i]? = some u ∧ RepL w0 G L' V' x u
  | [], cs, i, h, hi => by simp at hi
  | y :: ls, cs, 0, ⟨v, r, h1, h2, h3⟩, hi => by
    subst h1
    simp at hi
    subst hi
    exact ⟨v, by simp, h2⟩
  | y :: ls, cs, i + 1, ⟨v, r, h1, h2, h3⟩, hi => by
    subst h1
    obtain ⟨u, h4, h5⟩ := repLs_at h3 (by simpa using hi)
    exact ⟨u, by simpa using h4, h5⟩

theorem nilLeaf_spec (hR : RelV n K w0 G w a E L V own) (r i : Nat) (ty : Ty) : ∃ V' own', RelV n K w0 G w a (nilLeaf r i ty (E, L)).1 (nilLeaf r i ty (E, L)).2 V' own' := by
  unfold nilLeaf
  split
  · rename_i A hA
    split
    · rename_i ls hls
      split
      · rename_i m c hi
        have hE : EntC w0 G w ⟨ty, [], !ty.flat, none, none⟩ (.slice none 0 0) [] := ⟨by simp [maxLen], .inl ⟨_, rfl, rfl, rfl⟩⟩
        have hR' := hR.grow hE List.nodup_nil (fun b hb => by cases hb) (fun r A hA b hb hm => by cases hm)
        have hrl : r < L.length := hget_lt hA
        have hA' : hget (L ++ [some ⟨ty, [], !ty.flat, none, none⟩]) r = some A := by
          rw [hget_append, if_pos hrl]
          exact hA
        obtain ⟨b, off, cs, h1, h2, h3, h4, h5⟩ := hR'.boxs r A ls hA' hls
        obtain ⟨u, hu, hv⟩ := repLs_at h5 hi
        obtain ⟨hv, h0, h6⟩ := hv
        obtain ⟨h7, h8⟩ := h0
        subst h7 h8
        subst hv
        refine ⟨_, _, hR'.setLs hA' hls ⟨b, off, cs, h1, h2, by rw [List.length_set]; exact h3, h4, repLs_nil ?_ h5 hu⟩⟩
        exact repA_new (w0 := w0) (G := G) (u := w0) (G' := G) (w := w) hE
      · exact ⟨V, own, hR⟩
    · exact ⟨V, own, hR⟩
  · exact ⟨V, own, hR⟩

theorem nilA_spec (hR : RelV n K w0 G w a E L V own) (t : Nat) (ty : Ty) : ∃ V' own', RelV n K w0 G w a (nilA t ty (E, L)).1 (nilA t ty (E, L)).2 V' own' := by
  unfold nilA
  split
  · split
    · exact nilLeaf_spec hR _ _ ty
    · exact nilLeaf_spec hR _ _ ty
    · exact ⟨V, own, hR⟩
  unfold nilA0
  split
  · rename_i m c hg
    have hv := hR.env t
    simp only at hg
    rw [hg] at hv
    obtain ⟨hv, h0, h1⟩ := hv
    subst h0 h1
    have hE : EntC w0 G w ⟨ty, [], !ty.flat, none, none⟩ (.slice none 0 0) [] := ⟨by simp [maxLen], .inl ⟨_, rfl, rfl, rfl⟩⟩
    have hR' := hR.grow hE List.nodup_nil (fun b hb => by cases hb) (fun r A hA b hb hm => by cases hm)
    refine ⟨_, _, hR'.reset ?_⟩
    rw [hv]
    exact repA_new (w0 := w0) (G := G) (u := w0) (G' := G) (w := w) hE
  · exact ⟨V, own, hR⟩

theorem nilsA_spec : ∀ {l : List (Nat × Ty)} {E : Env} {L : Heap} {V : Nat → Value} {own : Nat → List Nat}, RelV n K w0 G w a E L V own → ∃ V' own', RelV n K w0 G w a (nilsA l (E, L)).1 (nilsA l (E, L)).2 V' own'
  | [], E, L, V, own, hR => ⟨V, own, hR⟩
  | (t, ty) :: r, E, L, V, own, hR => by
    obtain ⟨V', own', h⟩ := nilA_spec hR t ty
    show ∃ V' own', RelV n K w0 G w a (nilsA r (nilA t ty (E, L))).1 (nilsA r (nilA t ty (E, L))).2 V' own'
    generalize nilA t ty (E, L) = EL at h
    obtain ⟨E1, L1⟩ := EL
    exact nilsA_spec h

theorem RelV.borUp (hR : RelV n K w0 G w a E L V own) : RelV n K w0 G w a E (Am.borUp L) V own := by
  have hback : ∀ s B, hget (Am.borUp L) s = some B → ∃ C, hget L s = some C ∧ B = borUp1 C := fun s B h => by
    rw [hget_borUp] at h
    cases hC : hget L s with
    | none => rw [hC] at h; cases h
    | some C => rw [hC] at h; cases h; exact ⟨C, rfl, rfl⟩
  have ht : ∀ C, (borUp1 C).t = C.t := fun C => by rcases borUp1_cases C with h | ⟨_, _, _, h⟩ <;> rw [h]
  have hl : ∀ C, (borUp1 C).xs.length = C.xs.length := fun C => by rcases borUp1_cases C with h | ⟨_, _, _, h⟩ <;> rw [h]
  have hls : ∀ C, (borUp1 C).ls = C.ls := fun C => by rcases borUp1_cases C with h | ⟨_, h2, _, h⟩ <;> rw [h]; exact h2.symm
  have hag : ∀ s, Agree L V (Am.borUp L) V s := fun s => ⟨rfl, fun A hA => ⟨borUp1 A, by rw [hget_borUp, hA]; rfl, ht A, hl A, fun ls h => ⟨ls, by rw [hls]; exact h⟩⟩⟩
  refine ⟨hR.glob, hR.kept, hR.size, hR.defers, hR.glt, hR.gref, hR.gsub, hR.gold, hR.gup, ?_, ?_, ?_, ?_, ?_, ?_, fun i => ?_⟩
  · intro s B hs
    obtain ⟨C, h2, rfl⟩ := hback s B hs
    have h := hR.heap s C h2
    rcases borUp1_cases C with e | ⟨e1, e2, e3, e⟩
    · rw [e]; exact h
    · rw [e]
      obtain ⟨t, xs, bor, ls, sm⟩ := C
      simp only at e1
      subst e1
      refine ⟨h.1, ?_⟩
      rcases h.2 with h | ⟨b, off, cap, cur, ty, fz, bss, h1, h2, h3, h4, h5, h6, h7, h8, h9⟩
      · exact .inl h
      · exact .inr ⟨b, off, cap, cur, ty, fz, bss, h1, h2, h3, h4, h5, h6, h7, h8, fun i x bi hx _ => by simp at hx⟩
  · intro s B hs
    obtain ⟨C, h2, rfl⟩ := hback s B hs
    exact hR.good s C h2
  · intro s B hs
    obtain ⟨C, h2, rfl⟩ := hback s B hs
    exact hR.nodup s C h2
  · intro s u B D hs hu hsu
    obtain ⟨C, h2, rfl⟩ := hback s B hs
    obtain ⟨F, h4, rfl⟩ := hback u D hu
    exact hR.apart s u C F h2 h4 hsu
  · intro s B ls hs hl'
    obtain ⟨C, h2, rfl⟩ := hback s B hs
    rw [hls] at hl'
    rw [ht]
    exact (hR.boxs s C ls h2 hl').agree fun u _ => hag u
  · intro s B q hs hq
    obtain ⟨C, h2, rfl⟩ := hback s B hs
    rcases borUp1_cases C with e | ⟨_, _, _, e⟩
    · rw [e] at hq ⊢; exact hR.small s C q h2 hq
    · rw [e] at hq; cases hq
  · exact repP_agree (hR.env i) fun u _ => hag u

def runN (tab : List TI) (ext : Ext) (wr : Bool) (n : Nat) (stops : List Nat) (m : Nat) (pins : List Nat) (nils : List (Nat × Ty)) (ks : List Nat) (rs : List Nat) (path : List Bool) (k : List Item) (E : Env) (L : Heap) : Option (List Item × Env × Heap × List Prop) :=
  match runA tab ext wr n stops m true k ⟨path, [], E, L, [], pins⟩ with
  | some (.stop k' S) => match nilsA nils (S.E, S.L) with
    | (E1, L1) => match nodupB rs && envIn rs (Am.keepE E1 ks) && heapIn rs (borUp L1) rs && decide (S.pins = pins) with
      | true => some (k', renE rs (Am.keepE E1 ks), pickL rs (borUp L1), S.cs)
      | false => none
  | _ => none

theorem AtV.runN {tab : List TI} {ext : Ext} (hT : TabOk P tab) (hX : ExtOk P ext) (hm : P.follows .mixedOrders = true) {wr : Bool} {stops : List Nat} {m : Nat} {q : Nat → Value} {pins : List Nat} {nils : List (Nat × Ty)} {ks : List Nat} {rs : List Nat} {path : List Bool} {k k' : List Item} {E' : Env} {L' : Heap} {cs : List Prop}
    (h : Am.runN tab ext wr n stops m pins nils ks rs path k E L = some (k', E', L', cs)) (hc : All cs) (hk : AtV P f R n K q pins k' E' L') : AtV P f R n K q pins k E L := by
  intro a w w0 G V own hR hq
  unfold Am.runN at h
  split at h
  · rename_i k1 S hr
    split at h
    rename_i E1 L1 hnil
    split at h
    · rename_i hb
      simp only [Bool.and_eq_true, decide_eq_true_eq] at hb
      obtain ⟨⟨⟨hn, hb⟩, hh⟩, hp⟩ := hb
      cases h
      refine runA_run hT hX hm hr hc hR ⟨fun t d ht => by simp [lookB] at ht, hq⟩ ?_
      intro a' w' w1 G1 V' own' hR' hq'
      rw [hp] at hq'
      obtain ⟨V2, own2, hR2⟩ := nilsA_spec (l := nils) hR'
      rw [hnil] at hR2
      exact hk _ _ _ _ _ _ ((hR2.borUp.keepE ks).renum hn hb hh) hq'
    · cases h
  · cases h
end
end Go.Am

/- The abstract machine, part 25: a contract, said otherwise. -/
namespace Go.Am
set_option linter.unusedVariables false

instance (k : IntKind) (n : Int) : Decidable (InR k n) := inferInstanceAs (Decidable (k.min ≤ n ∧ n ≤ k.max))

theorem ArgsRep.wf {w : World} {G : Nat → Prop} {sig : List AT} {x : sigDen sig} {vs : List Value} {bss : List (List Nat)} (h : ArgsRep w G sig x vs bss) : wfSig sig x := args_wf h

theorem Contract.says {P : Program} {f : FuncId} {sig : List AT} {pre pre' : sigDen sig → Prop} {upd : sigDen sig → List (Option Lst)} {res res' : sigDen sig → List Dyn} {kds : List RK}
    (hc : Contract P f { sig := sig, pre := pre, upd := upd, res := res, kds := kds }) (h : ∀ x, pre' x → wfSig sig x → pre x ∧ res x = res' x) : Contract P f { sig := sig, pre := pre', upd := upd, res := res', kds := kds } := by
  intro w G G0 x vs bss hgo hG hG0 hp ha hn
  obtain ⟨h1, h2⟩ := h x hp (argsK_wf ha)
  have := hc w G G0 x vs bss hgo hG hG0 h1 ha hn
  simp only at this ⊢
  rw [h2] at this
  exact this
end Go.Am

/- The abstract machine, part 26: small laws about trees, for the plain laws. -/
namespace Go.Am
set_option linter.unusedVariables false
set_option linter.unusedSimpArgs false

theorem bytes_eq (a b : ByteArray) : (ByteArray.toList a == ByteArray.toList b) = true ↔ a = b := by
  rw [← beq_toListBytes]
  obtain ⟨⟨x⟩⟩ := a
  obtain ⟨⟨y⟩⟩ := b
  show ((⟨x⟩ : Array UInt8) == ⟨y⟩) = true ↔ _
  simp

theorem getD_lt {α : Type} (xs : List α) (i : Nat) (d : α) (h : i < xs.length) : xs.getD i d = xs[i] := by
  rw [List.getD_eq_getElem?_getD, List.getElem?_eq_getElem h]; rfl

theorem drop_get {α : Type} (xs : List α) (i : Nat) (d : α) (h : i < xs.length) : xs.drop i = xs.getD i d :: xs.drop (i + 1) := by
  rw [getD_lt xs i d h, ← List.drop_eq_getElem_cons h]

theorem drop_end {α : Type} (xs : List α) (i : Nat) (h : xs.length ≤ i) : xs.drop i = [] := List.drop_eq_nil_iff.2 h

theorem inR_up {α : Type} {xs : List α} (h : xs.length ≤ maxLen) {i : Nat} (hi : i < xs.length) : InR .i64 ((i : Int) + 1) := by
  have e1 : (IntKind.i64).min = -9223372036854775808 := by decide
  have e2 : (IntKind.i64).max = 9223372036854775807 := by decide
  have hm : maxLen ≤ 9223372036854775807 := by decide
  simp only [InR, e1, e2]
  omega

theorem i64_iff (n : Int) : InR .i64 n ↔ -9223372036854775808 ≤ n ∧ n ≤ 9223372036854775807 := by
  have e1 : (IntKind.i64).min = -9223372036854775808 := by decide
  have e2 : (IntKind.i64).max = 9223372036854775807 := by decide
  simp only [InR, e1, e2]

theorem u8_iff (n : Int) : InR .u8 n ↔ 0 ≤ n ∧ n ≤ 255 := by
  have e1 : (IntKind.u8).min = 0 := by decide
  have e2 : (IntKind.u8).max = 255 := by decide
  simp only [InR, e1, e2]

end Go.Am

/- The abstract machine, part 28: laws for loops over lists, and for the bytes of strings. -/
namespace Go.Am
set_option linter.unusedVariables false
set_option linter.unusedSimpArgs false

theorem bytesOf_length (s : ByteArray) : (bytesOf s).length = s.size := by simp [bytesOf]

theorem byte_get (s : ByteArray) (i : Nat) : ((List.getD (Array.toList (ByteArray.data s)) i 0).toNat : Int) = (bytesOf s).getD i 0 := by
  unfold bytesOf
  rw [List.getD_eq_getElem?_getD, List.getD_eq_getElem?_getD, List.getElem?_map]
  cases h : s.data.toList[i]? with
  | none => rfl
  | some b => rfl

theorem bytesOf_inj {s t : ByteArray} (h : bytesOf s = bytesOf t) : s = t := by
  obtain ⟨⟨x⟩⟩ := s
  obtain ⟨⟨y⟩⟩ := t
  congr 2
  unfold bytesOf at h
  simp only at h
  induction x generalizing y with
  | nil => cases y with
    | nil => rfl
    | cons b s => cases h
  | cons a r ih => cases y with
    | nil => cases h
    | cons b s =>
      simp only [List.map_cons, List.cons.injEq] at h
      have h1 : a = b := by
        have := h.1
        exact UInt8.toNat_inj.1 (by omega)
      rw [h1, ih s h.2]

def goL {α β δ : Type} (f : β → α → Except δ β) (fin : β → δ) : β → List α → δ
  | b, [] => fin b
  | b, x :: r => match f b x with
    | .ok b' => goL f fin b' r
    | .error d => d

theorem loop_list {α β δ : Type} (xs : List α) (d : α) (f : β → α → Except δ β) (fin : β → δ) (Inv : Nat → β → Prop) (R : Nat → Int → β → δ → Prop)
    (hend : ∀ n b, Inv xs.length b → R (n + 1) xs.length b (fin b))
    (hstep : ∀ n (i : Nat) b, i < xs.length → Inv i b → match f b (xs.getD i d) with
      | .ok b' => Inv (i + 1) b' ∧ ∀ ds, R n (((i : Nat) : Int) + 1) b' ds → R (n + 1) (i : Int) b ds
      | .error ds => R (n + 1) (i : Int) b ds) :
    ∀ (k i : Nat) b, i + k = xs.length → Inv i b → R (k + 1) (i : Int) b (goL f fin b (xs.drop i)) := by
  intro k
  induction k with
  | zero =>
    intro i b hi hinv
    have : i = xs.length := by omega
    subst this
    rw [drop_end xs _ (Nat.le_refl _)]
    exact hend 0 b hinv
  | succ k ih =>
    intro i b hi hinv
    have h := hstep (k + 1) i b (by omega) hinv
    rw [drop_get xs i d (by omega)]
    simp only [goL]
    split at h
    · rename_i b' hf
      have := ih (i + 1) b' (by omega) h.1
      exact h.2 _ (by simpa using this)
    · exact h

theorem loop_all {α β δ : Type} (xs : List α) (d : α) (f : β → α → Except δ β) (fin : β → δ) (Inv : Nat → β → Prop) (R : Nat → Int → β → δ → Prop) {b : β} (h0 : Inv 0 b)
    (hend : ∀ n b, Inv xs.length b → R (n + 1) xs.length b (fin b))
    (hstep : ∀ n (i : Nat) b, i < xs.length → Inv i b → match f b (xs.getD i d) with
      | .ok b' => Inv (i + 1) b' ∧ ∀ ds, R n (((i : Nat) : Int) + 1) b' ds → R (n + 1) (i : Int) b ds
      | .error ds => R (n + 1) (i : Int) b ds) : R (xs.length + 1) 0 b (goL f fin b xs) := by
  have := loop_list xs d f fin Inv R hend hstep xs.length 0 b (by omega) h0
  simpa using this

theorem goL_all {α δ : Type} (q : α → Bool) (no yes : δ) : ∀ (l : List α) (f : Unit → α → Except δ Unit) (fin : Unit → δ), (∀ x, f () x = if q x = true then .ok () else .error no) → fin () = yes → goL f fin () l = if l.all q = true then yes else no
  | [], f, fin, hf, hfin => by simp [goL, hfin]
  | x :: r, f, fin, hf, hfin => by
    simp only [goL, hf]
    cases h : q x with
    | true => simp only [if_true]; rw [goL_all q no yes r f fin hf hfin]; simp [h]
    | false => simp [h]

theorem loop_test {α δ : Type} (xs : List α) (d : α) (q : α → Bool) (no yes : δ) (R : Nat → Int → δ → Prop) (hend : ∀ n, R (n + 1) xs.length yes)
    (hok : ∀ n (i : Nat), i < xs.length → q (xs.getD i d) = true → ∀ ds, R n (((i : Nat) : Int) + 1) ds → R (n + 1) (i : Int) ds)
    (hno : ∀ n (i : Nat), i < xs.length → q (xs.getD i d) = false → R (n + 1) (i : Int) no) : R (xs.length + 1) 0 (if xs.all q = true then yes else no) := by
  have key := loop_all (b := ()) xs d (fun (_ : Unit) x => if q x = true then .ok () else .error no) (fun _ => yes) (fun _ _ => True) (fun n i _ ds => R n i ds) trivial (fun n _ _ => hend n) (fun n i _ hi _ => by
    cases h : q (xs.getD i d) with
    | true => exact ⟨trivial, hok n i hi h⟩
    | false => exact hno n i hi h)
  rw [goL_all q no yes _ _ _ (fun _ => rfl) rfl] at key
  exact key

def allI {α : Type} (q : Nat → α → Bool) : Nat → List α → Bool
  | _, [] => true
  | i, x :: r => q i x && allI q (i + 1) r

theorem loop_testI {α δ : Type} (xs : List α) (d : α) (q : Nat → α → Bool) (no yes : δ) (R : Nat → Int → δ → Prop) (hend : ∀ n, R (n + 1) xs.length yes)
    (hok : ∀ n (i : Nat), i < xs.length → q i (xs.getD i d) = true → ∀ ds, R n (((i : Nat) : Int) + 1) ds → R (n + 1) (i : Int) ds)
    (hno : ∀ n (i : Nat), i < xs.length → q i (xs.getD i d) = false → R (n + 1) (i : Int) no) : R (xs.length + 1) 0 (if allI q 0 xs = true then yes else no) := by
  have key : ∀ (k i : Nat), i + k = xs.length → R (k + 1) (i : Int) (if allI q i (xs.drop i) = true then yes else no) := by
    intro k
    induction k with
    | zero =>
      intro i hi
      have : i = xs.length := by omega
      subst this
      rw [drop_end xs _ (Nat.le_refl _)]
      simpa [allI] using hend 0
    | succ k ih =>
      intro i hi
      rw [drop_get xs i d (by omega)]
      by_cases h : q i (xs.getD i d) = true
      · have h2 := hok (k + 1) i (by omega) h _ (by have := ih (i + 1) (by omega); rwa [show ((i + 1 : Nat) : Int) = (i : Int) + 1 from by omega] at this)
        simp only [allI, h, Bool.true_and]
        exact h2
      · have h := Bool.eq_false_iff.2 h
        simp only [allI, h, Bool.false_and, Bool.false_eq_true, if_false]
        exact hno (k + 1) i (by omega) h
  have := key xs.length 0 (by omega)
  simpa using this

theorem loop_find {α δ : Type} (xs : List α) (d : α) (q : α → Bool) (none' : δ) (some' : Int → δ) (R : Nat → Int → δ → Prop) (hend : ∀ n, R (n + 1) xs.length none')
    (hgo : ∀ n (i : Nat), i < xs.length → q (xs.getD i d) = false → ∀ ds, R n (((i : Nat) : Int) + 1) ds → R (n + 1) (i : Int) ds)
    (hhit : ∀ n (i : Nat), i < xs.length → q (xs.getD i d) = true → R (n + 1) (i : Int) (some' i)) : R (xs.length + 1) 0 (match xs.findIdx? q with | some k => some' (k : Nat) | none => none') := by
  have key : ∀ (k i : Nat), i + k = xs.length → R (k + 1) (i : Int) (match (xs.drop i).findIdx? q with | some j => some' ((i + j : Nat) : Int) | none => none') := by
    intro k
    induction k with
    | zero =>
      intro i hi
      have : i = xs.length := by omega
      subst this
      rw [drop_end xs _ (Nat.le_refl _)]
      exact hend 0
    | succ k ih =>
      intro i hi
      rw [drop_get xs i d (by omega), List.findIdx?_cons]
      cases h : q (xs.getD i d) with
      | true => simpa using hhit (k + 1) i (by omega) h
      | false =>
        have h2 := hgo (k + 1) i (by omega) h _ (by have := ih (i + 1) (by omega); simpa using this)
        simp only [Bool.false_eq_true, if_false]
        cases hf : List.findIdx? q (List.drop (i + 1) xs) with
        | none => rw [hf] at h2; simpa using h2
        | some j =>
          rw [hf] at h2
          simp only [Option.map_some] at h2 ⊢
          rw [show i + (j + 1) = i + 1 + j from by omega]
          exact h2
  have := key xs.length 0 (by omega)
  simpa using this

def idx : Option Nat → Int
  | some k => (k : Nat)
  | none => -1

theorem findIdx_any {α : Type} (q : α → Bool) : ∀ (l : List α), idx (l.findIdx? q) ≥ 0 ↔ l.any q = true := by
  intro l
  have h := List.findIdx?_isSome (xs := l) (p := q)
  rw [← h]
  cases l.findIdx? q with
  | none => simp [idx]
  | some k => simp [idx]

theorem mem_getD {α : Type} (xs : List α) (i : Nat) (d : α) (h : i < xs.length) : xs.getD i d ∈ xs := by
  rw [getD_lt _ _ _ h]; exact List.getElem_mem _

end Go.Am

/- The abstract machine, part 29: from what a library function is known to do to its contract. -/
namespace Go.Am
set_option linter.unusedVariables false
set_option linter.unusedSimpArgs false
open Go.RowKit (Below)

theorem own_of_wf {w : World} : ∀ {t : Ty} {x : t.den}, t.flat = true → Wf t x → OwnC w t x (fcells t x) []
  | .int _, _, _, h => ⟨rfl, h, rfl⟩
  | .bool, _, _, _ => ⟨rfl, rfl⟩
  | .fn, _, _, _ => ⟨rfl, rfl⟩
  | .str, _, _, h => ⟨rfl, h, rfl⟩
  | .unit, _, _, _ => ⟨rfl, rfl⟩
  | .cons a b, x, hf, h => by
    simp only [Ty.flat, Bool.and_eq_true] at hf
    exact ⟨_, _, [], [], rfl, rfl, own_of_wf hf.1 h.1, own_of_wf hf.2 h.2⟩
  | .sl _, _, h, _ => by cases h

end Go.Am

/- The abstract machine, part 30: more laws for loops. -/
namespace Go.Am
set_option linter.unusedVariables false
set_option linter.unusedSimpArgs false

end Go.Am

/- The abstract machine, part 31: the order of strings; binary search. -/
namespace Go.Am
set_option linter.unusedVariables false
set_option linter.unusedSimpArgs false

theorem bl_irrefl : ∀ x : List UInt8, Op.bytesLess x x = false
  | [] => rfl
  | a :: x => by simp [Op.bytesLess, bl_irrefl x]

theorem bl_cons (a b : UInt8) (x y : List UInt8) : Op.bytesLess (a :: x) (b :: y) = true ↔ a.toNat < b.toNat ∨ (a.toNat = b.toNat ∧ Op.bytesLess x y = true) := by
  simp only [Op.bytesLess, Bool.or_eq_true, decide_eq_true_eq, Bool.and_eq_true, beq_iff_eq, UInt8.lt_iff_toNat_lt, UInt8.toNat_inj]

theorem bl_trans : ∀ x y z : List UInt8, Op.bytesLess x y = true → Op.bytesLess y z = true → Op.bytesLess x z = true
  | x, y, [], _, h => by cases y <;> cases h
  | [], y, c :: z, _, _ => rfl
  | a :: x, [], c :: z, h, _ => by cases h
  | a :: x, b :: y, c :: z, h1, h2 => by
    rw [bl_cons] at *
    rcases h1 with h1 | ⟨e1, h1⟩
    · rcases h2 with h2 | ⟨e2, h2⟩
      · exact .inl (by omega)
      · exact .inl (by omega)
    · rcases h2 with h2 | ⟨e2, h2⟩
      · exact .inl (by omega)
      · exact .inr ⟨by omega, bl_trans x y z h1 h2⟩

theorem bl_tri : ∀ x y : List UInt8, Op.bytesLess x y = false → Op.bytesLess y x = false → x = y
  | [], [], _, _ => rfl
  | [], b :: y, h, _ => by cases h
  | a :: x, [], _, h => by cases h
  | a :: x, b :: y, h1, h2 => by
    have n1 := mt (bl_cons a b x y).2 (by rw [h1]; simp)
    have n2 := mt (bl_cons b a y x).2 (by rw [h2]; simp)
    have e : a.toNat = b.toNat := by omega
    have e' := UInt8.toNat_inj.1 e
    have l1 : Op.bytesLess x y = false := Bool.eq_false_iff.2 fun h => n1 (.inr ⟨e, h⟩)
    have l2 : Op.bytesLess y x = false := Bool.eq_false_iff.2 fun h => n2 (.inr ⟨e.symm, h⟩)
    rw [e', bl_tri x y l1 l2]

def sless (a b : ByteArray) : Bool := Op.bytesLess (ByteArray.toList a) (ByteArray.toList b)

theorem toList_inj {a b : ByteArray} (h : ByteArray.toList a = ByteArray.toList b) : a = b := (bytes_eq a b).1 (by rw [h]; simp)

theorem sless_trans {a b c : ByteArray} (h1 : sless a b = true) (h2 : sless b c = true) : sless a c = true := bl_trans _ _ _ h1 h2
theorem sless_tri {a b : ByteArray} (h1 : sless a b = false) (h2 : sless b a = false) : a = b := toList_inj (bl_tri _ _ h1 h2)
end Go.Am

/- The abstract machine, part 32: places in lists. -/
namespace Go.Am
set_option linter.unusedVariables false
set_option linter.unusedSimpArgs false

end Go.Am

/- The abstract machine, part 33: loops within loops; strings of one byte. -/
namespace Go.Am
set_option linter.unusedVariables false
set_option linter.unusedSimpArgs false

def repB (c : UInt8) (n : Nat) : ByteArray := ⟨(Lib.repeatL [c] n).toArray⟩

end Go.Am

/- The abstract machine, part 34: rows that the library makes and turns. -/
namespace Go.Am
set_option linter.unusedVariables false
set_option linter.unusedSimpArgs false
open Go.RowKit (Below)

theorem row_flat {w : World} {t : Ty} (hf : t.flat = true) : ∀ {xs : List t.den}, (∀ x ∈ xs, Wf t x) → Row (OwnC w t) t.size xs (xs.map (fcells t)) (xs.map fun _ => [])
  | [], _ => ⟨rfl, rfl⟩
  | x :: r, h => by
    have ho := own_of_wf (w := w) hf (h x (List.mem_cons_self ..))
    exact ⟨_, _, _, _, rfl, rfl, ho.length, ho, row_flat hf fun y hy => h y (List.mem_cons_of_mem _ hy)⟩

theorem nils_flatten {α : Type} (xs : List α) : (xs.map fun _ => ([] : List Nat)).flatten = [] := by
  induction xs with
  | nil => rfl
  | cons x r ih => simp


def bls (xs : List ByteArray) : List (List UInt8) := xs.map fun s => s.data.toList
def sbl (ss : List (List UInt8)) : List ByteArray := ss.map fun l => ⟨l.toArray⟩

theorem sbl_bls (xs : List ByteArray) : sbl (bls xs) = xs := by
  unfold sbl bls
  rw [List.map_map]
  conv => rhs; rw [← List.map_id xs]
  rfl

theorem strs_cells {w : World} : ∀ {xs : List ByteArray} {css : List (List Value)} {bss : List (List Nat)}, Row (OwnC w .str) 1 xs css bss → css.flatten = xs.map Value.string ∧ bss.flatten = [] ∧ ∀ x ∈ xs, x.size ≤ maxLen
  | [], css, bss, ⟨h1, h2⟩ => by subst h1 h2; exact ⟨rfl, rfl, fun x h => by cases h⟩
  | x :: r, css, bss, ⟨c, cs, b, bs, h1, h2, h3, h4, h5⟩ => by
    subst h1 h2
    obtain ⟨e1, e2, e3⟩ := strs_cells h5
    obtain ⟨rfl, hx, rfl⟩ := h4
    refine ⟨by simp [e1], by simp [e2], fun y hy => ?_⟩
    rcases List.mem_cons.1 hy with rfl | hy
    · exact hx
    · exact e3 y hy

open Go.Sort in
theorem strs_own {w : World} {xs : List ByteArray} {v : Value} {bs : List Nat} (h : OwnC w (.sl .str) xs [v] bs) : (∀ x ∈ xs, x.size ≤ maxLen) ∧ ((∃ ad, v = .slice ad 0 0 ∧ xs = [] ∧ bs = []) ∨
    ∃ b off cap cur ty fz, v = .slice (some ⟨b, off, none⟩) xs.length cap ∧ xs.length ≤ cap ∧ cap ≤ maxLen ∧ off + cap ≤ cur.size ∧ w.heap[b]? = some (.cells cur ty fz) ∧ FreeS 1 fz cur.size ∧ bs = [b] ∧
      ∀ (j : Nat) (x : ByteArray), xs[j]? = some x → cur[off + j]? = some (.string x)) := by
  obtain ⟨v', hv, h⟩ := h
  cases hv
  obtain ⟨css, bss, hrow, hcase⟩ := OwnSl.row h
  obtain ⟨e1, e2, e3⟩ := strs_cells hrow
  refine ⟨e3, ?_⟩
  rcases hcase with ⟨ad, h1, h2, h3⟩ | ⟨b, off, cap, cur, ty, fz, h1, h2, h3, h4, h5, h6, h7, h8⟩
  · exact .inl ⟨ad, h1, h2, h3⟩
  · refine .inr ⟨b, off, cap, cur, ty, fz, h1, h2, h3, by simpa [Ty.size] using h4, h5, h6, by rw [h7, e2], fun j x hx => h8 j _ ?_⟩
    rw [e1, List.getElem?_map, hx]
    rfl

theorem bls_get (xs : List ByteArray) (j : Nat) (h : j < (bls xs).toArray.size) : ∃ x, xs[j]? = some x ∧ Value.string ⟨((bls xs).toArray[j]!).toArray⟩ = .string x := by
  have hl : j < xs.length := by simpa [bls] using h
  refine ⟨xs[j], List.getElem?_eq_getElem hl, ?_⟩
  rw [getElem!_pos _ j h]
  simp [bls]

open Go.Sort in
theorem strs_holds {w : World} {xs : List ByteArray} {b off : Nat} {cur : Array Value} {ty : TypeId} {fz : Nat × Nat} (h5 : w.heap[b]? = some (.cells cur ty fz)) (h6 : FreeS 1 fz cur.size)
    (h8 : ∀ (j : Nat) (x : ByteArray), xs[j]? = some x → cur[off + j]? = some (.string x)) : Holds (fun l : List UInt8 => Value.string ⟨l.toArray⟩) w b off (bls xs).toArray := by
  intro j hj
  obtain ⟨x, hx, he⟩ := bls_get xs j hj
  have hc := h8 j x hx
  refine ⟨?_, ?_⟩
  · show _ = some (Value.string ⟨((bls xs).toArray[j]!).toArray⟩)
    rw [he]
    simp only [World.cell?, h5]
    exact hc
  · simp only [World.frozen?, h5]
    have hlt : off + j < cur.size := (Array.getElem?_eq_some_iff.1 hc).1
    have := h6.1 (off + j) hlt
    rw [Bool.eq_false_iff]
    intro hh
    simp only [Bool.and_eq_true, decide_eq_true_eq] at hh
    exact this hh

open Go.Sort in
theorem strs_turned {w w' : World} {xs ys : List ByteArray} {b off cap : Nat} {cur : Array Value} {ty : TypeId} {fz : Nat × Nat} {n : Nat} {os : Array Obj} (hl : ys.length = xs.length) (hm : xs.length ≤ maxLen) (hs : ∀ y ∈ ys, y.size ≤ maxLen)
    (h2 : xs.length ≤ cap) (h3 : cap ≤ maxLen) (h4 : off + cap ≤ cur.size) (h5 : w.heap[b]? = some (.cells cur ty fz)) (h6 : FreeS 1 fz cur.size)
    (hw : w' = grow (putRow (fun l : List UInt8 => Value.string ⟨l.toArray⟩) (Sort.ahead w n) b off (bls ys).toArray) os) :
    OwnC w' (.sl .str) ys [.slice (some ⟨b, off, none⟩) xs.length cap] [b] ∧ Kept [b] w w' := by
  have hb : b < w.heap.size := by
    rcases Nat.lt_or_ge b w.heap.size with h | h
    · exact h
    · rw [Array.getElem?_eq_none h] at h5; cases h5
  have hheap : ∀ k, k < w.heap.size → w'.heap[k]? = if b = k then (w.heap[k]?).map (onCells (putCells (fun l : List UInt8 => Value.string ⟨l.toArray⟩) off (bls ys).toArray)) else w.heap[k]? := fun k hk => by
    rw [hw]
    have hk' : k < (putRow (fun l : List UInt8 => Value.string ⟨l.toArray⟩) (Sort.ahead w n) b off (bls ys).toArray).heap.size := by rw [size_putRow]; exact hk
    show ((putRow _ (Sort.ahead w n) b off (bls ys).toArray).heap ++ os)[k]? = _
    rw [Array.getElem?_append_left hk']
    simp only [putRow, mapBlock, Sort.ahead, Array.getElem?_modify]
  refine ⟨?_, ?_⟩
  · have hcell := hheap b hb
    rw [if_pos rfl, h5] at hcell
    simp only [Option.map_some, onCells] at hcell
    have hsz : (putCells (fun l : List UInt8 => Value.string ⟨l.toArray⟩) off (bls ys).toArray cur).size = cur.size := by simp [putCells]
    have hrow := row_flat (w := w') (t := .str) rfl (xs := ys) hs
    have ho := ownSl_of_row hrow (b := b) (off := off) (cap := cap) (cur := putCells (fun l : List UInt8 => Value.string ⟨l.toArray⟩) off (bls ys).toArray cur) (ty := ty) (fz := fz) (by omega) (by omega) h3 (by rw [hsz]; simpa [Ty.size] using h4) hcell (by rw [hsz]; exact h6) (fun j c hj => by
      have e1 := (strs_cells hrow).1
      rw [e1, List.getElem?_map] at hj
      have hjl : j < ys.length := by
        rcases Nat.lt_or_ge j ys.length with h | h
        · exact h
        · rw [List.getElem?_eq_none h] at hj; cases hj
      have hbl : j < (bls ys).toArray.size := by simpa [bls] using hjl
      obtain ⟨x, hx, he⟩ := bls_get ys j hbl
      rw [hx] at hj
      simp only [Option.map_some, Option.some.injEq] at hj
      have hlt : off + j < cur.size := by omega
      simp only [putCells, Array.getElem?_mapIdx, Array.getElem?_eq_getElem hlt, Option.map_some]
      rw [if_pos ⟨by omega, by omega⟩, Nat.add_sub_cancel_left, he, hj])
    rw [nils_flatten, hl] at ho
    exact ⟨_, rfl, ho⟩
  · refine ⟨by rw [hw]; rfl, by rw [hw]; rfl, by rw [hw]; rfl, ?_, fun k hk hkb => ?_⟩
    · rw [hw]
      show _ ≤ ((putRow _ (Sort.ahead w n) b off (bls ys).toArray).heap ++ os).size
      rw [Array.size_append, size_putRow]
      show w.heap.size ≤ w.heap.size + _
      omega
    · rw [hheap k hk, if_neg (fun e => hkb (by rw [e]; simp))]

end Go.Am

/- The abstract machine, part 35: strings in order. -/
namespace Go.Am
set_option linter.unusedVariables false
set_option linter.unusedSimpArgs false

theorem bl_lt : ∀ x y : List UInt8, Op.bytesLess x y = true ↔ x < y
  | x, [] => by cases x <;> simp [Op.bytesLess]
  | [], b :: y => by simp [Op.bytesLess]
  | a :: x, b :: y => by
    rw [bl_cons, List.cons_lt_cons_iff, bl_lt x y, UInt8.lt_iff_toNat_lt, UInt8.toNat_inj]

def sle (a b : ByteArray) : Prop := sless b a = false

def sortB (xs : List ByteArray) : List ByteArray := sbl ((bls xs).mergeSort fun x y => decide (x ≤ y))

theorem sortB_perm (x0 : List ByteArray) : (sortB x0).Perm x0 := by
  have h := (List.mergeSort_perm (bls x0) fun x y => decide (x ≤ y)).map (fun l => (⟨l.toArray⟩ : ByteArray))
  have e : (bls x0).map (fun l => (⟨l.toArray⟩ : ByteArray)) = x0 := sbl_bls x0
  rw [e] at h
  exact h

theorem le_iff (x y : List UInt8) : x ≤ y ↔ Op.bytesLess y x = false := by
  rw [Bool.eq_false_iff, ne_eq, bl_lt]
  exact Iff.rfl

theorem sortB_sorted (x0 : List ByteArray) : (sortB x0).Pairwise sle := by
  have h := List.pairwise_mergeSort (le := fun x y : List UInt8 => decide (x ≤ y)) (fun a b c h1 h2 => by
      simp only [decide_eq_true_eq, le_iff] at *
      cases h : Op.bytesLess c a with
      | false => rfl
      | true =>
        exfalso
        cases h3 : Op.bytesLess a b with
        | true => rw [bl_trans _ _ _ h h3] at h2; cases h2
        | false =>
          have := bl_tri _ _ h3 h1
          subst this
          rw [h] at h2
          cases h2) (fun a b => by
      simp only [Bool.or_eq_true, decide_eq_true_eq, le_iff]
      cases h : Op.bytesLess b a with
      | false => exact .inl rfl
      | true =>
        refine .inr ?_
        cases h2 : Op.bytesLess a b with
        | false => rfl
        | true =>
          have := bl_trans _ _ _ h h2
          rw [bl_irrefl] at this
          cases this) (bls x0)
  unfold sortB sbl
  rw [List.pairwise_map]
  refine h.imp fun {a b} hab => ?_
  simp only [decide_eq_true_eq, le_iff] at hab
  unfold sle sless
  rw [Lib.toList_data, Lib.toList_data]
  exact hab

end Go.Am

/- The abstract machine, part 36: lines that are counted in a list in order. -/
namespace Go.Am
set_option linter.unusedVariables false
set_option linter.unusedSimpArgs false

def bump (h : List Int) : List Int := List.set h (Int.toNat ((↑(List.length h) : Int) - 1)) (List.getD h (Int.toNat ((↑(List.length h) : Int) - 1)) 0 + 1)

def cntNew (xs : List ByteArray) (i : Nat) (x : ByteArray) : Bool := decide (i = 0) || !(ByteArray.toList x == ByteArray.toList (xs.getD (i - 1) ByteArray.empty))

def cntStep (xs : List ByteArray) (b : (List ByteArray × List Int) × Nat) (x : ByteArray) : (List ByteArray × List Int) × Nat :=
  if cntNew xs b.2 x = true then ((b.1.1 ++ [x], bump (b.1.2 ++ [0])), b.2 + 1) else ((b.1.1, bump b.1.2), b.2 + 1)

def counted (xs : List ByteArray) : (List ByteArray × List Int) × Nat := xs.foldl (cntStep xs) (([], []), 0)

end Go.Am

/- The abstract machine, part 37: decimal numerals; strings that are split at a byte. -/
namespace Go.Am
set_option linter.unusedVariables false
set_option linter.unusedSimpArgs false
open Go.Sort (grow)

theorem splitB_part (sep : ByteArray) (save : Nat) : ∀ (k : Nat) (s y : ByteArray), y ∈ Lib.splitB sep save k s → y.size ≤ s.size
  | 0, s, y, h => by rw [Lib.splitB_zero, List.mem_singleton] at h; rw [h]; exact Nat.le_refl _
  | k + 1, s, y, h => by
    unfold Lib.splitB at h
    split at h
    · rw [List.mem_singleton] at h; rw [h]; exact Nat.le_refl _
    · rcases List.mem_cons.1 h with rfl | h
      · rw [ByteArray.size_extract]; omega
      · have := splitB_part sep save k _ y h
        rw [ByteArray.size_extract] at this
        omega


def splitC (c : UInt8) : List UInt8 → List (List UInt8)
  | [] => [[]]
  | b :: r => if b = c then [] :: splitC c r else match splitC c r with
    | [] => [[b]]
    | p :: ps => (b :: p) :: ps

theorem splitC_free (c : UInt8) : ∀ {p : List UInt8}, c ∉ p → splitC c p = [p]
  | [], _ => rfl
  | b :: r, h => by
    have h1 : b ≠ c := fun e => h (by rw [e]; exact List.mem_cons_self ..)
    have h2 : c ∉ r := fun e => h (List.mem_cons_of_mem _ e)
    unfold splitC
    rw [if_neg h1, splitC_free c h2]

theorem splitC_hit (c : UInt8) : ∀ {p : List UInt8} (r : List UInt8), c ∉ p → splitC c (p ++ c :: r) = p :: splitC c r
  | [], r, _ => by simp [splitC]
  | b :: q, r, h => by
    have h1 : b ≠ c := fun e => h (by rw [e]; exact List.mem_cons_self ..)
    have h2 : c ∉ q := fun e => h (List.mem_cons_of_mem _ e)
    rw [List.cons_append, splitC, if_neg h1, splitC_hit c r h2]

theorem index_one_none (c : UInt8) : ∀ {l : List UInt8}, c ∉ l → Lib.index l [c] = -1
  | [], _ => by simp [Lib.index]
  | b :: r, h => by
    have h1 : b ≠ c := fun e => h (by rw [e]; exact List.mem_cons_self ..)
    have h2 : c ∉ r := fun e => h (List.mem_cons_of_mem _ e)
    rw [Lib.index, index_one_none c h2]
    simp [List.isPrefixOf, Ne.symm h1]

theorem index_one_hit (c : UInt8) : ∀ {p : List UInt8} (r : List UInt8), c ∉ p → Lib.index (p ++ c :: r) [c] = (p.length : Int)
  | [], r, _ => by simp [Lib.index, List.isPrefixOf]
  | b :: q, r, h => by
    have h1 : b ≠ c := fun e => h (by rw [e]; exact List.mem_cons_self ..)
    have h2 : c ∉ q := fun e => h (List.mem_cons_of_mem _ e)
    rw [List.cons_append, Lib.index, index_one_hit c r h2]
    have : ¬ ((q.length : Int) == -1) = true := fun e => by have := beq_iff_eq.1 e; omega
    have h3 : ([c] : List UInt8).isPrefixOf (b :: (q ++ c :: r)) = false := by simp [List.isPrefixOf, Ne.symm h1]
    rw [h3, if_neg (by simp), if_neg this]
    simp

theorem split_at (c : UInt8) : ∀ (l : List UInt8), c ∉ l ∨ ∃ p r, l = p ++ c :: r ∧ c ∉ p
  | [] => .inl (by simp)
  | b :: l => by
    by_cases h : b = c
    · exact .inr ⟨[], l, by rw [h]; rfl, by simp⟩
    · rcases split_at c l with h1 | ⟨p, r, rfl, h2⟩
      · exact .inl (fun hm => by rcases List.mem_cons.1 hm with rfl | hm; exact h rfl; exact h1 hm)
      · exact .inr ⟨b :: p, r, rfl, fun hm => by rcases List.mem_cons.1 hm with rfl | hm; exact h rfl; exact h2 hm⟩

theorem splitK_one (c : UInt8) : ∀ (k : Nat) (l : List UInt8), l.count c ≤ k → Lib.splitK [c] 0 k l = splitC c l
  | 0, l, h => by
    have hn : c ∉ l := fun hm => by have := List.count_pos_iff.2 hm; omega
    rw [splitC_free c hn]; rfl
  | k + 1, l, h => by
    rcases split_at c l with hn | ⟨p, r, rfl, hn⟩
    · rw [splitC_free c hn, Lib.splitK, index_one_none c hn, if_pos (by rfl)]
    · have hc : r.count c ≤ k := by
        rw [List.count_append, List.count_cons_self] at h
        omega
      rw [splitC_hit c r hn, Lib.splitK, index_one_hit c r hn, if_neg (fun e => by have := beq_iff_eq.1 e; omega)]
      congr 1
      · simp
      · have e : (p ++ c :: r).drop (((p.length : Int)).toNat + [c].length) = r := by
          simp only [Int.toNat_natCast, List.length_singleton]
          rw [List.drop_append, List.drop_of_length_le (by omega), Nat.add_sub_cancel_left]
          rfl
        rw [e]
        exact splitK_one c k r hc

def bss (ls : List (List UInt8)) : List ByteArray := ls.map fun l => ⟨l.toArray⟩

theorem bss_data (xs : List ByteArray) : bss (xs.map fun x => x.data.toList) = xs := by
  unfold bss
  rw [List.map_map]
  conv => rhs; rw [← List.map_id xs]
  rfl

theorem splitB_one (c : UInt8) (s : ByteArray) : Lib.splitB ⟨#[c]⟩ 0 (Lib.countB s ⟨#[c]⟩) s = bss (splitC c s.data.toList) := by
  have h := Lib.splitB_data ⟨#[c]⟩ 0 (Lib.countB s ⟨#[c]⟩) s
  have e : Lib.countB s ⟨#[c]⟩ = s.data.toList.count c := by
    show Lib.count s.data.toList [c] = _
    exact Lib.count_one c _
  have h2 := splitK_one c (Lib.countB s ⟨#[c]⟩) s.data.toList (by rw [e]; exact Nat.le_refl _)
  rw [← bss_data (Lib.splitB ⟨#[c]⟩ 0 (Lib.countB s ⟨#[c]⟩) s), h]
  show bss (Lib.splitK [c] 0 _ _) = _
  rw [h2]

end Go.Am

/- The abstract machine, part 38: variables of the library that a statement lists with what they hold. -/
namespace Go.Am
set_option linter.unusedVariables false
set_option linter.unusedSimpArgs false

def layCells (w : World) : List (Nat × List Value) → World
  | [] => w
  | (g, cs) :: r => layCells { w with heap := w.heap.modify g fun
      | .cells _ t fz => .cells cs.toArray t fz
      | o => o } r

def numCells : DataW Unit → List Value
  | .agg ps => ps.filterMap fun
    | .lit (.int k z) => some (.int k z)
    | _ => none
  | _ => []

end Go.Am

/- The abstract machine, part 39: library functions over slices of whatever flat type: from their runs to their contracts. -/
namespace Go.Am
set_option linter.unusedVariables false
set_option linter.unusedSimpArgs false
open Go.RowKit (Below)

def fcs (t : Ty) (xs : List t.den) : List Value := (xs.map (fcells t)).flatten

theorem own_flat_mk {w : World} {t : Ty} (hf : t.flat = true) {xs : List t.den} (hw : ∀ x ∈ xs, Wf t x) {n b off cap : Nat} {cur : Array Value} {ty : TypeId} {fz : Nat × Nat} (hn : n = xs.length) (h2 : xs.length ≤ cap) (h3 : cap ≤ maxLen) (h4 : off + cap * t.size ≤ cur.size)
    (h5 : w.heap[b]? = some (.cells cur ty fz)) (h6 : FreeS t.size fz cur.size) (h8 : ∀ j u, (fcs t xs)[j]? = some u → cur[off + j]? = some u) : OwnC w (.sl t) xs [.slice (some ⟨b, off, none⟩) n cap] [b] := by
  subst hn
  have hrow := row_flat (w := w) hf hw
  have ho := ownSl_of_row hrow (b := b) (off := off) (cap := cap) (cur := cur) (ty := ty) (fz := fz) (Nat.le_trans h2 h3) h2 h3 h4 h5 h6 h8
  rw [nils_flatten] at ho
  exact ⟨_, rfl, ho⟩


end Go.Am

/- The abstract machine, part 40: copy and clear at elements of many cells; slices.Delete and slices.Insert: from their runs to their contracts. -/
namespace Go.Am
set_option linter.unusedVariables false
set_option linter.unusedSimpArgs false
open Go.RowKit (Below)

section
variable {P : Program}

end

structure OwnAt (w : World) (t : Ty) (xs : List t.den) (b off cap : Nat) (cur : Array Value) (ty : TypeId) (fz : Nat × Nat) : Prop where
  wf : ∀ x ∈ xs, Wf t x
  len : xs.length ≤ cap
  capm : cap ≤ maxLen
  fit : off + cap * t.size ≤ cur.size
  blk : w.heap[b]? = some (.cells cur ty fz)
  free : FreeS t.size fz cur.size
  has : ∀ j u, (fcs t xs)[j]? = some u → cur[off + j]? = some u

theorem OwnAt.cell {w : World} {t : Ty} {xs : List t.den} {b off cap : Nat} {cur : Array Value} {ty : TypeId} {fz : Nat × Nat} (h : OwnAt w t xs b off cap cur ty fz) : ∀ j u, (fcs t xs)[j]? = some u → w.cell? ⟨b, off + j, none⟩ = some u := fun j u hj => by
  simp only [World.cell?, h.blk]
  exact h.has j u hj

theorem OwnAt.lt {w : World} {t : Ty} {xs : List t.den} {b off cap : Nat} {cur : Array Value} {ty : TypeId} {fz : Nat × Nat} (h : OwnAt w t xs b off cap cur ty fz) : b < w.heap.size := by
  rcases Nat.lt_or_ge b w.heap.size with h' | h'
  · exact h'
  · have := h.blk
    rw [Array.getElem?_eq_none h'] at this; cases this


end Go.Am

/- The abstract machine, part 41: slices.Insert of one element: from its runs to its contract. -/
namespace Go.Am
set_option linter.unusedVariables false
set_option linter.unusedSimpArgs false
open Go.RowKit (Below)

end Go.Am

/- The abstract machine, part 43: counts in a list. -/
namespace Go.Am
set_option linter.unusedVariables false

noncomputable def sel2 {α β : Type} (a : α) (b : β) (Q : α → β → Prop) : α × β :=
  @dite _ (∃ p : α × β, Q p.1 p.2) (Classical.propDecidable _) (fun h => Classical.choose h) (fun _ => (a, b))

theorem sel2_spec {α β : Type} {a : α} {b : β} {Q : α → β → Prop} {x : α} {y : β} (h : Q x y) : Q (sel2 a b Q).1 (sel2 a b Q).2 := by
  have hp : ∃ p : α × β, Q p.1 p.2 := ⟨(x, y), h⟩
  unfold sel2
  rw [dif_pos hp]
  exact Classical.choose_spec hp
end Go.Am

/- The abstract machine, part 47: runs whose conditions are read off their proofs. -/
namespace Go.Am
set_option linter.unusedVariables false
set_option linter.unusedSimpArgs false

def runCN (o : Option (List Item × Env × Heap × List Prop)) : Option (List Item × Env × Heap) × Prop :=
  match o with
  | some (k, E, L, cs) => (some (k, E, L), All cs)
  | none => (none, True)

def runCF (o : Option (List Dyn × List (Option Lst) × List Prop)) : Option (List Dyn × List (Option Lst)) × Prop :=
  match o with
  | some (ds, us, cs) => (some (ds, us), All cs)
  | none => (none, True)

theorem a1 {p q : Prop} (x : p) (y : q) : p ∧ q := ⟨x, y⟩

section
variable {P : Program} {f : FuncId} {R : Ending → World → Prop} {n : Nat} {K : Ctx} {E : Env} {L : Heap}

theorem AtV.go {tab : List TI} {ext : Ext} (hT : TabOk P tab) (hX : ExtOk P ext) (hm : P.follows .mixedOrders = true) (wr : Bool) (stops : List Nat) {q : Nat → Value} {pins : List Nat} (nils : List (Nat × Ty)) (ks : List Nat) (rs : List Nat) (path : List Bool) {k k' : List Item} {E' : Env} {L' : Heap} {C : Prop}
    (hc : C) (hk : AtV P f R n K q pins k' E' L') (h : runCN (Am.runN tab ext wr n stops 2000 pins nils ks rs path k E L) = (some (k', E', L'), C)) : AtV P f R n K q pins k E L := by
  cases hr : Am.runN tab ext wr n stops 2000 pins nils ks rs path k E L with
  | none => rw [hr] at h; cases h
  | some y =>
    obtain ⟨k1, E1, L1, cs⟩ := y
    rw [hr] at h
    cases h
    exact AtV.runN hT hX hm hr hc hk

theorem AtV.ret {fn : Func} (hf : P.funcs[f]? = some fn) {tab : List TI} {ext : Ext} (hT : TabOk P tab) (hX : ExtOk P ext) (hm : P.follows .mixedOrders = true) (wr : Bool) (stops : List Nat) {q : Nat → Value} {pins : List Nat} {oks : List AT} {kds : List RK} (ts : List Ty) (path : List Bool) {k : List Item} {ds : List Dyn} {us : List (Option Lst)} {C : Prop}
    (hc : C) (h : runCF (runF tab ext wr n stops 2000 pins oks kds ts fn.results path k E L) = (some (ds, us), C)) : AtV P f (PostR kds oks ds us pins q K) n K q pins k E L := by
  cases hr : runF tab ext wr n stops 2000 pins oks kds ts fn.results path k E L with
  | none => rw [hr] at h; cases h
  | some y =>
    obtain ⟨d1, u1, cs⟩ := y
    rw [hr] at h
    cases h
    exact AtV.fin hf hT hX hm hr hc
end
end Go.Am

/- The types of this program, as the abstract machine reads them. -/
set_option linter.unusedVariables false
set_option linter.unusedSimpArgs false
set_option maxRecDepth 100000
namespace Go.Proofs.YtpellcnihifdaaaGreatDoor
open Go Go.Am Go.Proofs
def tab : List TI := [TI.other,
  TI.scal (Ty.fn),
  TI.scal (Ty.int IntKind.i64),
  TI.scal (Ty.int IntKind.i64),
  TI.scal (Ty.bool),
  TI.scal (Ty.int IntKind.u8),
  TI.scal (Ty.int IntKind.u8),
  TI.struct (Ty.cons (Ty.int IntKind.i64) (Ty.cons (Ty.int IntKind.i64) (Ty.cons Ty.bool (Ty.cons (Ty.int IntKind.u8) Ty.unit)))),
  TI.struct (Ty.cons (Ty.int IntKind.i64) (Ty.cons (Ty.int IntKind.i64) (Ty.cons Ty.bool (Ty.cons (Ty.int IntKind.u8) Ty.unit)))),
  TI.scal (Ty.str),
  TI.scal (Ty.str),
  TI.scal (Ty.str),
  TI.scal (Ty.int IntKind.u64),
  TI.other,
  TI.other,
  TI.other,
  TI.other,
  TI.other,
  TI.other,
  TI.other,
  TI.other,
  TI.scal (Ty.int IntKind.i32),
  TI.slice 5 (Ty.int IntKind.u8) 1,
  TI.scal (Ty.fn),
  TI.slice 35 (Ty.cons Ty.str (Ty.cons (Ty.sl Ty.str) Ty.unit)) 40,
  TI.slice 43 (Ty.cons Ty.str (Ty.cons Ty.str (Ty.cons (Ty.int IntKind.i64) Ty.unit))) 40,
  TI.other,
  TI.scal (Ty.fn),
  TI.slice 9 (Ty.str) 16,
  TI.other,
  TI.scal (Ty.fn),
  TI.other,
  TI.scal (Ty.fn),
  TI.scal (Ty.fn),
  TI.struct (Ty.cons Ty.str (Ty.cons (Ty.sl Ty.str) Ty.unit)),
  TI.struct (Ty.cons Ty.str (Ty.cons (Ty.sl Ty.str) Ty.unit)),
  TI.scal (Ty.fn),
  TI.scal (Ty.fn),
  TI.other,
  TI.scal (Ty.fn),
  TI.other,
  TI.scal (Ty.fn),
  TI.struct (Ty.cons Ty.str (Ty.cons Ty.str (Ty.cons (Ty.int IntKind.i64) Ty.unit))),
  TI.struct (Ty.cons Ty.str (Ty.cons Ty.str (Ty.cons (Ty.int IntKind.i64) Ty.unit))),
  TI.other,
  TI.scal (Ty.fn),
  TI.scal (Ty.fn),
  TI.scal (Ty.fn),
  TI.other,
  TI.scal (Ty.fn),
  TI.other,
  TI.scal (Ty.fn),
  TI.scal (Ty.fn),
  TI.scal (Ty.fn),
  TI.scal (Ty.fn),
  TI.scal (Ty.fn),
  TI.scal (Ty.fn),
  TI.scal (Ty.fn),
  TI.scal (Ty.fn),
  TI.scal (Ty.fn),
  TI.scal (Ty.fn),
  TI.scal (Ty.fn),
  TI.scal (Ty.fn),
  TI.scal (Ty.fn),
  TI.scal (Ty.int IntKind.u64),
  TI.struct (Ty.cons (Ty.sl (Ty.int IntKind.u8)) (Ty.cons (Ty.int IntKind.i64) (Ty.cons (Ty.int IntKind.u64) Ty.unit))),
  TI.struct (Ty.cons (Ty.sl (Ty.int IntKind.u8)) (Ty.cons (Ty.int IntKind.i64) (Ty.cons (Ty.int IntKind.u64) Ty.unit))),
  TI.scal (Ty.fn),
  TI.scal (Ty.fn),
  TI.scal (Ty.fn),
  TI.scal (Ty.fn),
  TI.scal (Ty.fn),
  TI.slice 2 (Ty.int IntKind.i64) 8,
  TI.scal (Ty.fn),
  TI.scal (Ty.fn),
  TI.scal (Ty.fn),
  TI.scal (Ty.fn),
  TI.scal (Ty.fn),
  TI.scal (Ty.fn),
  TI.scal (Ty.fn),
  TI.scal (Ty.fn),
  TI.scal (Ty.fn),
  TI.scal (Ty.fn),
  TI.scal (Ty.fn),
  TI.scal (Ty.fn),
  TI.scal (Ty.fn),
  TI.scal (Ty.fn),
  TI.other,
  TI.scal (Ty.fn),
  TI.scal (Ty.fn),
  TI.scal (Ty.fn),
  TI.scal (Ty.fn),
  TI.scal (Ty.fn),
  TI.scal (Ty.fn),
  TI.scal (Ty.fn),
  TI.scal (Ty.fn),
  TI.scal (Ty.int IntKind.u64),
  TI.scal (Ty.fn),
  TI.scal (Ty.fn),
  TI.scal (Ty.fn),
  TI.scal (Ty.fn),
  TI.slice 3 (Ty.int IntKind.i64) 8,
  TI.scal (Ty.fn),
  TI.scal (Ty.int IntKind.i64),
  TI.other,
  TI.scal (Ty.fn),
  TI.scal (Ty.fn),
  TI.scal (Ty.fn),
  TI.scal (Ty.fn),
  TI.other,
  TI.scal (Ty.fn),
  TI.scal (Ty.fn),
  TI.scal (Ty.int IntKind.u32),
  TI.scal (Ty.fn),
  TI.scal (Ty.fn),
  TI.other,
  TI.scal (Ty.fn),
  TI.scal (Ty.fn),
  TI.slice 4 (Ty.bool) 1,
  TI.scal (Ty.fn),
  TI.scal (Ty.fn),
  TI.scal (Ty.int IntKind.u64),
  TI.scal (Ty.fn),
  TI.scal (Ty.fn),
  TI.scal (Ty.fn),
  TI.other,
  TI.scal (Ty.fn),
  TI.scal (Ty.fn),
  TI.other,
  TI.other,
  TI.scal (Ty.fn),
  TI.other,
  TI.struct (Ty.cons (Ty.int IntKind.u8) (Ty.cons (Ty.int IntKind.u8) Ty.unit)),
  TI.struct (Ty.cons (Ty.int IntKind.u8) (Ty.cons (Ty.int IntKind.u8) Ty.unit)),
  TI.other,
  TI.other,
  TI.scal (Ty.fn),
  TI.scal (Ty.fn),
  TI.other,
  TI.other,
  TI.other,
  TI.other,
  TI.other,
  TI.scal (Ty.fn),
  TI.scal (Ty.int IntKind.u8),
  TI.scal (Ty.int IntKind.u8),
  TI.scal (Ty.fn),
  TI.other,
  TI.scal (Ty.int IntKind.i32),
  TI.scal (Ty.int IntKind.i32)]

theorem tabOk : TabOk Tryz.prog tab := tabOk_of_check (by kernel_rfl)
theorem mixed : Tryz.prog.follows .mixedOrders = true := by kernel_rfl
theorem gv0 {W : World} (h : GInv W) : GHas W 0 (.int .i64) := h.1
theorem gcell0 (W : World) (h : W.ShapedOpen Tryz.prog) : ∃ m, W.cell? ⟨0, 0, none⟩ = some (.int .i64 m) :=
  Go.Proofs.cell_of_shapedOpen_int (zero := #[.int .i64 0]) (t := 3) h (of_decide_eq_true (by kernel_rfl)) (by kernel_rfl) rfl (by kernel_rfl) (by kernel_rfl) Tryz.underlying3
theorem maxLenG {W : World} (h : GInv W) : ∃ m, W.cell? ⟨0, 0, none⟩ = some (.int .i64 m) := gv0 h
theorem ginv (W : World) (h : W.ShapedOpen Tryz.prog)  : GInv W := ⟨gcell0 W h, trivial⟩
end Go.Proofs.YtpellcnihifdaaaGreatDoor

/- Function 4 (laws.b10Long): its runs between cut points. Written by a program of this repo (gen). -/
set_option linter.unusedVariables false
set_option linter.unusedSimpArgs false
set_option maxRecDepth 100000
namespace Go.Proofs.YtpellcnihifdaaaGreatDoor
open Go Go.Am Go.Proofs
noncomputable section
def ext4 : Ext := []
theorem ext4Ok : ExtOk Tryz.prog ext4 := trivial

noncomputable def b4 : Code := bodyOf Tryz.f4
theorem hb4 : Tryz.f4.body = some b4 := by kernel_rfl
def sig4 : List AT := [AT.v (Ty.sl (Ty.int IntKind.u8))]
def tys4 : List Ty := [Ty.bool]
def kds4 : List RK := []
def oks4 : List AT := owns sig4
def P4 (x0 : List Int) : Prop := True
def g4_0 (x0 : List Int) : Bool := Decidable.decide ((↑(List.length x0) : Int) > 1048576)
theorem at4 (x0 : List Int) (h : P4 x0) (K : Ctx) (q : Nat → Value) : AtV Tryz.prog 4 (PostR kds4 oks4 [⟨Ty.bool, g4_0 x0⟩] [] [] q K) 6 K q [] [.code b4] (entE 0 0 sig4 (x0, ())) (entL sig4 (x0, ())) := by
  unfold P4 at h
  unfold g4_0
  exact AtV.ret Tryz.func4 tabOk ext4Ok mixed false [] tys4 [] trivial (by kernel_rfl)

def S4 : Am.Spec := { sig := sig4, pre := fun ⟨x0, _⟩ => P4 x0, res := fun ⟨x0, _⟩ => [⟨Ty.bool, g4_0 x0⟩], kds := kds4 }
theorem con4 : Contract Tryz.prog 4 S4 := contract_of Tryz.func4 hb4 (Nat.le_of_ble_eq_true (by kernel_rfl)) (fun ⟨x0, _⟩ h _ K q => at4 x0 h K q)


end
end Go.Proofs.YtpellcnihifdaaaGreatDoor

/- Function 15 (spec.l00From): its runs between cut points. Written by a program of this repo (gen). -/
set_option linter.unusedVariables false
set_option linter.unusedSimpArgs false
set_option maxRecDepth 100000
namespace Go.Proofs.YtpellcnihifdaaaGreatDoor
open Go Go.Am Go.Proofs
noncomputable section
def ext15 : Ext := []
theorem ext15Ok : ExtOk Tryz.prog ext15 := trivial

noncomputable def b15 : Code := bodyOf Tryz.f15
theorem hb15 : Tryz.f15.body = some b15 := by kernel_rfl
def sig15 : List AT := [AT.v (Ty.sl (Ty.int IntKind.u8))]
def tys15 : List Ty := [Ty.cons (Ty.sl (Ty.int IntKind.u8)) (Ty.cons (Ty.int IntKind.i64) (Ty.cons (Ty.int IntKind.u64) Ty.unit))]
def kds15 : List RK := [.bx]
def oks15 : List AT := owns sig15
def P15 (x0 : List Int) : Prop := True
def g15_0 (x0 : List Int) : List Int × Int × Int × Unit := (x0, 0, 0, ())
theorem at15 (x0 : List Int) (h : P15 x0) (K : Ctx) (q : Nat → Value) : AtV Tryz.prog 15 (PostR kds15 oks15 [⟨Ty.cons (Ty.sl (Ty.int IntKind.u8)) (Ty.cons (Ty.int IntKind.i64) (Ty.cons (Ty.int IntKind.u64) Ty.unit)), g15_0 x0⟩] [] [] q K) 6 K q [] [.code b15] (entE 0 0 sig15 (x0, ())) (entL sig15 (x0, ())) := by
  unfold P15 at h
  unfold g15_0
  exact AtV.ret Tryz.func15 tabOk ext15Ok mixed false [] tys15 [] trivial (by kernel_rfl)

def S15 : Am.Spec := { sig := sig15, pre := fun ⟨x0, _⟩ => P15 x0, res := fun ⟨x0, _⟩ => [⟨Ty.cons (Ty.sl (Ty.int IntKind.u8)) (Ty.cons (Ty.int IntKind.i64) (Ty.cons (Ty.int IntKind.u64) Ty.unit)), g15_0 x0⟩], kds := kds15 }
theorem con15 : Contract Tryz.prog 15 S15 := contract_of Tryz.func15 hb15 (Nat.le_of_ble_eq_true (by kernel_rfl)) (fun ⟨x0, _⟩ h _ K q => at15 x0 h K q)


end
end Go.Proofs.YtpellcnihifdaaaGreatDoor

/- Function 53 ((*spec.l00Src).next): its runs between cut points. Written by a program of this repo (gen). -/
set_option linter.unusedVariables false
set_option linter.unusedSimpArgs false
set_option maxRecDepth 100000
namespace Go.Proofs.YtpellcnihifdaaaGreatDoor
open Go Go.Am Go.Proofs
noncomputable section
def ext53 : Ext := []
theorem ext53Ok : ExtOk Tryz.prog ext53 := trivial

noncomputable def b53 : Code := bodyOf Tryz.f53
theorem hb53 : Tryz.f53.body = some b53 := by kernel_rfl
def sig53 : List AT := [AT.pb (Ty.cons (Ty.sl (Ty.int IntKind.u8)) (Ty.cons (Ty.int IntKind.i64) (Ty.cons (Ty.int IntKind.u64) Ty.unit)))]
def tys53 : List Ty := [Ty.int IntKind.i64]
def kds53 : List RK := []
def oks53 : List AT := owns sig53
def P53 (x0 : List Int × Int × Int × Unit) : Prop := (if (Decidable.decide (Prod.fst (Prod.snd x0) < (↑(List.length (Prod.fst x0)) : Int))) = true then ((0 ≤ Prod.fst (Prod.snd x0)) ∧ (Prod.fst (Prod.snd x0) < (↑(List.length (Prod.fst x0)) : Int)) ∧ (if (Decidable.decide (IntKind.wrap IntKind.i64 (Prod.fst (Prod.snd x0) + 1) ≤ (↑(List.length (Prod.fst x0)) : Int))) = true then True else ((InR IntKind.u64 (Int.fdiv (IntKind.wrap IntKind.u64 (IntKind.wrap IntKind.u64 (IntKind.wrap IntKind.u64 (Prod.fst (Prod.snd (Prod.snd x0)) * 6364136223846793005) + IntKind.wrap IntKind.u64 (IntKind.wrap IntKind.i64 (List.getD (Prod.fst x0) (Int.toNat (Prod.fst (Prod.snd x0))) 0))) + 1442695040888963407)) 1099511627776)) ∧ True))) else (if (Decidable.decide (IntKind.wrap IntKind.i64 (Prod.fst (Prod.snd x0) + 1) ≤ (↑(List.length (Prod.fst x0)) : Int))) = true then True else ((InR IntKind.u64 (Int.fdiv (IntKind.wrap IntKind.u64 (IntKind.wrap IntKind.u64 (IntKind.wrap IntKind.u64 (Prod.fst (Prod.snd (Prod.snd x0)) * 6364136223846793005) + 0) + 1442695040888963407)) 1099511627776)) ∧ True)))
def g53_0 (x0 : List Int × Int × Int × Unit) : Int := (if (Decidable.decide (Prod.fst (Prod.snd x0) < (↑(List.length (Prod.fst x0)) : Int))) = true then (if (Decidable.decide (IntKind.wrap IntKind.i64 (Prod.fst (Prod.snd x0) + 1) ≤ (↑(List.length (Prod.fst x0)) : Int))) = true then IntKind.wrap IntKind.i64 (List.getD (Prod.fst x0) (Int.toNat (Prod.fst (Prod.snd x0))) 0) else IntKind.wrap IntKind.i64 (IntKind.wrap IntKind.u64 (↑(BitVec.toNat (BitVec.ofInt 64 (Int.fdiv (IntKind.wrap IntKind.u64 (IntKind.wrap IntKind.u64 (IntKind.wrap IntKind.u64 (Prod.fst (Prod.snd (Prod.snd x0)) * 6364136223846793005) + IntKind.wrap IntKind.u64 (IntKind.wrap IntKind.i64 (List.getD (Prod.fst x0) (Int.toNat (Prod.fst (Prod.snd x0))) 0))) + 1442695040888963407)) 1099511627776) &&& BitVec.ofInt 64 255)) : Int))) else (if (Decidable.decide (IntKind.wrap IntKind.i64 (Prod.fst (Prod.snd x0) + 1) ≤ (↑(List.length (Prod.fst x0)) : Int))) = true then 0 else IntKind.wrap IntKind.i64 (IntKind.wrap IntKind.u64 (↑(BitVec.toNat (BitVec.ofInt 64 (Int.fdiv (IntKind.wrap IntKind.u64 (IntKind.wrap IntKind.u64 (IntKind.wrap IntKind.u64 (Prod.fst (Prod.snd (Prod.snd x0)) * 6364136223846793005) + 0) + 1442695040888963407)) 1099511627776) &&& BitVec.ofInt 64 255)) : Int))))
def u53_0 (x0 : List Int × Int × Int × Unit) : List Int × Int × Int × Unit := (if (Decidable.decide (Prod.fst (Prod.snd x0) < (↑(List.length (Prod.fst x0)) : Int))) = true then (if (Decidable.decide (IntKind.wrap IntKind.i64 (Prod.fst (Prod.snd x0) + 1) ≤ (↑(List.length (Prod.fst x0)) : Int))) = true then (Prod.fst x0, IntKind.wrap IntKind.i64 (Prod.fst (Prod.snd x0) + 1), IntKind.wrap IntKind.u64 (IntKind.wrap IntKind.u64 (IntKind.wrap IntKind.u64 (Prod.fst (Prod.snd (Prod.snd x0)) * 6364136223846793005) + IntKind.wrap IntKind.u64 (IntKind.wrap IntKind.i64 (List.getD (Prod.fst x0) (Int.toNat (Prod.fst (Prod.snd x0))) 0))) + 1442695040888963407), ()) else (Prod.fst x0, IntKind.wrap IntKind.i64 (Prod.fst (Prod.snd x0) + 1), IntKind.wrap IntKind.u64 (IntKind.wrap IntKind.u64 (IntKind.wrap IntKind.u64 (Prod.fst (Prod.snd (Prod.snd x0)) * 6364136223846793005) + IntKind.wrap IntKind.u64 (IntKind.wrap IntKind.i64 (List.getD (Prod.fst x0) (Int.toNat (Prod.fst (Prod.snd x0))) 0))) + 1442695040888963407), ())) else (if (Decidable.decide (IntKind.wrap IntKind.i64 (Prod.fst (Prod.snd x0) + 1) ≤ (↑(List.length (Prod.fst x0)) : Int))) = true then (Prod.fst x0, IntKind.wrap IntKind.i64 (Prod.fst (Prod.snd x0) + 1), IntKind.wrap IntKind.u64 (IntKind.wrap IntKind.u64 (IntKind.wrap IntKind.u64 (Prod.fst (Prod.snd (Prod.snd x0)) * 6364136223846793005) + 0) + 1442695040888963407), ()) else (Prod.fst x0, IntKind.wrap IntKind.i64 (Prod.fst (Prod.snd x0) + 1), IntKind.wrap IntKind.u64 (IntKind.wrap IntKind.u64 (IntKind.wrap IntKind.u64 (Prod.fst (Prod.snd (Prod.snd x0)) * 6364136223846793005) + 0) + 1442695040888963407), ())))
theorem at53 (x0 : List Int × Int × Int × Unit) (h : P53 x0) (K : Ctx) (q : Nat → Value) : AtV Tryz.prog 53 (PostR kds53 oks53 [⟨Ty.int IntKind.i64, g53_0 x0⟩] [some ⟨Ty.cons (Ty.sl (Ty.int IntKind.u8)) (Ty.cons (Ty.int IntKind.i64) (Ty.cons (Ty.int IntKind.u64) Ty.unit)), [u53_0 x0]⟩] [0] q K) 62 K q [0] [.code b53] (entE 0 0 sig53 (x0, ())) (entL sig53 (x0, ())) := by
  unfold P53 at h
  unfold g53_0 u53_0
  by_cases b0 : (Decidable.decide (Prod.fst (Prod.snd x0) < (↑(List.length (Prod.fst x0)) : Int))) = true
  · try simp only [if_pos b0] at h ⊢
    obtain ⟨s0, s1, h⟩ := h
    by_cases b1 : (Decidable.decide (IntKind.wrap IntKind.i64 (Prod.fst (Prod.snd x0) + 1) ≤ (↑(List.length (Prod.fst x0)) : Int))) = true
    · try simp only [if_pos b1] at h ⊢
      exact AtV.weak (AtV.ret (us := [Option.some (Lst.mk (Ty.cons (Ty.sl (Ty.int IntKind.u8)) (Ty.cons (Ty.int IntKind.i64) (Ty.cons (Ty.int IntKind.u64) Ty.unit))) [(Prod.fst x0, IntKind.wrap IntKind.i64 (Prod.fst (Prod.snd x0) + 1), IntKind.wrap IntKind.u64 (IntKind.wrap IntKind.u64 (IntKind.wrap IntKind.u64 (Prod.fst (Prod.snd (Prod.snd x0)) * 6364136223846793005) + IntKind.wrap IntKind.u64 (IntKind.wrap IntKind.i64 (List.getD (Prod.fst x0) (Int.toNat (Prod.fst (Prod.snd x0))) 0))) + 1442695040888963407), ())])]) Tryz.func53 tabOk ext53Ok mixed true [] tys53 [true, true] (a1 b0 (a1 s0 (a1 s1 (a1 b1 trivial)))) (by kernel_rfl)) ⟨.inl rfl, trivial⟩
    · try simp only [if_neg b1] at h ⊢
      replace b1 := Bool.eq_false_iff.2 b1
      obtain ⟨s2, h⟩ := h
      exact AtV.weak (AtV.ret (us := [Option.some (Lst.mk (Ty.cons (Ty.sl (Ty.int IntKind.u8)) (Ty.cons (Ty.int IntKind.i64) (Ty.cons (Ty.int IntKind.u64) Ty.unit))) [(Prod.fst x0, IntKind.wrap IntKind.i64 (Prod.fst (Prod.snd x0) + 1), IntKind.wrap IntKind.u64 (IntKind.wrap IntKind.u64 (IntKind.wrap IntKind.u64 (Prod.fst (Prod.snd (Prod.snd x0)) * 6364136223846793005) + IntKind.wrap IntKind.u64 (IntKind.wrap IntKind.i64 (List.getD (Prod.fst x0) (Int.toNat (Prod.fst (Prod.snd x0))) 0))) + 1442695040888963407), ())])]) Tryz.func53 tabOk ext53Ok mixed true [] tys53 [true, false] (a1 b0 (a1 s0 (a1 s1 (a1 b1 (a1 ((by decide) : (0 : Int) ≤ (40 : Int)) (a1 s2 trivial)))))) (by kernel_rfl)) ⟨.inl rfl, trivial⟩
  · try simp only [if_neg b0] at h ⊢
    replace b0 := Bool.eq_false_iff.2 b0
    by_cases b1 : (Decidable.decide (IntKind.wrap IntKind.i64 (Prod.fst (Prod.snd x0) + 1) ≤ (↑(List.length (Prod.fst x0)) : Int))) = true
    · try simp only [if_pos b1] at h ⊢
      exact AtV.weak (AtV.ret (us := [Option.some (Lst.mk (Ty.cons (Ty.sl (Ty.int IntKind.u8)) (Ty.cons (Ty.int IntKind.i64) (Ty.cons (Ty.int IntKind.u64) Ty.unit))) [(Prod.fst x0, IntKind.wrap IntKind.i64 (Prod.fst (Prod.snd x0) + 1), IntKind.wrap IntKind.u64 (IntKind.wrap IntKind.u64 (IntKind.wrap IntKind.u64 (Prod.fst (Prod.snd (Prod.snd x0)) * 6364136223846793005) + 0) + 1442695040888963407), ())])]) Tryz.func53 tabOk ext53Ok mixed true [] tys53 [false, true] (a1 b0 (a1 b1 trivial)) (by kernel_rfl)) ⟨.inl rfl, trivial⟩
    · try simp only [if_neg b1] at h ⊢
      replace b1 := Bool.eq_false_iff.2 b1
      obtain ⟨s0, h⟩ := h
      exact AtV.weak (AtV.ret (us := [Option.some (Lst.mk (Ty.cons (Ty.sl (Ty.int IntKind.u8)) (Ty.cons (Ty.int IntKind.i64) (Ty.cons (Ty.int IntKind.u64) Ty.unit))) [(Prod.fst x0, IntKind.wrap IntKind.i64 (Prod.fst (Prod.snd x0) + 1), IntKind.wrap IntKind.u64 (IntKind.wrap IntKind.u64 (IntKind.wrap IntKind.u64 (Prod.fst (Prod.snd (Prod.snd x0)) * 6364136223846793005) + 0) + 1442695040888963407), ())])]) Tryz.func53 tabOk ext53Ok mixed true [] tys53 [false, false] (a1 b0 (a1 b1 (a1 ((by decide) : (0 : Int) ≤ (40 : Int)) (a1 s0 trivial)))) (by kernel_rfl)) ⟨.inl rfl, trivial⟩

def S53 : Am.Spec := { sig := sig53, pre := fun ⟨x0, _⟩ => P53 x0, upd := fun ⟨x0, _⟩ => [some ⟨Ty.cons (Ty.sl (Ty.int IntKind.u8)) (Ty.cons (Ty.int IntKind.i64) (Ty.cons (Ty.int IntKind.u64) Ty.unit)), [u53_0 x0]⟩], res := fun ⟨x0, _⟩ => [⟨Ty.int IntKind.i64, g53_0 x0⟩], kds := kds53 }
theorem con53 : Contract Tryz.prog 53 S53 := contract_of Tryz.func53 hb53 (Nat.le_of_ble_eq_true (by kernel_rfl)) (fun ⟨x0, _⟩ h _ K q => at53 x0 h K q)


end
end Go.Proofs.YtpellcnihifdaaaGreatDoor

/- Function 33 ((*spec.l00Src).pick): its runs between cut points. Written by a program of this repo (gen). -/
set_option linter.unusedVariables false
set_option linter.unusedSimpArgs false
set_option maxRecDepth 100000
namespace Go.Proofs.YtpellcnihifdaaaGreatDoor
open Go Go.Am Go.Proofs
noncomputable section
def ext33 : Ext := [(53, S53)]
theorem call33_53 : Callable Tryz.prog 53 := ⟨Tryz.f53, Tryz.func53, by kernel_rfl, by kernel_rfl⟩
theorem ext33Ok : ExtOk Tryz.prog ext33 := ⟨⟨call33_53, con53⟩, trivial⟩

noncomputable def b33 : Code := bodyOf Tryz.f33
theorem hb33 : Tryz.f33.body = some b33 := by kernel_rfl
def sig33 : List AT := [AT.pb (Ty.cons (Ty.sl (Ty.int IntKind.u8)) (Ty.cons (Ty.int IntKind.i64) (Ty.cons (Ty.int IntKind.u64) Ty.unit))), AT.v (Ty.int IntKind.i64)]
def tys33 : List Ty := [Ty.int IntKind.i64]
def kds33 : List RK := []
def oks33 : List AT := owns sig33
def P33 (x0 : List Int × Int × Int × Unit) (x1 : Int) : Prop := (if (Decidable.decide (x1 ≤ 1)) = true then True else ((P53 x0) ∧ (if (Decidable.decide (x1 > 200)) = true then ((InR IntKind.i64 (g53_0 x0 * 256)) ∧ ((P53 (u53_0 x0)) ∧ ((InR IntKind.i64 (g53_0 x0 * 256 + g53_0 (u53_0 x0))) ∧ ((x1 ≠ 0) ∧ (InR IntKind.i64 (Int.tmod (g53_0 x0 * 256 + g53_0 (u53_0 x0)) x1)) ∧ True)))) else ((x1 ≠ 0) ∧ (InR IntKind.i64 (Int.tmod (g53_0 x0) x1)) ∧ True))))
def g33_0 (x0 : List Int × Int × Int × Unit) (x1 : Int) : Int := (if (Decidable.decide (x1 ≤ 1)) = true then 0 else (if (Decidable.decide (x1 > 200)) = true then Int.tmod (g53_0 x0 * 256 + g53_0 (u53_0 x0)) x1 else Int.tmod (g53_0 x0) x1))
def u33_0 (x0 : List Int × Int × Int × Unit) (x1 : Int) : List Int × Int × Int × Unit := (if (Decidable.decide (x1 ≤ 1)) = true then x0 else (if (Decidable.decide (x1 > 200)) = true then u53_0 (u53_0 x0) else u53_0 x0))
theorem at33 (x0 : List Int × Int × Int × Unit) (x1 : Int) (h : P33 x0 x1) (K : Ctx) (q : Nat → Value) : AtV Tryz.prog 33 (PostR kds33 oks33 [⟨Ty.int IntKind.i64, g33_0 x0 x1⟩] [some ⟨Ty.cons (Ty.sl (Ty.int IntKind.u8)) (Ty.cons (Ty.int IntKind.i64) (Ty.cons (Ty.int IntKind.u64) Ty.unit)), [u33_0 x0 x1]⟩] [0] q K) 20 K q [0] [.code b33] (entE 0 0 sig33 (x0, x1, ())) (entL sig33 (x0, x1, ())) := by
  unfold P33 at h
  unfold g33_0 u33_0
  by_cases b0 : (Decidable.decide (x1 ≤ 1)) = true
  · try simp only [if_pos b0] at h ⊢
    exact AtV.weak (AtV.ret (us := [Option.some (Lst.mk (Ty.cons (Ty.sl (Ty.int IntKind.u8)) (Ty.cons (Ty.int IntKind.i64) (Ty.cons (Ty.int IntKind.u64) Ty.unit))) [x0])]) Tryz.func33 tabOk ext33Ok mixed false [] tys33 [true] (a1 b0 trivial) (by kernel_rfl)) ⟨.inl rfl, trivial⟩
  · try simp only [if_neg b0] at h ⊢
    replace b0 := Bool.eq_false_iff.2 b0
    obtain ⟨s0, h⟩ := h
    by_cases b1 : (Decidable.decide (x1 > 200)) = true
    · try simp only [if_pos b1] at h ⊢
      obtain ⟨s1, h⟩ := h
      obtain ⟨s2, h⟩ := h
      obtain ⟨s3, h⟩ := h
      obtain ⟨s4, s5, h⟩ := h
      exact AtV.weak (AtV.ret (us := [Option.some (Lst.mk (Ty.cons (Ty.sl (Ty.int IntKind.u8)) (Ty.cons (Ty.int IntKind.i64) (Ty.cons (Ty.int IntKind.u64) Ty.unit))) [u53_0 (u53_0 x0)])]) Tryz.func33 tabOk ext33Ok mixed false [] tys33 [false, true] (a1 b0 (a1 s0 (a1 b1 (a1 s1 (a1 s2 (a1 s3 (a1 s4 (a1 s5 trivial)))))))) (by kernel_rfl)) ⟨.inl rfl, trivial⟩
    · try simp only [if_neg b1] at h ⊢
      replace b1 := Bool.eq_false_iff.2 b1
      obtain ⟨s1, s2, h⟩ := h
      exact AtV.weak (AtV.ret (us := [Option.some (Lst.mk (Ty.cons (Ty.sl (Ty.int IntKind.u8)) (Ty.cons (Ty.int IntKind.i64) (Ty.cons (Ty.int IntKind.u64) Ty.unit))) [u53_0 x0])]) Tryz.func33 tabOk ext33Ok mixed false [] tys33 [false, false] (a1 b0 (a1 s0 (a1 b1 (a1 s1 (a1 s2 trivial))))) (by kernel_rfl)) ⟨.inl rfl, trivial⟩

def S33 : Am.Spec := { sig := sig33, pre := fun ⟨x0, x1, _⟩ => P33 x0 x1, upd := fun ⟨x0, x1, _⟩ => [some ⟨Ty.cons (Ty.sl (Ty.int IntKind.u8)) (Ty.cons (Ty.int IntKind.i64) (Ty.cons (Ty.int IntKind.u64) Ty.unit)), [u33_0 x0 x1]⟩], res := fun ⟨x0, x1, _⟩ => [⟨Ty.int IntKind.i64, g33_0 x0 x1⟩], kds := kds33 }
theorem con33 : Contract Tryz.prog 33 S33 := contract_of Tryz.func33 hb33 (Nat.le_of_ble_eq_true (by kernel_rfl)) (fun ⟨x0, x1, _⟩ h _ K q => at33 x0 x1 h K q)


end
end Go.Proofs.YtpellcnihifdaaaGreatDoor

/- Function 52 ((*spec.l00Src).one): its runs between cut points. Written by a program of this repo (gen). -/
set_option linter.unusedVariables false
set_option linter.unusedSimpArgs false
set_option maxRecDepth 100000
namespace Go.Proofs.YtpellcnihifdaaaGreatDoor
open Go Go.Am Go.Proofs
noncomputable section
def ext52 : Ext := [(33, S33)]
theorem call52_33 : Callable Tryz.prog 33 := ⟨Tryz.f33, Tryz.func33, by kernel_rfl, by kernel_rfl⟩
theorem ext52Ok : ExtOk Tryz.prog ext52 := ⟨⟨call52_33, con33⟩, trivial⟩

noncomputable def b52 : Code := bodyOf Tryz.f52
theorem hb52 : Tryz.f52.body = some b52 := by kernel_rfl
def sig52 : List AT := [AT.pb (Ty.cons (Ty.sl (Ty.int IntKind.u8)) (Ty.cons (Ty.int IntKind.i64) (Ty.cons (Ty.int IntKind.u64) Ty.unit))), AT.v (Ty.int IntKind.i64)]
def tys52 : List Ty := [Ty.bool]
def kds52 : List RK := []
def oks52 : List AT := owns sig52
def P52 (x0 : List Int × Int × Int × Unit) (x1 : Int) : Prop := ((P33 x0 x1) ∧ True)
def g52_0 (x0 : List Int × Int × Int × Unit) (x1 : Int) : Bool := g33_0 x0 x1 == 0
def u52_0 (x0 : List Int × Int × Int × Unit) (x1 : Int) : List Int × Int × Int × Unit := u33_0 x0 x1
theorem at52 (x0 : List Int × Int × Int × Unit) (x1 : Int) (h : P52 x0 x1) (K : Ctx) (q : Nat → Value) : AtV Tryz.prog 52 (PostR kds52 oks52 [⟨Ty.bool, g52_0 x0 x1⟩] [some ⟨Ty.cons (Ty.sl (Ty.int IntKind.u8)) (Ty.cons (Ty.int IntKind.i64) (Ty.cons (Ty.int IntKind.u64) Ty.unit)), [u52_0 x0 x1]⟩] [0] q K) 9 K q [0] [.code b52] (entE 0 0 sig52 (x0, x1, ())) (entL sig52 (x0, x1, ())) := by
  unfold P52 at h
  unfold g52_0 u52_0
  obtain ⟨s0, h⟩ := h
  exact AtV.weak (AtV.ret (us := [Option.some (Lst.mk (Ty.cons (Ty.sl (Ty.int IntKind.u8)) (Ty.cons (Ty.int IntKind.i64) (Ty.cons (Ty.int IntKind.u64) Ty.unit))) [u33_0 x0 x1])]) Tryz.func52 tabOk ext52Ok mixed false [] tys52 [] (a1 s0 trivial) (by kernel_rfl)) ⟨.inl rfl, trivial⟩

def S52 : Am.Spec := { sig := sig52, pre := fun ⟨x0, x1, _⟩ => P52 x0 x1, upd := fun ⟨x0, x1, _⟩ => [some ⟨Ty.cons (Ty.sl (Ty.int IntKind.u8)) (Ty.cons (Ty.int IntKind.i64) (Ty.cons (Ty.int IntKind.u64) Ty.unit)), [u52_0 x0 x1]⟩], res := fun ⟨x0, x1, _⟩ => [⟨Ty.bool, g52_0 x0 x1⟩], kds := kds52 }
theorem con52 : Contract Tryz.prog 52 S52 := contract_of Tryz.func52 hb52 (Nat.le_of_ble_eq_true (by kernel_rfl)) (fun ⟨x0, x1, _⟩ h _ K q => at52 x0 x1 h K q)


end
end Go.Proofs.YtpellcnihifdaaaGreatDoor

/- Function 36 ((*spec.l00Src).among): its runs between cut points. Written by a program of this repo (gen). -/
set_option linter.unusedVariables false
set_option linter.unusedSimpArgs false
set_option maxRecDepth 100000
namespace Go.Proofs.YtpellcnihifdaaaGreatDoor
open Go Go.Am Go.Proofs
noncomputable section
def ext36 : Ext := [(33, S33)]
theorem call36_33 : Callable Tryz.prog 33 := ⟨Tryz.f33, Tryz.func33, by kernel_rfl, by kernel_rfl⟩
theorem ext36Ok : ExtOk Tryz.prog ext36 := ⟨⟨call36_33, con33⟩, trivial⟩

noncomputable def b36 : Code := bodyOf Tryz.f36
theorem hb36 : Tryz.f36.body = some b36 := by kernel_rfl
def sig36 : List AT := [AT.pb (Ty.cons (Ty.sl (Ty.int IntKind.u8)) (Ty.cons (Ty.int IntKind.i64) (Ty.cons (Ty.int IntKind.u64) Ty.unit))), AT.v (Ty.sl (Ty.int IntKind.i64))]
def tys36 : List Ty := [Ty.int IntKind.i64]
def kds36 : List RK := []
def oks36 : List AT := owns sig36
def P36 (x0 : List Int × Int × Int × Unit) (x1 : List Int) : Prop := ((P33 x0 (↑(List.length x1) : Int)) ∧ ((0 ≤ g33_0 x0 (↑(List.length x1) : Int)) ∧ (g33_0 x0 (↑(List.length x1) : Int) < (↑(List.length x1) : Int)) ∧ True))
def g36_0 (x0 : List Int × Int × Int × Unit) (x1 : List Int) : Int := List.getD x1 (Int.toNat (g33_0 x0 (↑(List.length x1) : Int))) 0
def u36_0 (x0 : List Int × Int × Int × Unit) (x1 : List Int) : List Int × Int × Int × Unit := u33_0 x0 (↑(List.length x1) : Int)
theorem at36 (x0 : List Int × Int × Int × Unit) (x1 : List Int) (h : P36 x0 x1) (K : Ctx) (q : Nat → Value) : AtV Tryz.prog 36 (PostR kds36 oks36 [⟨Ty.int IntKind.i64, g36_0 x0 x1⟩] [some ⟨Ty.cons (Ty.sl (Ty.int IntKind.u8)) (Ty.cons (Ty.int IntKind.i64) (Ty.cons (Ty.int IntKind.u64) Ty.unit)), [u36_0 x0 x1]⟩] [0] q K) 12 K q [0] [.code b36] (entE 0 0 sig36 (x0, x1, ())) (entL sig36 (x0, x1, ())) := by
  unfold P36 at h
  unfold g36_0 u36_0
  obtain ⟨s0, h⟩ := h
  obtain ⟨s1, s2, h⟩ := h
  exact AtV.weak (AtV.ret (us := [Option.some (Lst.mk (Ty.cons (Ty.sl (Ty.int IntKind.u8)) (Ty.cons (Ty.int IntKind.i64) (Ty.cons (Ty.int IntKind.u64) Ty.unit))) [u33_0 x0 (↑(List.length x1) : Int)])]) Tryz.func36 tabOk ext36Ok mixed false [] tys36 [] (a1 s0 (a1 s1 (a1 s2 trivial))) (by kernel_rfl)) ⟨.inl rfl, trivial⟩

def S36 : Am.Spec := { sig := sig36, pre := fun ⟨x0, x1, _⟩ => P36 x0 x1, upd := fun ⟨x0, x1, _⟩ => [some ⟨Ty.cons (Ty.sl (Ty.int IntKind.u8)) (Ty.cons (Ty.int IntKind.i64) (Ty.cons (Ty.int IntKind.u64) Ty.unit)), [u36_0 x0 x1]⟩], res := fun ⟨x0, x1, _⟩ => [⟨Ty.int IntKind.i64, g36_0 x0 x1⟩], kds := kds36 }
theorem con36 : Contract Tryz.prog 36 S36 := contract_of Tryz.func36 hb36 (Nat.le_of_ble_eq_true (by kernel_rfl)) (fun ⟨x0, x1, _⟩ h _ K q => at36 x0 x1 h K q)


end
end Go.Proofs.YtpellcnihifdaaaGreatDoor

/- Function 37 ((*spec.l00Src).text): its runs between cut points. Written by a program of this repo (gen). -/
set_option linter.unusedVariables false
set_option linter.unusedSimpArgs false
set_option maxRecDepth 100000
namespace Go.Proofs.YtpellcnihifdaaaGreatDoor
open Go Go.Am Go.Proofs
noncomputable section
def ext37 : Ext := [(33, S33)]
theorem call37_33 : Callable Tryz.prog 33 := ⟨Tryz.f33, Tryz.func33, by kernel_rfl, by kernel_rfl⟩
theorem ext37Ok : ExtOk Tryz.prog ext37 := ⟨⟨call37_33, con33⟩, trivial⟩

noncomputable def b37 : Code := bodyOf Tryz.f37
theorem hb37 : Tryz.f37.body = some b37 := by kernel_rfl
def sig37 : List AT := [AT.pb (Ty.cons (Ty.sl (Ty.int IntKind.u8)) (Ty.cons (Ty.int IntKind.i64) (Ty.cons (Ty.int IntKind.u64) Ty.unit))), AT.v (Ty.sl Ty.str)]
def tys37 : List Ty := [Ty.str]
def kds37 : List RK := []
def oks37 : List AT := owns sig37
def P37 (x0 : List Int × Int × Int × Unit) (x1 : List ByteArray) : Prop := ((P33 x0 (↑(List.length x1) : Int)) ∧ ((0 ≤ g33_0 x0 (↑(List.length x1) : Int)) ∧ (g33_0 x0 (↑(List.length x1) : Int) < (↑(List.length x1) : Int)) ∧ True))
def g37_0 (x0 : List Int × Int × Int × Unit) (x1 : List ByteArray) : ByteArray := List.getD x1 (Int.toNat (g33_0 x0 (↑(List.length x1) : Int))) ByteArray.empty
def u37_0 (x0 : List Int × Int × Int × Unit) (x1 : List ByteArray) : List Int × Int × Int × Unit := u33_0 x0 (↑(List.length x1) : Int)
theorem at37 (x0 : List Int × Int × Int × Unit) (x1 : List ByteArray) (h : P37 x0 x1) (K : Ctx) (q : Nat → Value) : AtV Tryz.prog 37 (PostR kds37 oks37 [⟨Ty.str, g37_0 x0 x1⟩] [some ⟨Ty.cons (Ty.sl (Ty.int IntKind.u8)) (Ty.cons (Ty.int IntKind.i64) (Ty.cons (Ty.int IntKind.u64) Ty.unit)), [u37_0 x0 x1]⟩] [0] q K) 12 K q [0] [.code b37] (entE 0 0 sig37 (x0, x1, ())) (entL sig37 (x0, x1, ())) := by
  unfold P37 at h
  unfold g37_0 u37_0
  obtain ⟨s0, h⟩ := h
  obtain ⟨s1, s2, h⟩ := h
  exact AtV.weak (AtV.ret (us := [Option.some (Lst.mk (Ty.cons (Ty.sl (Ty.int IntKind.u8)) (Ty.cons (Ty.int IntKind.i64) (Ty.cons (Ty.int IntKind.u64) Ty.unit))) [u33_0 x0 (↑(List.length x1) : Int)])]) Tryz.func37 tabOk ext37Ok mixed false [] tys37 [] (a1 s0 (a1 s1 (a1 s2 trivial))) (by kernel_rfl)) ⟨.inl rfl, trivial⟩

def S37 : Am.Spec := { sig := sig37, pre := fun ⟨x0, x1, _⟩ => P37 x0 x1, upd := fun ⟨x0, x1, _⟩ => [some ⟨Ty.cons (Ty.sl (Ty.int IntKind.u8)) (Ty.cons (Ty.int IntKind.i64) (Ty.cons (Ty.int IntKind.u64) Ty.unit)), [u37_0 x0 x1]⟩], res := fun ⟨x0, x1, _⟩ => [⟨Ty.str, g37_0 x0 x1⟩], kds := kds37 }
theorem con37 : Contract Tryz.prog 37 S37 := contract_of Tryz.func37 hb37 (Nat.le_of_ble_eq_true (by kernel_rfl)) (fun ⟨x0, x1, _⟩ h _ K q => at37 x0 x1 h K q)


end
end Go.Proofs.YtpellcnihifdaaaGreatDoor

/- A law that says how functions of the program and of the specification hang together. -/
set_option linter.unusedVariables false
set_option linter.unusedSimpArgs false
set_option maxRecDepth 100000
namespace Go.Proofs.YtpellcnihifdaaaGreatDoor
open Go Go.Am Go.Proofs

def SrcOk (n : Int) (s : List Int × Int × Int × Unit) : Prop := (∀ b ∈ s.1, 0 ≤ b ∧ b ≤ 255) ∧ 0 ≤ s.2.1 ∧ s.2.1 ≤ n

theorem SrcOk.up {n m : Int} {s : List Int × Int × Int × Unit} (h : SrcOk n s) (hm : n ≤ m) : SrcOk m s := ⟨h.1, h.2.1, Int.le_trans h.2.2 hm⟩

theorem src_start {x : List Int} (hw : Wf (.sl (.int .u8)) x) : SrcOk 0 (x, 0, 0, ()) := by
  refine ⟨fun b hb => ?_, Int.le_refl _, Int.le_refl _⟩
  have := hw.2 b hb
  exact (u8_iff b).1 this

theorem wrap_small {n : Int} (h1 : -9223372036854775808 ≤ n) (h2 : n ≤ 9223372036854775807) : IntKind.wrap .i64 n = n := wrap_of_inR ((i64_iff n).2 ⟨h1, h2⟩)

theorem src_u64 (n : Int) : InR .u64 n ↔ 0 ≤ n ∧ n ≤ 18446744073709551615 := by
  have e1 : (IntKind.u64).min = 0 := by decide
  have e2 : (IntKind.u64).max = 18446744073709551615 := by decide
  simp only [InR, e1, e2]

theorem seed_in (z : Int) : InR .u64 (Int.fdiv (IntKind.wrap .u64 z) 1099511627776) := by
  have h := (src_u64 _).1 (wrap_inR .u64 z)
  rw [src_u64, Int.fdiv_eq_ediv_of_nonneg _ (by decide)]
  omega

theorem low_byte (z : Int) : 0 ≤ IntKind.wrap .i64 (IntKind.wrap .u64 ((BitVec.toNat (BitVec.ofInt 64 z &&& BitVec.ofInt 64 255) : Nat) : Int)) ∧ IntKind.wrap .i64 (IntKind.wrap .u64 ((BitVec.toNat (BitVec.ofInt 64 z &&& BitVec.ofInt 64 255) : Nat) : Int)) ≤ 255 := by
  have h : BitVec.toNat (BitVec.ofInt 64 z &&& BitVec.ofInt 64 255) ≤ 255 := by
    rw [BitVec.toNat_and]
    exact Nat.le_trans Nat.and_le_right (by decide)
  have e : IntKind.wrap .u64 ((BitVec.toNat (BitVec.ofInt 64 z &&& BitVec.ofInt 64 255) : Nat) : Int) = ((BitVec.toNat (BitVec.ofInt 64 z &&& BitVec.ofInt 64 255) : Nat) : Int) := wrap_of_inR ((src_u64 _).2 (by omega))
  rw [e, wrap_small (by omega) (by omega)]
  omega

theorem next_ok {n : Int} {s : List Int × Int × Int × Unit} (h : SrcOk n s) (hn : n ≤ 4611686018427387904) :
    P53 s ∧ SrcOk (n + 1) (u53_0 s) ∧ 0 ≤ g53_0 s ∧ g53_0 s ≤ 255 := by
  obtain ⟨h1, h2, h3⟩ := h
  have e : IntKind.wrap .i64 (s.2.1 + 1) = s.2.1 + 1 := wrap_small (by omega) (by omega)
  unfold P53 u53_0 g53_0 SrcOk
  by_cases hc : s.2.1 < (s.1.length : Int)
  · have hb := h1 _ (mem_getD s.1 s.2.1.toNat 0 (by omega))
    have eb : IntKind.wrap .i64 (s.1.getD s.2.1.toNat 0) = s.1.getD s.2.1.toNat 0 := wrap_small (by omega) (by omega)
    by_cases hd : s.2.1 + 1 ≤ (s.1.length : Int)
    · simp only [hc, e, hd, decide_true, if_true, eb]
      exact ⟨⟨h2, trivial, trivial⟩, ⟨h1, by omega, by omega⟩, hb⟩
    · omega
  · by_cases hd : s.2.1 + 1 ≤ (s.1.length : Int)
    · omega
    · simp only [hc, e, hd, decide_false, Bool.false_eq_true, if_false]
      exact ⟨⟨seed_in _, trivial⟩, ⟨h1, by omega, by omega⟩, low_byte _⟩

theorem tmod_in {x m : Int} (hx : 0 ≤ x) (hx2 : x ≤ 65535) (hm : 1 ≤ m) : InR .i64 (Int.tmod x m) ∧ 0 ≤ Int.tmod x m ∧ Int.tmod x m < m := by
  rw [Int.tmod_eq_emod_of_nonneg hx, i64_iff]
  have h1 := Int.emod_nonneg x (show m ≠ 0 by omega)
  have h2 := Int.emod_lt_of_pos x (show 0 < m by omega)
  have h3 : x % m ≤ x := by
    rcases Int.lt_or_le x m with h | h
    · rw [Int.emod_eq_of_lt hx h]; exact Int.le_refl _
    · omega
  exact ⟨⟨by omega, by omega⟩, h1, h2⟩

theorem pick_ok {n : Int} {s : List Int × Int × Int × Unit} (h : SrcOk n s) (m : Int) (hn : n ≤ 4611686018427387902) :
    P33 s m ∧ SrcOk (n + 2) (u33_0 s m) ∧ 0 ≤ g33_0 s m ∧ (1 ≤ m → g33_0 s m < m) ∧ (m ≤ 1 → g33_0 s m = 0) := by
  obtain ⟨p1, s1, a1, b1⟩ := next_ok h (by omega)
  obtain ⟨p2, s2, a2, b2⟩ := next_ok s1 (by omega)
  unfold P33 u33_0 g33_0
  by_cases hm : m ≤ 1
  · simp only [hm, decide_true, if_true]
    exact ⟨trivial, h.up (by omega), by omega, fun _ => by omega, by first | trivial | exact fun _ => rfl⟩
  · by_cases hb : m > 200
    · simp only [hm, hb, decide_true, decide_false, Bool.false_eq_true, if_true, if_false]
      obtain ⟨t1, t2, t3⟩ := tmod_in (x := g53_0 s * 256 + g53_0 (u53_0 s)) (m := m) (by omega) (by omega) (by omega)
      exact ⟨⟨p1, by rw [i64_iff]; omega, p2, by rw [i64_iff]; omega, by omega, t1, trivial⟩, s2.up (by omega), t2, fun _ => t3, by first | trivial | exact fun h => absurd h (by simp)⟩
    · simp only [hm, hb, decide_true, decide_false, Bool.false_eq_true, if_true, if_false]
      obtain ⟨t1, t2, t3⟩ := tmod_in (x := g53_0 s) (m := m) a1 (by omega) (by omega)
      exact ⟨⟨p1, by omega, t1, trivial⟩, s1.up (by omega), t2, fun _ => t3, by first | trivial | exact fun h => absurd h (by simp)⟩

end Go.Proofs.YtpellcnihifdaaaGreatDoor

/- A law that says how functions of the program and of the specification hang together. -/
set_option linter.unusedVariables false
set_option linter.unusedSimpArgs false
set_option maxRecDepth 100000
namespace Go.Proofs.YtpellcnihifdaaaGreatDoor
open Go Go.Am Go.Proofs

theorem SrcOk.self {n : Int} {s : (List Int × Int × Int × Unit)} (h : SrcOk n s) : SrcOk s.2.1 s := ⟨h.1, h.2.1, Int.le_refl _⟩
theorem SrcOk.at_le {n : Int} {s : (List Int × Int × Int × Unit)} (h : SrcOk n s) : s.2.1 ≤ n := h.2.2

theorem text_ok {n : Int} {s : (List Int × Int × Int × Unit)} (h : SrcOk n s) (l : List ByteArray) (hl : 1 ≤ l.length) (hn : n ≤ 4611686018427387902) :
    P37 s l ∧ SrcOk (n + 2) (u37_0 s l) ∧ g37_0 s l ∈ l := by
  obtain ⟨p, s1, a, b, _⟩ := pick_ok h (l.length : Int) hn
  have b := b (by omega)
  exact ⟨⟨p, a, b, trivial⟩, s1, mem_getD l _ ByteArray.empty (by omega)⟩

end Go.Proofs.YtpellcnihifdaaaGreatDoor

/- A law that says how functions of the program and of the specification hang together. -/
set_option linter.unusedVariables false
set_option linter.unusedSimpArgs false
set_option maxRecDepth 100000
namespace Go.Proofs.YtpellcnihifdaaaGreatDoor
open Go Go.Am Go.Proofs

theorem one_ok {n : Int} {s : List Int × Int × Int × Unit} (h : SrcOk n s) (m : Int) (hn : n ≤ 4611686018427387902) :
    P52 s m ∧ SrcOk (n + 2) (u52_0 s m) := by
  obtain ⟨p, s1, _⟩ := pick_ok h m hn
  exact ⟨⟨p, trivial⟩, s1⟩

end Go.Proofs.YtpellcnihifdaaaGreatDoor

/- A law that says how functions of the program and of the specification hang together. -/
set_option linter.unusedVariables false
set_option linter.unusedSimpArgs false
set_option maxRecDepth 100000
namespace Go.Proofs.YtpellcnihifdaaaGreatDoor
open Go Go.Am Go.Proofs

theorem among_ok {n : Int} {s : List Int × Int × Int × Unit} (h : SrcOk n s) (l : List Int) (hl : 1 ≤ l.length) (hn : n ≤ 4611686018427387902) :
    P36 s l ∧ SrcOk (n + 2) (u36_0 s l) ∧ g36_0 s l ∈ l := by
  obtain ⟨p, s1, a, b, _⟩ := pick_ok h (l.length : Int) hn
  have b := b (by omega)
  exact ⟨⟨p, a, b, trivial⟩, s1, mem_getD l _ 0 (by omega)⟩

end Go.Proofs.YtpellcnihifdaaaGreatDoor
