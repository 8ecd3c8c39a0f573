/- The abstract machine, part 21: how a function is entered and left. -/
import Derived.Test.YtjoimmmpaocfkaaAm20
namespace Go.Am
set_option linter.unusedVariables false
set_option linter.unusedSimpArgs false

/-! ### Entry -/

def capsA : (caps : List (Bool × Ty)) → capsDen caps → List Atom
  | [], _ => []
  | (true, t) :: r, x => .ptr t x.1 :: capsA r x.2
  | (false, t) :: r, x => toAtom t x.1 :: capsA r x.2

def argA (k : Nat) : (a : AT) → a.den → PV
  | .v t, x => .a (toAtom t x)
  | .p t, x => .a (.ptr t x)
  | .own t, xs => .a (.osl k none)
  | .fn f caps, x => .fn f (capsA caps x)

def nOwn (k : Nat) : AT → Nat
  | .own _ => k + 1
  | _ => k

/-- The slots of the arguments: i: the slot, k: the number of owned arrays so far. -/
def entE : Nat → Nat → (sig : List AT) → sigDen sig → Env
  | _, _, [], _ => []
  | i, k, a :: r, x => (i, argA k a x.1) :: entE (i + 1) (nOwn k a) r x.2

def entL : (sig : List AT) → sigDen sig → Heap
  | [], _ => []
  | .own t :: r, x => some ⟨t, x.1, false⟩ :: entL r x.2
  | .v _ :: r, x => entL r x.2
  | .p _ :: r, x => entL r x.2
  | .fn _ _ :: r, x => entL r x.2

def pinsOf : Nat → List AT → List Nat
  | _, [] => []
  | i, .own _ :: r => i :: pinsOf (i + 1) r
  | i, _ :: r => pinsOf (i + 1) r

def ownBlk : List AT → List (List Nat) → List (List Nat)
  | .own _ :: r, b :: s => b :: ownBlk r s
  | _ :: r, _ :: s => ownBlk r s
  | _, _ => []

def wfCaps : (caps : List (Bool × Ty)) → capsDen caps → Prop
  | [], _ => True
  | (_, t) :: r, x => Wf t x.1 ∧ wfCaps r x.2

def wfA : (a : AT) → a.den → Prop
  | .v t, x => Wf t x
  | .p t, x => Wf t x
  | .own t, xs => Wf (.sl t) xs
  | .fn _ caps, x => wfCaps caps x

def wfSig : (sig : List AT) → sigDen sig → Prop
  | [], _ => True
  | a :: r, x => wfA a x.1 ∧ wfSig r x.2

def noOwn : List AT → Bool
  | [] => true
  | .own _ :: _ => false
  | _ :: r => noOwn r

section
variable {P : Program} {n : Nat} {w0 w : World} {O : List Nat} {a : Act} {V : Nat → Value} {own : Nat → List Nat} {f : FuncId} {R : Ending → World → Prop} {E : Env} {L : Heap}

theorem repB_wf {G : Nat → Prop} {t : Ty} {x : t.den} {v : Value} (h : RepB w G (toAtom t x) v) : Wf t x := by
  cases t with
  | int k => exact h.2
  | bool => trivial
  | str => exact h.2
  | sl e => exact wf_slAt (fun _ _ => RepC.wf) h
  | unit => trivial
  | cons a b => obtain ⟨cs, _, h⟩ := h; exact h.wf

theorem ptr_wf {G : Nat → Prop} {t : Ty} {x : t.den} {v : Value} (h : PtrAt w G t x v) : Wf t x := by
  obtain ⟨_, _, _, _, _, _, h⟩ := h
  exact h.wf

theorem caps_wf {G : Nat → Prop} : ∀ {caps : List (Bool × Ty)} {x : capsDen caps} {vs : List Value}, CapsRep w G caps x vs → wfCaps caps x
  | [], _, _, _ => trivial
  | (true, t) :: r, x, vs, ⟨_, _, _, h, h2⟩ => ⟨ptr_wf h, caps_wf h2⟩
  | (false, t) :: r, x, vs, ⟨_, _, _, h, h2⟩ => ⟨repB_wf h, caps_wf h2⟩

theorem args_wf {G : Nat → Prop} : ∀ {sig : List AT} {x : sigDen sig} {vs : List Value} {bss : List (List Nat)}, ArgsRep w G sig x vs bss → wfSig sig x
  | [], _, _, _, _ => trivial
  | a :: r, x, vs, bss, ⟨_, _, _, _, _, _, h, h2⟩ => by
    refine ⟨?_, args_wf h2⟩
    cases a with
    | v t => exact repB_wf h.2
    | p t => exact ptr_wf h.2
    | own t => exact OwnC.wf h
    | fn g caps => obtain ⟨_, _, _, h⟩ := h; exact caps_wf h

theorem repA_ofB {G : Nat → Prop} {t : Ty} {x : t.den} {v : Value} (h : RepB w0 G (toAtom t x) v) : RepA w0 G L V (toAtom t x) v := by
  cases t <;> exact h

theorem caps_rep {G : Nat → Prop} : ∀ {caps : List (Bool × Ty)} {x : capsDen caps} {vs : List Value}, CapsRep w0 G caps x vs → RepAs w0 G L V (capsA caps x) vs
  | [], _, _, h => h
  | (true, t) :: r, x, vs, ⟨v, s, h1, h, h2⟩ => ⟨v, s, h1, h, caps_rep h2⟩
  | (false, t) :: r, x, vs, ⟨v, s, h1, h, h2⟩ => ⟨v, s, h1, repA_ofB h, caps_rep h2⟩

theorem repA_own {G : Nat → Prop} {r : Nat} {A : Arr} {bs : List Nat} (h : hget L r = some A) (hE : EntC w0 G w A (V r) bs) : RepA w0 G L V (.osl r none) (V r) := by
  refine ⟨A, h, fun _ => rfl, ?_⟩
  refine ⟨Nat.zero_le _, Nat.le_refl _, ?_⟩
  rcases hE.2 with ⟨h1, h2, _⟩ | ⟨b', off, cap, cur, ty, fz, bss, h1, h2, _⟩
  · exact .inl ⟨h1, h1, by rw [h2]; rfl⟩
  · exact .inr ⟨b', off, A.xs.length, cap, off, cap, h1, by rw [h1]; rfl, by simpa [rgLo, rgHi] using h2, .inl ⟨by simp [rgLo], by simp [rgLo]⟩⟩

/-- The owned arguments, in memory. -/
theorem ent_heap {G : Nat → Prop} : ∀ {sig : List AT} {x : sigDen sig} {vs : List Value} {bss : List (List Nat)}, ArgsRep w0 G sig x vs bss → ∀ r A, hget (entL sig x) r = some A →
    ∃ v b, (ownVals sig vs)[r]? = some v ∧ (ownBlk sig bss)[r]? = some b ∧ EntC w0 G w0 A v b
  | [], _, _, _, _, r, A, h => by cases h
  | a :: sig, x, vs, bss, ⟨v, s, b, bs, h1, h2, h, h3⟩, r, A, hr => by
    subst h1 h2
    cases a with
    | own t =>
      cases r with
      | zero => cases hr; exact ⟨v, b, rfl, rfl, EntC.own.2 h⟩
      | succ r => obtain ⟨v', b', g1, g2, g3⟩ := ent_heap h3 r A hr; exact ⟨v', b', g1, g2, g3⟩
    | v t => exact ent_heap (sig := sig) h3 r A hr
    | p t => exact ent_heap (sig := sig) h3 r A hr
    | fn g caps => exact ent_heap (sig := sig) h3 r A hr

theorem own_bss {G : Nat → Prop} : ∀ {sig : List AT} {x : sigDen sig} {vs : List Value} {bss : List (List Nat)}, ArgsRep w G sig x vs bss → bss.flatten = (ownBlk sig bss).flatten
  | [], _, _, _, h => by obtain ⟨rfl, rfl⟩ := h; rfl
  | a :: r, x, vs, bss, ⟨v, s, b, bs, h1, h2, h, h3⟩ => by
    subst h1 h2
    cases a with
    | own t => simp only [List.flatten_cons, ownBlk, own_bss h3]
    | v t =>
      obtain ⟨rfl, _⟩ := h
      simpa [ownBlk] using own_bss (sig := r) h3
    | p t =>
      obtain ⟨rfl, _⟩ := h
      simpa [ownBlk] using own_bss (sig := r) h3
    | fn g caps =>
      obtain ⟨rfl, _⟩ := h
      simpa [ownBlk] using own_bss (sig := r) h3

theorem own_vals {G : Nat → Prop} : ∀ {sig : List AT} {x : sigDen sig} {vs : List Value} {bss : List (List Nat)} {i : Nat} {q : Nat → Value}, ArgsRep w G sig x vs bss → (∀ j v, vs[j]? = some v → q (i + j) = v) → ownVals sig vs = (pinsOf i sig).map q
  | [], _, _, _, i, q, h, _ => by obtain ⟨rfl, rfl⟩ := h; rfl
  | a :: r, x, vs, bss, i, q, ⟨v, s, b, bs, h1, h2, h, h3⟩, hq => by
    subst h1 h2
    have h0 : q i = v := by have := hq 0 v rfl; simpa using this
    have ih := own_vals (i := i + 1) (q := q) h3 (fun j u hj => by have := hq (j + 1) u (by simpa using hj); rw [show i + 1 + j = i + (j + 1) by omega]; exact this)
    cases a with
    | own t => simp only [ownVals, pinsOf, List.map_cons, h0, ih]
    | v t => exact ih
    | p t => exact ih
    | fn g caps => exact ih

theorem ent_rep {G : Nat → Prop} {tm : Array Value} : ∀ {sig : List AT} {x : sigDen sig} {vs : List Value} {bss : List (List Nat)} {k m : Nat}, ArgsRep w0 G sig x vs bss → (∀ j v, vs[j]? = some v → tm.getD (k + j) undef = v) →
    (∀ r A, hget (entL sig x) r = some A → hget L (m + r) = some A) → (∀ r v, (ownVals sig vs)[r]? = some v → V (m + r) = v) →
    ∀ i, RepP w0 G L V ((entE k m sig x).get i) (tm.getD i undef)
  | [], x, vs, bss, k, m, _, _, _, _, i => trivial
  | a :: r, x, vs, bss, k, m, ⟨v, s, b, bs, h1, h2, h, h3⟩, ht, hL, hV, i => by
    subst h1
    simp only [entE, Env.get]
    cases hki : Nat.beq k i with
    | true =>
      obtain rfl := Nat.eq_of_beq_eq_true hki
      have := ht 0 v rfl
      rw [Nat.add_zero] at this
      simp only [cond_true]
      rw [this]
      cases a with
      | v t => exact repA_ofB h.2
      | p t => exact h.2
      | own t =>
        have hl := hL 0 _ rfl
        have hv := hV 0 v rfl
        rw [Nat.add_zero] at hl hv
        have := repA_own (w0 := w0) (G := G) (V := V) (bs := b) hl (by rw [hv]; exact EntC.own.2 h)
        rw [hv] at this
        exact this
      | fn g caps => obtain ⟨_, vs', hv', hh⟩ := h; exact ⟨vs', hv', caps_rep hh⟩
    | false =>
      simp only [cond_false]
      have ht' : ∀ j u, s[j]? = some u → tm.getD (k + 1 + j) undef = u := fun j u hj => by have := ht (j + 1) u (by simpa using hj); rw [show k + 1 + j = k + (j + 1) by omega]; exact this
      cases a with
      | own t =>
        refine ent_rep h3 ht' (fun r A hr => ?_) (fun r u hr => ?_) i
        · have := hL (r + 1) A hr; show hget L (m + 1 + r) = some A; rw [show m + 1 + r = m + (r + 1) by omega]; exact this
        · have := hV (r + 1) u hr; show V (m + 1 + r) = u; rw [show m + 1 + r = m + (r + 1) by omega]; exact this
      | v t => exact ent_rep (sig := r) h3 ht' hL hV i
      | p t => exact ent_rep (sig := r) h3 ht' hL hV i
      | fn g caps => exact ent_rep (sig := r) h3 ht' hL hV i

theorem args_len {G : Nat → Prop} : ∀ {sig : List AT} {x : sigDen sig} {vs : List Value} {bss : List (List Nat)}, ArgsRep w G sig x vs bss → vs.length = sig.length
  | [], _, _, _, h => by obtain ⟨rfl, _⟩ := h; rfl
  | a :: r, x, vs, bss, ⟨v, s, b, bs, h1, h2, h, h3⟩ => by subst h1; simp [args_len h3]

theorem nodup_get : ∀ {bs : List (List Nat)}, bs.flatten.Nodup → ∀ (r : Nat) (b : List Nat), bs[r]? = some b → b.Nodup ∧ ∀ (s : Nat) (c : List Nat), bs[s]? = some c → r ≠ s → ∀ x ∈ b, x ∉ c
  | [], _, r, b, h => by simp at h
  | d :: bs, hn, r, b, h => by
    obtain ⟨h1, h2, h3⟩ := nodup_flatten_cons hn
    cases r with
    | zero =>
      simp at h
      subst h
      refine ⟨h1, fun s c hs hne x hx hc => ?_⟩
      cases s with
      | zero => exact hne rfl
      | succ s => exact h3 x hx (List.mem_flatten.2 ⟨c, List.mem_of_getElem? (by simpa using hs), hc⟩)
    | succ r =>
      obtain ⟨g1, g2⟩ := nodup_get h2 r b (by simpa using h)
      refine ⟨g1, fun s c hs hne x hx hc => ?_⟩
      cases s with
      | zero =>
        simp at hs
        subst hs
        exact h3 x hc (List.mem_flatten.2 ⟨b, List.mem_of_getElem? (by simpa using h), hx⟩)
      | succ s => exact g2 s c (by simpa using hs) (fun e => hne (by rw [e])) x hx hc

/-! ### The end -/

def PostR (ds : List Dyn) (us : List (Option Lst)) (pins : List Nat) (q : Nat → Value) (w0 : World) (O : List Nat) (e : Ending) (w' : World) : Prop :=
  ∃ rs ubs rbs, e = .returned (packV rs) ∧ Kept O w0 w' ∧ ResRep w' ds rs rbs ∧ UpdRep w' us (pins.map q) ubs ∧ (ubs.flatten ++ rbs.flatten).Nodup ∧ ∀ b ∈ ubs.flatten ++ rbs.flatten, ¬ Good w0 O b

/-- **The contract of a function.** -/
theorem contract_of {fn : Func} {c : Code} {S : Spec} (hf : P.funcs[f]? = some fn) (hb : fn.body = some c) (hl : S.sig.length ≤ fn.ntmps)
    (h : ∀ x, S.pre x → wfSig S.sig x → ∀ w0 O q, AtV P f (PostR (S.res x) (S.upd x) (pinsOf 0 S.sig) q w0 O) fn.ntmps w0 O q (pinsOf 0 S.sig) [.code c] (entE 0 0 S.sig x) (entL S.sig x)) : Contract P f S := by
  intro w x vs bss hpre hargs hnd
  have hlen := args_len hargs
  have hob := own_bss hargs
  have hget0 : ∀ j v, vs[j]? = some v → (vs.toArray ++ Array.replicate (fn.ntmps - vs.toArray.size) undef).getD j undef = v := fun j v hj => by
    have hlt := (List.getElem?_eq_some_iff.1 hj).1
    rw [Array.getD_eq_getD_getElem?, Array.getElem?_append_left (by simpa using hlt)]
    simp [hj]
  let q : Nat → Value := fun i => (vs.toArray ++ Array.replicate (fn.ntmps - vs.toArray.size) undef).getD i undef
  have hov : ownVals S.sig vs = (pinsOf 0 S.sig).map q := own_vals hargs (fun j v hj => by rw [Nat.zero_add]; exact hget0 j v hj)
  let V : Nat → Value := fun r => (ownVals S.sig vs).getD r undef
  let own : Nat → List Nat := fun r => (ownBlk S.sig bss).getD r []
  have hheap : ∀ r A, hget (entL S.sig x) r = some A → EntC w (Good w bss.flatten) w A (V r) (own r) ∧ (ownBlk S.sig bss)[r]? = some (own r) := fun r A hr => by
    obtain ⟨v, b, h1, h2, h3⟩ := ent_heap hargs r A hr
    have e1 : V r = v := by simp only [V, List.getD_eq_getElem?_getD, h1, Option.getD_some]
    have e2 : own r = b := by simp only [own, List.getD_eq_getElem?_getD, h2, Option.getD_some]
    rw [e1, e2]
    exact ⟨h3, h2⟩
  have hnd' : (ownBlk S.sig bss).flatten.Nodup := by rw [← hob]; exact hnd
  refine (calls_of_run hf hb (h x hpre (args_wf hargs) w bss.flatten q _ _ V own ?_ ?_)).mono ?_
  · refine ⟨Kept.refl _ _, ?_, rfl, (fun r A hr => (hheap r A hr).1), ?_, ?_, ?_, ?_⟩
    · simp [hlen]; omega
    · intro r A hr b hb hg
      exact hg.2 (by rw [hob]; exact List.mem_flatten.2 ⟨_, List.mem_of_getElem? (hheap r A hr).2, hb⟩)
    · intro r A hr
      exact (nodup_get hnd' r _ (hheap r A hr).2).1
    · intro r s A B hr hs hne b hb hb'
      exact (nodup_get hnd' r _ (hheap r A hr).2).2 s _ (hheap s B hs).2 hne b hb hb'
    · refine ent_rep hargs (fun j v hj => by rw [Nat.zero_add]; exact hget0 j v hj) (fun r A hr => by rw [Nat.zero_add]; exact hr) (fun r v hr => by rw [Nat.zero_add]; simp only [V, List.getD_eq_getElem?_getD, hr, Option.getD_some])
  · intro t ht; rfl
  · rintro e w' ⟨rs, ubs, rbs, h1, h2, h3, h4, h5, h6⟩
    exact ⟨rs, ubs, rbs, h1, h2, h3, by rw [hov]; exact h4, h5, h6⟩

/-- What the owned arguments hold at the end. -/
def updO (E : Env) (L : Heap) : List Nat → List (Option Lst) × List Nat
  | [] => ([], [])
  | i :: r => match updO E L r with
    | (us, rs) => match E.get i with
      | .a (.osl k none) => match hget L k with
        | some ⟨t, xs, false⟩ => (some ⟨t, xs⟩ :: us, k :: rs)
        | _ => (none :: us, rs)
      | _ => (none :: us, rs)

theorem updO_spec {q : Nat → Value} (hR : RelV n w0 O w a E L V own) : ∀ {ps : List Nat}, (∀ t ∈ ps, a.tmps.getD t undef = q t) →
    ∃ ubs, UpdRep w (updO E L ps).1 (ps.map q) ubs ∧ ubs.flatten = ((updO E L ps).2.map own).flatten ∧ ∀ r ∈ (updO E L ps).2, ∃ B, hget L r = some B
  | [], _ => ⟨[], ⟨rfl, rfl⟩, rfl, fun r hr => by cases hr⟩
  | i :: ps, hq => by
    obtain ⟨ubs, h1, h2, h3⟩ := updO_spec hR (ps := ps) (fun t ht => hq t (List.mem_cons_of_mem _ ht))
    simp only [updO]
    have skip : ∃ ubs, UpdRep w (none :: (updO E L ps).1) ((i :: ps).map q) ubs ∧ ubs.flatten = ((updO E L ps).2.map own).flatten ∧ ∀ r ∈ (updO E L ps).2, ∃ B, hget L r = some B :=
      ⟨[] :: ubs, ⟨_, _, _, rfl, rfl, h1⟩, by simpa using h2, h3⟩
    split
    · rename_i k hk
      split
      · rename_i t xs hA
        have hv := hR.env i
        rw [hk, hq i (List.mem_cons_self ..)] at hv
        obtain ⟨B, _, hB1, _⟩ := hv
        have hE := hR.heap k _ hA
        refine ⟨own k :: ubs, ⟨_, _, _, _, rfl, rfl, ?_, h1⟩, by simp [h2], fun r hr => ?_⟩
        · rw [hB1 rfl]; exact EntC.own.1 hE
        · rcases List.mem_cons.1 hr with rfl | hr
          · exact ⟨_, hA⟩
          · exact h3 r hr
      · exact skip
    · exact skip

def decO (L : Heap) : (t : Ty) → Atom → Option (t.den × List Nat)
  | .sl e, .osl r none => match hget L r with
    | some A => match A.bor with
      | true => none
      | false => if h : A.t = e then some (castL h A.xs, [r]) else none
    | none => none
  | .sl e, .val (.slice none _ _) => some ([], [])
  | t, A => match t.flat with
    | true => match decB t A with
      | some x => some (x, [])
      | none => none
    | false => none

def cellA (tab : List TI) (L : Heap) (T : TypeId) (A : Atom) : Option Atom :=
  match (tabGet tab T).ty with
  | some t => loadA L t A
  | none => none

def finA (tab : List TI) (E : Env) (L : Heap) : List Ty → List ResultVar → Option (List Dyn × List Nat)
  | [], [] => some ([], [])
  | t :: ts, .tmp i :: r => match E.get i with
    | .a A => match decO L t A, finA tab E L ts r with
      | some (x, us), some (ds, vs) => some (⟨t, x⟩ :: ds, us ++ vs)
      | _, _ => none
    | _ => none
  | t :: ts, .cell i T :: r => match E.get i with
    | .a A => match cellA tab L T A with
      | some B => match decO L t B, finA tab E L ts r with
        | some (x, us), some (ds, vs) => some (⟨t, x⟩ :: ds, us ++ vs)
        | _, _ => none
      | none => none
    | _ => none
  | _, _ => none

theorem cell_run {T : TypeId} {u v : Value} (h : (Instr.loadAt T u).run P w = .ok v w) : (do loadVar T (← asAddr u) : Sem Value).run P w = .ok v w := by
  cases u with
  | pointer a =>
    cases a with
    | none => simp [Instr.loadAt, Instr.sureAddr] at h
    | some a => simpa [Instr.loadAt, Instr.sureAddr, asAddr] using h
  | _ => simp [Instr.loadAt, Instr.sureAddr] at h

theorem decO_flat (hR : RelV n w0 O w a E L V own) {t : Ty} {A : Atom} {x : t.den} {us : List Nat} {v : Value} (hv : RepA w0 (Good w0 O) L V A v) (h : (match t.flat with | true => (match decB t A with | some x => some (x, ([] : List Nat)) | none => none) | false => none) = some (x, us)) :
    us = [] ∧ ∃ cs, OwnC w t x cs [] ∧ IsVal t cs v := by
  split at h
  · rename_i hf
    split at h
    · rename_i y hd
      cases h
      have hB : RepB w0 (Good w0 O) A v := by
        cases A with
        | osl r rg => cases t <;> cases hd
        | optr r i p => cases t <;> cases hd
        | _ => exact hv
      obtain ⟨cs, hv, _, _, hent⟩ := entR_of_decB hB hd false (fun _ => hf)
      refine ⟨rfl, cs, hent w, ?_⟩
      have hrl := (OwnC.length (hent w) : cs.length = t.size)
      subst hv
      cases t with
      | sl e => cases hf
      | int k => have hh : OwnC w (.int k) x cs [] := hent w; obtain ⟨rfl, _⟩ := hh; rfl
      | bool => have hh : OwnC w .bool x cs [] := hent w; obtain ⟨rfl, _⟩ := hh; rfl
      | str => have hh : OwnC w .str x cs [] := hent w; obtain ⟨rfl, _⟩ := hh; rfl
      | unit => rfl
      | cons a b => rfl
    · cases h
  · cases h

theorem decO_spec (hR : RelV n w0 O w a E L V own) {t : Ty} {A : Atom} {x : t.den} {us : List Nat} {v : Value} (hv : RepA w0 (Good w0 O) L V A v) (h : decO L t A = some (x, us)) :
    (∃ cs, OwnC w t x cs (us.map own).flatten ∧ IsVal t cs v) ∧ ∀ r ∈ us, ∃ B, hget L r = some B := by
  unfold decO at h
  split at h
  · rename_i e r
    split at h
    · rename_i B hB
      split at h
      · cases h
      · rename_i hbor
        split at h
        · rename_i he
          cases h
          obtain ⟨B', hB', h1, _⟩ := hv
          rw [hB] at hB'
          cases hB'
          refine ⟨⟨[v], ?_, rfl⟩, fun s hs => ⟨B, by rw [List.mem_singleton.1 hs]; exact hB⟩⟩
          have := hR.heap r B hB
          obtain ⟨t', xs, bor⟩ := B
          simp only at hbor he
          subst hbor he
          rw [h1 rfl]
          simp only [List.map_cons, List.map_nil, List.flatten_cons, List.flatten_nil, List.append_nil]
          exact EntC.own.1 this
        · cases h
    · cases h
  · rename_i e n c
    cases h
    obtain ⟨rfl, hn, hc⟩ := hv
    subst hn hc
    exact ⟨⟨_, ⟨_, rfl, by simp [maxLen], .inl ⟨rfl, rfl, rfl⟩⟩, rfl⟩, fun r hr => by cases hr⟩
  · obtain ⟨rfl, cs, h1, h2⟩ := decO_flat hR hv h
    exact ⟨⟨cs, by simpa using h1, h2⟩, fun r hr => by cases hr⟩

theorem finA_spec {tab : List TI} (hT : TabOk P tab) (hR : RelV n w0 O w a E L V own) : ∀ {ts : List Ty} {rv : List ResultVar} {ds : List Dyn} {us : List Nat}, finA tab E L ts rv = some (ds, us) →
    ∃ rs bss, (rv.mapM fun x => (match x with | .tmp t => pure (a.tmps.getD t undef) | .cell b t => do loadVar t (← asAddr (a.tmps.getD b undef)) : Sem Value)).run P w = .ok rs w ∧ rs.length = rv.length ∧ ResRep w ds rs bss ∧ bss.flatten = (us.map own).flatten ∧ ∀ r ∈ us, ∃ B, hget L r = some B
  | [], [], ds, us, h => by cases h; exact ⟨[], [], by simp, rfl, ⟨rfl, rfl⟩, rfl, fun r hr => by cases hr⟩
  | t :: ts, .tmp i :: rv, ds, us, h => by
    simp only [finA] at h
    split at h
    · rename_i A hA
      split at h
      · rename_i x u ds' vs hd hf
        cases h
        have hv : RepA w0 (Good w0 O) L V A (a.tmps.getD i undef) := by
          have := hR.env i
          rw [hA] at this
          exact this
        obtain ⟨⟨cs, h1, h2⟩, h3⟩ := decO_spec hR hv hd
        obtain ⟨rs, bss, g1, g2, g3, g4, g5⟩ := finA_spec hT hR hf
        refine ⟨a.tmps.getD i undef :: rs, (u.map own).flatten :: bss, ?_, by simp [g2], ⟨_, _, _, _, cs, rfl, rfl, h1, h2, g3⟩, ?_, ?_⟩
        · rw [List.mapM_cons]
          simp only [Sem.run_bind, Sem.run_pure, Result.andThen_ok]
          rw [g1]
          rfl
        · simp [g4]
        · intro r hr
          rcases List.mem_append.1 hr with hr | hr
          · exact h3 r hr
          · exact g5 r hr
      · cases h
    · cases h
  | t :: ts, .cell i T :: rv, ds, us, h => by
    simp only [finA] at h
    split at h
    · rename_i A hA
      split at h
      · rename_i B hB
        split at h
        · rename_i x u ds' vs hd hf
          cases h
          have hv : RepA w0 (Good w0 O) L V A (a.tmps.getD i undef) := by
            have := hR.env i
            rw [hA] at this
            exact this
          unfold cellA at hB
          split at hB
          · rename_i t0 ht0
            obtain ⟨v, hv', hrun⟩ := loadA_spec (P := P) hR (TI.ty_ok (hT T) ht0) hv hB
            obtain ⟨⟨cs, h1, h2⟩, h3⟩ := decO_spec hR hv' hd
            obtain ⟨rs, bss, g1, g2, g3, g4, g5⟩ := finA_spec hT hR hf
            refine ⟨v :: rs, (u.map own).flatten :: bss, ?_, by simp [g2], ⟨_, _, _, _, cs, rfl, rfl, h1, h2, g3⟩, ?_, ?_⟩
            · have hc := cell_run (hrun w (Kept.refl _ _))
              rw [List.mapM_cons, Sem.run_bind]
              refine (congrArg (fun r => Result.andThen r _) hc).trans ?_
              simp only [Result.andThen_ok, Sem.run_bind]
              rw [g1]
              rfl
            · simp [g4]
            · intro r hr
              rcases List.mem_append.1 hr with hr | hr
              · exact h3 r hr
              · exact g5 r hr
          · cases hB
        · cases h
      · cases h
    · cases h
  | [], _ :: _, _, _, h => by cases h
  | _ :: _, [], _, _, h => by cases h

/-- A run to the end of the function. -/
def runF (tab : List TI) (ext : Ext) (wr : Bool) (n : Nat) (stops : List Nat) (m : Nat) (pins : List Nat) (ts : List Ty) (rv : Array ResultVar) (path : List Bool) (k : List Item) (E : Env) (L : Heap) : Option (List Dyn × List (Option Lst) × List Prop) :=
  match runA tab ext wr n stops m true k ⟨path, [], E, L, [], pins⟩ with
  | some (.fin S) => match finA tab S.E S.L ts rv.toList with
    | some (ds, us) => match nodupB ((updO S.E S.L pins).2 ++ us) && decide (S.pins = pins) with
      | true => some (ds, (updO S.E S.L pins).1, S.cs)
      | false => none
    | none => none
  | _ => none

theorem AtV.fin {fn : Func} (hf : P.funcs[f]? = some fn) {tab : List TI} {ext : Ext} (hT : TabOk P tab) (hX : ExtOk P ext) (hm : P.follows .mixedOrders = true) {q : Nat → Value} {pins : List Nat} {wr : Bool} {stops : List Nat} {m : Nat} {ts : List Ty} {path : List Bool} {k : List Item} {ds : List Dyn} {us : List (Option Lst)} {cs : List Prop}
    (h : runF tab ext wr n stops m pins ts fn.results path k E L = some (ds, us, cs)) (hc : All cs) : AtV P f (PostR ds us pins q w0 O) n w0 O q pins k E L := by
  intro a w V own hR hq
  unfold runF at h
  split at h
  · rename_i S hr
    split at h
    · rename_i ds' us' hfin
      split at h
      · rename_i hnd
        simp only [Bool.and_eq_true, decide_eq_true_eq] at hnd
        obtain ⟨hnd, hp⟩ := hnd
        cases h
        refine runA_run hT hX hm hr hc hR ⟨fun t d ht => by simp [lookB] at ht, hq⟩ ?_
        intro a' w' V' own' hR' hq'
        rw [hp] at hq'
        obtain ⟨rs, bss, g1, g2, g3, g4, g5⟩ := finA_spec (P := P) hT hR' hfin
        obtain ⟨ubs, k1, k2, k3⟩ := updO_spec hR' hq'
        have hall : ubs.flatten ++ bss.flatten = (((updO S.E S.L pins).2 ++ us').map own').flatten := by rw [k2, g4, List.map_append, List.flatten_append]
        have hlive : ∀ r ∈ (updO S.E S.L pins).2 ++ us', ∃ B, hget S.L r = some B := fun r hr => by
          rcases List.mem_append.1 hr with hr | hr
          · exact k3 r hr
          · exact g5 r hr
        refine ⟨hR'.defers, fn, packV rs, hf, ?_, rs, ubs, bss, rfl, hR'.kept, g3, k1, ?_, ?_⟩
        · unfold results
          have hm' : (fn.results.mapM fun x => (match x with | .tmp t => pure (a'.tmps.getD t undef) | .cell b t => do loadVar t (← asAddr (a'.tmps.getD b undef)) : Sem Value)).run P w' = .ok rs.toArray w' := by
            rw [show fn.results = fn.results.toList.toArray from rfl, List.mapM_toArray]
            simp only [map_eq_pure_bind, Sem.run_bind, g1, Result.andThen_ok, Sem.run_pure]
          simp only [Sem.run_bind]
          refine (congrArg (fun r => Result.andThen r _) hm').trans ?_
          simp only [Result.andThen_ok, Sem.run_pure]
          congr 1
          match rs with
          | [] => rfl
          | [v] => rfl
          | _ :: _ :: _ => simp [packV]
        · rw [hall]; exact own_nodup hR' (nodupB_spec hnd) hlive
        · intro b hb
          rw [hall] at hb
          obtain ⟨l, hl, hb⟩ := List.mem_flatten.1 hb
          obtain ⟨r, hr, rfl⟩ := List.mem_map.1 hl
          obtain ⟨B, hB⟩ := hlive r hr
          exact hR'.good r B hB b hb
      · cases h
    · cases h
  · cases h
end
end Go.Am
