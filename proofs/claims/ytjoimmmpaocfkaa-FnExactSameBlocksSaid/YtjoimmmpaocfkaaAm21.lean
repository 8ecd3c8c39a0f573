/- The abstract machine, part 21: how a function is entered and left. -/
import Derived.Test.YtjoimmmpaocfkaaAm20
namespace Go.Am
set_option linter.unusedVariables false
set_option linter.unusedSimpArgs false

/-! ### Entry -/

def capsA : (caps : List (Bool × Ty)) → capsDen caps → List Atom
  | [], _ => []
  | (true, t) :: r, x => .ptr t x.1 :: capsA r x.2
  | (false, t) :: r, x => toAtom t x.1 :: capsA r x.2

def argA : (a : AT) → a.den → PV
  | .v t, x => .a (toAtom t x)
  | .p t, x => .a (.ptr t x)
  | .own t, xs => .a .junk
  | .fn f caps, x => .fn f (capsA caps x)

def entE : Nat → (sig : List AT) → sigDen sig → Env
  | _, [], _ => []
  | i, a :: r, x => (i, argA a x.1) :: entE (i + 1) r x.2

def wfCaps : (caps : List (Bool × Ty)) → capsDen caps → Prop
  | [], _ => True
  | (_, t) :: r, x => Wf t x.1 ∧ wfCaps r x.2

def wfA : (a : AT) → a.den → Prop
  | .v t, x => Wf t x
  | .p t, x => Wf t x
  | .own t, xs => Wf (.sl t) xs
  | .fn _ caps, x => wfCaps caps x

def wfSig : (sig : List AT) → sigDen sig → Prop
  | [], _ => True
  | a :: r, x => wfA a x.1 ∧ wfSig r x.2

def noOwn : List AT → Bool
  | [] => true
  | .own _ :: _ => false
  | _ :: r => noOwn r

section
variable {P : Program} {n : Nat} {w0 w : World} {O : List Nat} {a : Act} {V : Nat → Value} {own : Nat → List Nat} {f : FuncId} {R : Ending → World → Prop} {E : Env} {L : Heap}

theorem repB_wf {G : Nat → Prop} {t : Ty} {x : t.den} {v : Value} (h : RepB w G (toAtom t x) v) : Wf t x := by
  cases t with
  | int k => exact h.2
  | bool => trivial
  | str => exact h.2
  | sl e => exact wf_slAt (fun _ _ => RepC.wf) h
  | unit => trivial
  | cons a b => obtain ⟨cs, _, h⟩ := h; exact h.wf

theorem ptr_wf {G : Nat → Prop} {t : Ty} {x : t.den} {v : Value} (h : PtrAt w G t x v) : Wf t x := by
  obtain ⟨_, _, _, _, _, _, h⟩ := h
  exact h.wf

theorem caps_wf {G : Nat → Prop} : ∀ {caps : List (Bool × Ty)} {x : capsDen caps} {vs : List Value}, CapsRep w G caps x vs → wfCaps caps x
  | [], _, _, _ => trivial
  | (true, t) :: r, x, vs, ⟨_, _, _, h, h2⟩ => ⟨ptr_wf h, caps_wf h2⟩
  | (false, t) :: r, x, vs, ⟨_, _, _, h, h2⟩ => ⟨repB_wf h, caps_wf h2⟩

theorem args_wf {G : Nat → Prop} : ∀ {sig : List AT} {x : sigDen sig} {vs : List Value} {bss : List (List Nat)}, ArgsRep w G sig x vs bss → wfSig sig x
  | [], _, _, _, _ => trivial
  | a :: r, x, vs, bss, ⟨_, _, _, _, _, _, h, h2⟩ => by
    refine ⟨?_, args_wf h2⟩
    cases a with
    | v t => exact repB_wf h.2
    | p t => exact ptr_wf h.2
    | own t => exact OwnC.wf h
    | fn g caps => obtain ⟨_, _, _, h⟩ := h; exact caps_wf h

theorem repA_ofB {G : Nat → Prop} {t : Ty} {x : t.den} {v : Value} (h : RepB w0 G (toAtom t x) v) : RepA w0 G L V (toAtom t x) v := by
  cases t <;> exact h

theorem caps_rep {G : Nat → Prop} : ∀ {caps : List (Bool × Ty)} {x : capsDen caps} {vs : List Value}, CapsRep w0 G caps x vs → RepAs w0 G L V (capsA caps x) vs
  | [], _, _, h => h
  | (true, t) :: r, x, vs, ⟨v, s, h1, h, h2⟩ => ⟨v, s, h1, h, caps_rep h2⟩
  | (false, t) :: r, x, vs, ⟨v, s, h1, h, h2⟩ => ⟨v, s, h1, repA_ofB h, caps_rep h2⟩

theorem arg_rep {G : Nat → Prop} {a : AT} {x : a.den} {v : Value} {b : List Nat} (h : ArgRep w0 G a x v b) : RepP w0 G L V (argA a x) v := by
  cases a with
  | v t => exact repA_ofB h.2
  | p t => exact h.2
  | own t => trivial
  | fn g caps => obtain ⟨_, vs, hv, h⟩ := h; exact ⟨vs, hv, caps_rep h⟩

theorem ent_rep {G : Nat → Prop} {tm : Array Value} : ∀ {sig : List AT} {x : sigDen sig} {vs : List Value} {bss : List (List Nat)} {k : Nat}, ArgsRep w0 G sig x vs bss → (∀ j v, vs[j]? = some v → tm.getD (k + j) undef = v) →
    ∀ i, RepP w0 G L V ((entE k sig x).get i) (tm.getD i undef)
  | [], _, _, _, _, _, _, i => trivial
  | a :: r, x, vs, bss, k, ⟨v, s, b, bs, h1, h2, h, h3⟩, ht, i => by
    subst h1
    simp only [entE, Env.get]
    cases hki : Nat.beq k i with
    | true =>
      obtain rfl := Nat.eq_of_beq_eq_true hki
      have := ht 0 v rfl
      rw [Nat.add_zero] at this
      simp only [cond_true]
      rw [this]
      exact arg_rep h
    | false =>
      simp only [cond_false]
      exact ent_rep h3 (fun j u hj => by have := ht (j + 1) u (by simpa using hj); rw [show k + 1 + j = k + (j + 1) by omega]; exact this) i

theorem noOwn_bss {G : Nat → Prop} : ∀ {sig : List AT} {x : sigDen sig} {vs : List Value} {bss : List (List Nat)}, noOwn sig = true → ArgsRep w G sig x vs bss → bss.flatten = [] ∧ ownVals sig vs = []
  | [], _, _, _, _, h => by obtain ⟨rfl, rfl⟩ := h; exact ⟨rfl, rfl⟩
  | a :: r, x, vs, bss, hn, ⟨v, s, b, bs, h1, h2, h, h3⟩ => by
    subst h1 h2
    cases a with
    | own t => cases hn
    | v t =>
      obtain ⟨e1, e2⟩ := noOwn_bss (sig := r) hn h3
      obtain ⟨rfl, _⟩ := h
      exact ⟨by simpa using e1, e2⟩
    | p t =>
      obtain ⟨e1, e2⟩ := noOwn_bss (sig := r) hn h3
      obtain ⟨rfl, _⟩ := h
      exact ⟨by simpa using e1, e2⟩
    | fn g caps =>
      obtain ⟨e1, e2⟩ := noOwn_bss (sig := r) hn h3
      obtain ⟨rfl, _⟩ := h
      exact ⟨by simpa using e1, e2⟩

theorem args_len {G : Nat → Prop} : ∀ {sig : List AT} {x : sigDen sig} {vs : List Value} {bss : List (List Nat)}, ArgsRep w G sig x vs bss → vs.length = sig.length
  | [], _, _, _, h => by obtain ⟨rfl, _⟩ := h; rfl
  | a :: r, x, vs, bss, ⟨v, s, b, bs, h1, h2, h, h3⟩ => by subst h1; simp [args_len h3]

/-! ### The end -/

def PostR (ds : List Dyn) (w0 : World) (e : Ending) (w' : World) : Prop :=
  ∃ rs rbs, e = .returned (packV rs) ∧ Kept [] w0 w' ∧ ResRep w' ds rs rbs ∧ rbs.flatten.Nodup ∧ ∀ b ∈ rbs.flatten, ¬ Good w0 [] b

/-- **The contract of a function whose arguments stay as they are.** -/
theorem contract_of {fn : Func} {c : Code} {S : Spec} (hf : P.funcs[f]? = some fn) (hb : fn.body = some c) (hs : noOwn S.sig = true) (hu : ∀ x, S.upd x = []) (hl : S.sig.length ≤ fn.ntmps)
    (h : ∀ x, S.pre x → wfSig S.sig x → ∀ w0, AtV P f (PostR (S.res x) w0) fn.ntmps w0 [] [.code c] (entE 0 S.sig x) []) : Contract P f S := by
  intro w x vs bss hpre hargs hnd
  obtain ⟨e1, e2⟩ := noOwn_bss hs hargs
  rw [e1] at hargs ⊢
  have hlen := args_len hargs
  refine (calls_of_run hf hb (h x hpre (args_wf hargs) w _ _ (fun _ => undef) (fun _ => []) ?_)).mono ?_
  · refine ⟨Kept.refl _ _, ?_, rfl, (fun r A hr => by cases hr), (fun r A hr => by cases hr), (fun r A hr => by cases hr), (fun r s A B hr => by cases hr), ?_⟩
    · simp [hlen]; omega
    · refine ent_rep hargs fun j v hj => ?_
      have hlt := (List.getElem?_eq_some_iff.1 hj).1
      rw [Nat.zero_add, Array.getD_eq_getD_getElem?, Array.getElem?_append_left (by simpa using hlt)]
      simp [hj]
  · rintro e w' ⟨rs, rbs, h1, h2, h3, h4, h5⟩
    refine ⟨rs, [], rbs, h1, h2, h3, ?_, by simpa using h4, by simpa using h5⟩
    rw [hu, e2]
    exact ⟨rfl, rfl⟩

def decO (L : Heap) : (t : Ty) → Atom → Option (t.den × List Nat)
  | .sl e, .osl r none => match hget L r with
    | some A => match A.bor with
      | true => none
      | false => if h : A.t = e then some (castL h A.xs, [r]) else none
    | none => none
  | .sl e, .val (.slice none _ _) => some ([], [])
  | t, A => match t.flat with
    | true => match decB t A with
      | some x => some (x, [])
      | none => none
    | false => none

def cellA (tab : List TI) (L : Heap) (T : TypeId) (A : Atom) : Option Atom :=
  match (tabGet tab T).ty with
  | some t => loadA L t A
  | none => none

def finA (tab : List TI) (E : Env) (L : Heap) : List Ty → List ResultVar → Option (List Dyn × List Nat)
  | [], [] => some ([], [])
  | t :: ts, .tmp i :: r => match E.get i with
    | .a A => match decO L t A, finA tab E L ts r with
      | some (x, us), some (ds, vs) => some (⟨t, x⟩ :: ds, us ++ vs)
      | _, _ => none
    | _ => none
  | t :: ts, .cell i T :: r => match E.get i with
    | .a A => match cellA tab L T A with
      | some B => match decO L t B, finA tab E L ts r with
        | some (x, us), some (ds, vs) => some (⟨t, x⟩ :: ds, us ++ vs)
        | _, _ => none
      | none => none
    | _ => none
  | _, _ => none

theorem cell_run {T : TypeId} {u v : Value} (h : (Instr.loadAt T u).run P w = .ok v w) : (do loadVar T (← asAddr u) : Sem Value).run P w = .ok v w := by
  cases u with
  | pointer a =>
    cases a with
    | none => simp [Instr.loadAt, Instr.sureAddr] at h
    | some a => simpa [Instr.loadAt, Instr.sureAddr, asAddr] using h
  | _ => simp [Instr.loadAt, Instr.sureAddr] at h

theorem decO_flat (hR : RelV n w0 O w a E L V own) {t : Ty} {A : Atom} {x : t.den} {us : List Nat} {v : Value} (hv : RepA w0 (Good w0 O) L V A v) (h : (match t.flat with | true => (match decB t A with | some x => some (x, ([] : List Nat)) | none => none) | false => none) = some (x, us)) :
    us = [] ∧ ∃ cs, OwnC w t x cs [] ∧ IsVal t cs v := by
  split at h
  · rename_i hf
    split at h
    · rename_i y hd
      cases h
      have hB : RepB w0 (Good w0 O) A v := by
        cases A with
        | osl r rg => cases t <;> cases hd
        | optr r i p => cases t <;> cases hd
        | _ => exact hv
      obtain ⟨cs, hv, _, _, hent⟩ := entR_of_decB hB hd false (fun _ => hf)
      refine ⟨rfl, cs, hent w, ?_⟩
      have hrl := (OwnC.length (hent w) : cs.length = t.size)
      subst hv
      cases t with
      | sl e => cases hf
      | int k => have hh : OwnC w (.int k) x cs [] := hent w; obtain ⟨rfl, _⟩ := hh; rfl
      | bool => have hh : OwnC w .bool x cs [] := hent w; obtain ⟨rfl, _⟩ := hh; rfl
      | str => have hh : OwnC w .str x cs [] := hent w; obtain ⟨rfl, _⟩ := hh; rfl
      | unit => rfl
      | cons a b => rfl
    · cases h
  · cases h

theorem decO_spec (hR : RelV n w0 O w a E L V own) {t : Ty} {A : Atom} {x : t.den} {us : List Nat} {v : Value} (hv : RepA w0 (Good w0 O) L V A v) (h : decO L t A = some (x, us)) :
    (∃ cs, OwnC w t x cs (us.map own).flatten ∧ IsVal t cs v) ∧ ∀ r ∈ us, ∃ B, hget L r = some B := by
  unfold decO at h
  split at h
  · rename_i e r
    split at h
    · rename_i B hB
      split at h
      · cases h
      · rename_i hbor
        split at h
        · rename_i he
          cases h
          obtain ⟨B', hB', h1, _⟩ := hv
          rw [hB] at hB'
          cases hB'
          refine ⟨⟨[v], ?_, rfl⟩, fun s hs => ⟨B, by rw [List.mem_singleton.1 hs]; exact hB⟩⟩
          have := hR.heap r B hB
          obtain ⟨t', xs, bor⟩ := B
          simp only at hbor he
          subst hbor he
          rw [h1 rfl]
          simp only [List.map_cons, List.map_nil, List.flatten_cons, List.flatten_nil, List.append_nil]
          exact EntC.own.1 this
        · cases h
    · cases h
  · rename_i e n c
    cases h
    obtain ⟨rfl, hn, hc⟩ := hv
    subst hn hc
    exact ⟨⟨_, ⟨_, rfl, by simp [maxLen], .inl ⟨rfl, rfl, rfl⟩⟩, rfl⟩, fun r hr => by cases hr⟩
  · obtain ⟨rfl, cs, h1, h2⟩ := decO_flat hR hv h
    exact ⟨⟨cs, by simpa using h1, h2⟩, fun r hr => by cases hr⟩

theorem finA_spec {tab : List TI} (hT : TabOk P tab) (hR : RelV n w0 O w a E L V own) : ∀ {ts : List Ty} {rv : List ResultVar} {ds : List Dyn} {us : List Nat}, finA tab E L ts rv = some (ds, us) →
    ∃ rs bss, (rv.mapM fun x => (match x with | .tmp t => pure (a.tmps.getD t undef) | .cell b t => do loadVar t (← asAddr (a.tmps.getD b undef)) : Sem Value)).run P w = .ok rs w ∧ rs.length = rv.length ∧ ResRep w ds rs bss ∧ bss.flatten = (us.map own).flatten ∧ ∀ r ∈ us, ∃ B, hget L r = some B
  | [], [], ds, us, h => by cases h; exact ⟨[], [], by simp, rfl, ⟨rfl, rfl⟩, rfl, fun r hr => by cases hr⟩
  | t :: ts, .tmp i :: rv, ds, us, h => by
    simp only [finA] at h
    split at h
    · rename_i A hA
      split at h
      · rename_i x u ds' vs hd hf
        cases h
        have hv : RepA w0 (Good w0 O) L V A (a.tmps.getD i undef) := by
          have := hR.env i
          rw [hA] at this
          exact this
        obtain ⟨⟨cs, h1, h2⟩, h3⟩ := decO_spec hR hv hd
        obtain ⟨rs, bss, g1, g2, g3, g4, g5⟩ := finA_spec hT hR hf
        refine ⟨a.tmps.getD i undef :: rs, (u.map own).flatten :: bss, ?_, by simp [g2], ⟨_, _, _, _, cs, rfl, rfl, h1, h2, g3⟩, ?_, ?_⟩
        · rw [List.mapM_cons]
          simp only [Sem.run_bind, Sem.run_pure, Result.andThen_ok]
          rw [g1]
          rfl
        · simp [g4]
        · intro r hr
          rcases List.mem_append.1 hr with hr | hr
          · exact h3 r hr
          · exact g5 r hr
      · cases h
    · cases h
  | t :: ts, .cell i T :: rv, ds, us, h => by
    simp only [finA] at h
    split at h
    · rename_i A hA
      split at h
      · rename_i B hB
        split at h
        · rename_i x u ds' vs hd hf
          cases h
          have hv : RepA w0 (Good w0 O) L V A (a.tmps.getD i undef) := by
            have := hR.env i
            rw [hA] at this
            exact this
          unfold cellA at hB
          split at hB
          · rename_i t0 ht0
            obtain ⟨v, hv', hrun⟩ := loadA_spec (P := P) hR (TI.ty_ok (hT T) ht0) hv hB
            obtain ⟨⟨cs, h1, h2⟩, h3⟩ := decO_spec hR hv' hd
            obtain ⟨rs, bss, g1, g2, g3, g4, g5⟩ := finA_spec hT hR hf
            refine ⟨v :: rs, (u.map own).flatten :: bss, ?_, by simp [g2], ⟨_, _, _, _, cs, rfl, rfl, h1, h2, g3⟩, ?_, ?_⟩
            · have hc := cell_run (hrun w (Kept.refl _ _))
              rw [List.mapM_cons, Sem.run_bind]
              refine (congrArg (fun r => Result.andThen r _) hc).trans ?_
              simp only [Result.andThen_ok, Sem.run_bind]
              rw [g1]
              rfl
            · simp [g4]
            · intro r hr
              rcases List.mem_append.1 hr with hr | hr
              · exact h3 r hr
              · exact g5 r hr
          · cases hB
        · cases h
      · cases h
    · cases h
  | [], _ :: _, _, _, h => by cases h
  | _ :: _, [], _, _, h => by cases h

/-- A run to the end of the function. -/
def runF (tab : List TI) (ext : Ext) (wr : Bool) (n : Nat) (stops : List Nat) (m : Nat) (ts : List Ty) (rv : Array ResultVar) (path : List Bool) (k : List Item) (E : Env) (L : Heap) : Option (List Dyn × List Prop) :=
  match runA tab ext wr n stops m true k ⟨path, [], E, L, []⟩ with
  | some (.fin S) => match finA tab S.E S.L ts rv.toList with
    | some (ds, us) => match nodupB us with
      | true => some (ds, S.cs)
      | false => none
    | none => none
  | _ => none

theorem AtV.fin {fn : Func} (hf : P.funcs[f]? = some fn) {tab : List TI} {ext : Ext} (hT : TabOk P tab) (hX : ExtOk P ext) (hm : P.follows .mixedOrders = true) {wr : Bool} {stops : List Nat} {m : Nat} {ts : List Ty} {path : List Bool} {k : List Item} {ds : List Dyn} {cs : List Prop}
    (h : runF tab ext wr n stops m ts fn.results path k E L = some (ds, cs)) (hc : All cs) : AtV P f (PostR ds w0) n w0 [] k E L := by
  intro a w V own hR
  unfold runF at h
  split at h
  · rename_i S hr
    split at h
    · rename_i ds' us hfin
      split at h
      · rename_i hnd
        cases h
        refine runA_run hT hX hm hr hc hR decOk_nil ?_
        intro a' w' V' own' hR'
        obtain ⟨rs, bss, g1, g2, g3, g4, g5⟩ := finA_spec (P := P) hT hR' hfin
        refine ⟨hR'.defers, fn, packV rs, hf, ?_, rs, bss, rfl, hR'.kept, g3, ?_, ?_⟩
        · unfold results
          have hm' : (fn.results.mapM fun x => (match x with | .tmp t => pure (a'.tmps.getD t undef) | .cell b t => do loadVar t (← asAddr (a'.tmps.getD b undef)) : Sem Value)).run P w' = .ok rs.toArray w' := by
            rw [show fn.results = fn.results.toList.toArray from rfl, List.mapM_toArray]
            simp only [map_eq_pure_bind, Sem.run_bind, g1, Result.andThen_ok, Sem.run_pure]
          simp only [Sem.run_bind]
          refine (congrArg (fun r => Result.andThen r _) hm').trans ?_
          simp only [Result.andThen_ok, Sem.run_pure]
          congr 1
          match rs with
          | [] => rfl
          | [v] => rfl
          | _ :: _ :: _ => simp [packV]
        · rw [g4]; exact own_nodup hR' (nodupB_spec hnd) g5
        · intro b hb
          rw [g4] at hb
          obtain ⟨l, hl, hb⟩ := List.mem_flatten.1 hb
          obtain ⟨r, hr, rfl⟩ := List.mem_map.1 hl
          obtain ⟨B, hB⟩ := g5 r hr
          exact hR'.good r B hB b hb
      · cases h
    · cases h
  · cases h
end
end Go.Am
