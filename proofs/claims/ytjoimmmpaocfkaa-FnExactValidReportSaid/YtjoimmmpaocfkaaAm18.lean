/- The abstract machine, part 18: regions and code without loops. -/
import Derived.Test.YtjoimmmpaocfkaaAm17
namespace Go.Am
set_option linter.unusedVariables false
set_option linter.unusedSimpArgs false

section
variable {P : Program} {n : Nat} {w0 w : World} {O : List Nat} {a : Act} {E : Env} {L : Heap} {V : Nat → Value} {own : Nat → List Nat}

theorem wp_of_value {o : Oper} {next : Act → World → Prop} {Q : Exit → Act → World → Prop} {v : Value} {w w' : World} (h : (execOp a.eval o).run P w = .ok (.value v) w') (hn : next (a.put o.dst v) w') : o.wp P a w next Q := by
  unfold Oper.wp
  rw [h]
  exact hn

theorem wp_of_quietAt (hR : RelV n w0 O w a E L V own) {o : Oper} {next : Act → World → Prop} {Q : Exit → Act → World → Prop} {v : Value} (h : o.quietAt P a (Kept [] w) w v)
    (hn : ∀ w', RelV n w0 O w' a E L V own → next (a.put o.dst v) w') : o.wp P a w next Q := by
  unfold Oper.quietAt at h
  unfold Oper.wp
  generalize (execOp a.eval o).run P w = r at *
  cases r with
  | ok nx w' =>
    cases nx <;> simp only [Oper.quietUpon] at h <;> simp only [Oper.upon]
    case value u => obtain ⟨rfl, rfl⟩ := h; exact hn _ hR
    case skip => obtain ⟨rfl, rfl⟩ := h; exact hn _ hR
    case enter f args =>
      obtain ⟨rfl, hc⟩ := h
      refine hc.mono ?_
      rintro e w'' ⟨rfl, hk⟩
      exact hn _ (hR.ext hk)
  | halt x w' => simp only [Oper.quietUpon] at h

/-- **An operation is sound.** -/
theorem opM_spec {tab : List TI} {ext : Ext} (hT : TabOk P tab) (hX : ExtOk P ext) (hR : RelV n w0 O w a E L V own) {wr : Bool} {o : Oper} {cs : List Prop} {pv : PV} {E' : Env} {L' : Heap}
    (h : opM tab ext wr E L o.op = some (cs, pv, E', L')) (hc : All cs) {next : Act → World → Prop} {Q : Exit → Act → World → Prop}
    (hn : ∀ v w' V' own', RelV n w0 O w' a E' L' V' own' → RepP w0 (Good w0 O) L' V' pv v → next (a.put o.dst v) w') : o.wp P a w next Q := by
  have quiet : ∀ {op : Op} (ho : o.op = op) {r : Option (List Prop × PV × Env × Heap)}, (match opQ tab ext wr E L op with | some (cs, pv) => some (cs, pv, E, L) | none => none) = some (cs, pv, E', L') → o.wp P a w next Q := by
    intro op ho r h
    split at h
    · rename_i cs1 pv1 hq
      cases h
      rw [← ho] at hq
      obtain ⟨v, hv, hqa⟩ := opQ_spec hT hX hR hq hc
      exact wp_of_quietAt hR (hqa w (Kept.refl _ _)) fun w' hR' => hn v w' V own hR' hv
    · cases h
  unfold opM at h
  split at h
  · rename_i T x ho
    split at h
    · rename_i A hA
      cases h
      obtain ⟨v, w', V', own', h1, h2, h3⟩ := box_spec hT hR hA
      exact wp_of_value (w' := w') (by simp only [execOp, ho]; exact run_value _ _ _ _ h1) (hn _ _ _ _ h2.1 h3)
    · cases h
  · rename_i T ho
    split at h
    · rename_i A hA
      cases h
      obtain ⟨v, w', V', own', h1, h2, h3⟩ := alloc_spec hT hR hA
      exact wp_of_value (w' := w') (by simp only [execOp, ho]; exact run_value _ _ _ _ h1) (hn _ _ _ _ h2.1 h3)
    · cases h
  · rename_i T k parts ho
    split at h
    · rename_i A hA
      cases h
      obtain ⟨v, w', V', own', h1, h2, h3⟩ := sliceLit_spec hT hR hA
      exact wp_of_value (w' := w') (by simp only [execOp, ho]; exact run_value _ _ _ _ h1) (hn _ _ _ _ h2.1 h3)
    · cases h
  · rename_i T l c ho
    split at h
    · rename_i cs1 A hA
      cases h
      obtain ⟨v, w', V', own', h1, h2, h3⟩ := make_spec hT hR hA hc
      exact wp_of_value (w' := w') (by simp only [execOp, ho]; exact run_value _ _ _ _ h1) (hn _ _ _ _ h2.1 h3)
    · cases h
  · rename_i T x y ho
    split at h
    · rename_i L1 hL
      cases h
      obtain ⟨w', h1, h2⟩ := store_spec hT hR hL
      unfold Oper.wp
      have : (execOp a.eval o).run P w = .ok .skip w' := by simp [execOp, ho, h1]
      rw [this]
      exact hn _ _ _ _ h2 trivial
    · cases h
  · rename_i f args ts ho
    split at h
    · rename_i g ps hg
      obtain ⟨vs, hv, hps⟩ := calleeA_spec hR hg
      obtain ⟨hcall, hcalls⟩ := callA_spec hX hR hps h hc
      unfold Oper.wp
      rw [call_run hcall ho hv]
      refine hcalls.mono ?_
      rintro e w' ⟨v, V', own', rfl, h1, h2⟩
      exact hn _ _ _ _ h1 h2
    · cases h
  · rename_i args ts ho
    split at h
    · rename_i s x T T2 hargs hts
      obtain ⟨v, w', V', own', h1, h2, h3⟩ := append_spec (ty := o.type) hT hR h hc
      refine wp_of_value (w' := w') ?_ (hn _ _ _ _ h2 h3)
      have ea : args = #[s, x] := by cases args; simp_all
      have et : ts = #[T, T2] := by cases ts; simp_all
      subst ea et
      simp only [execOp, ho, resolve, Sem.run_bind, Sem.run_pure, Result.andThen_ok, invoke]
      have : (builtin .append #[T, T2] o.type (#[s, x].map fun | .const _ => true | _ => false) (#[s, x].map a.eval)).run P w = .ok (.value v) w' := by
        simp only [builtin]
        refine run_value _ _ _ _ ?_
        simpa using h1
      exact this
    · cases h
  · rename_i s d x ho
    split at h
    · rename_i A hA
      cases h
      obtain ⟨v, w', V', own', h1, h2, h3⟩ := s2b_spec hT hR hA
      exact wp_of_value (w' := w') (by simp only [execOp, ho]; exact run_value _ _ _ _ h1) (hn _ _ _ _ h2.1 h3)
    · exact quiet (r := none) ho h
  · exact quiet (r := none) rfl h
end

/-! ### The state of the evaluator -/

structure St where
  path : List Bool
  dec : List (Nat × Bool)
  E : Env
  L : Heap
  cs : List Prop
  /-- slots that nobody writes -/
  pins : List Nat

def nthO : List Oper → Nat → Option Oper
  | [], _ => none
  | o :: _, 0 => some o
  | _ :: r, n + 1 => nthO r n

def lookB : List (Nat × Bool) → Nat → Option Bool
  | [], _ => none
  | (t, d) :: r, n => match Nat.beq t n with | true => some d | false => lookB r n

def dropB (t : Nat) : List (Nat × Bool) → List (Nat × Bool)
  | [] => []
  | (s, d) :: r => match Nat.beq s t with | true => dropB t r | false => (s, d) :: dropB t r

def eqBB : Bool → Bool → Bool
  | true, b => b
  | false, b => !b

/-- A test: what the path says. -/
def decideS (S : St) (t : Nat) : Option (Bool × St) :=
  match lookB S.dec t with
  | some d => some (d, S)
  | none => match S.E.get t, S.path with
    | .a (.val (.bool b)), d :: p => some (d, ⟨p, (t, d) :: S.dec, S.E, S.L, S.cs ++ [b = d], S.pins⟩)
    | _, _ => none

def guardS (all : List Oper) (S : St) : Option (Nat × Bool) → Option (Bool × St)
  | none => some (true, S)
  | some (j, want) => match nthO all j with
    | some o => match o.dst with
      | some t => match S.E.get t with
        | .a (.val (.tuple _)) => some (false, S)
        | _ => match decideS S t with
          | some (d, S') => some (eqBB d want, S')
          | none => none
      | none => none
    | none => none

def putS (n : Nat) (S : St) (E : Env) (L : Heap) (cs : List Prop) : Option Nat → PV → Option St
  | none, _ => some ⟨S.path, S.dec, E, L, S.cs ++ cs, S.pins⟩
  | some d, pv => match Nat.blt d n && !memB d S.pins with
    | true => some ⟨S.path, dropB d S.dec, E.set d pv, L, S.cs ++ cs, S.pins⟩
    | false => none

/-- One operation of a region. -/
def stepO (tab : List TI) (ext : Ext) (wr : Bool) (n : Nat) (quiet : Bool) (all : List Oper) (S : St) (o : Oper) : Option St :=
  match guardS all S o.guard with
  | none => none
  | some (false, S) => putS n S S.E S.L [] o.dst (.a (.val undef))
  | some (true, S) => match o.op with
    | .pick (.tmp c) x y => match decideS S c with
      | some (d, S) => putS n S S.E S.L [] o.dst (cond d (opnd S.E x) (opnd S.E y))
      | none => none
    | op => match quiet with
      | true => match opQ tab ext wr S.E S.L op with
        | some (cs, pv) => putS n S S.E S.L cs o.dst pv
        | none => none
      | false => match opM tab ext wr S.E S.L op with
        | some (cs, pv, E, L) => putS n S E L cs o.dst pv
        | none => none

def stepsO (tab : List TI) (ext : Ext) (wr : Bool) (n : Nat) (quiet : Bool) (all : List Oper) : List Oper → St → Option St
  | [], S => some S
  | o :: r, S => match stepO tab ext wr n quiet all S o with
    | some S' => stepsO tab ext wr n quiet all r S'
    | none => none

section
variable {P : Program} {n : Nat} {w0 w : World} {O : List Nat} {a : Act} {E : Env} {L : Heap} {V : Nat → Value} {own : Nat → List Nat}

theorem nthO_eq : ∀ (l : List Oper) (j : Nat), nthO l j = l[j]?
  | [], j => rfl
  | o :: r, 0 => rfl
  | o :: r, j + 1 => by simp [nthO, nthO_eq r j]

def DecOk (q : Nat → Value) (a : Act) (S : St) : Prop := (∀ t d, lookB S.dec t = some d → a.tmps.getD t undef = .bool d) ∧ ∀ t ∈ S.pins, a.tmps.getD t undef = q t

theorem lookB_drop : ∀ (dec : List (Nat × Bool)) (s t : Nat), lookB (dropB s dec) t = if s = t then none else lookB dec t
  | [], s, t => by simp [dropB, lookB]
  | (u, d) :: r, s, t => by
    simp only [dropB]
    cases h : Nat.beq u s with
    | true =>
      obtain rfl := Nat.eq_of_beq_eq_true h
      rw [lookB_drop r u t]
      by_cases ht : u = t
      · simp [ht]
      · simp only [if_neg ht, lookB, nbeq_false ht]
    | false =>
      have hne : u ≠ s := fun e => by subst e; simp at h
      simp only [lookB, lookB_drop r s t]
      cases ht : Nat.beq u t with
      | true =>
        obtain rfl := Nat.eq_of_beq_eq_true ht
        simp only [ht, if_neg (Ne.symm hne)]
      | false => rfl

theorem DecOk.put {q : Nat → Value} {S S' : St} (h : DecOk q a S) (d : Nat) (v : Value) (hp : d ∉ S.pins) (e1 : S'.dec = dropB d S.dec) (e2 : S'.pins = S.pins) : DecOk q (a.put (some d) v) S' := by
  have other : ∀ t, d ≠ t → (a.put (some d) v).tmps.getD t undef = a.tmps.getD t undef := fun t hne => by
    simp only [Act.put]
    simp [Array.getD_eq_getD_getElem?, Array.getElem?_setIfInBounds_ne hne]
  constructor
  · intro t b hb
    rw [e1, lookB_drop] at hb
    split at hb
    · cases hb
    · rename_i hne
      rw [other t hne]
      exact h.1 t b hb
  · intro t ht
    rw [e2] at ht
    rw [other t (fun e => hp (by rw [e]; exact ht))]
    exact h.2 t ht

theorem decideS_spec {q : Nat → Value} {S S' : St} {t : Nat} {d : Bool} (hR : RelV n w0 O w a S.E S.L V own) (hd : DecOk q a S) (h : decideS S t = some (d, S')) (hc : All S'.cs) :
    a.tmps.getD t undef = .bool d ∧ S'.E = S.E ∧ S'.L = S.L ∧ DecOk q a S' ∧ All S.cs := by
  unfold decideS at h
  split at h
  · rename_i d' hl
    cases h
    exact ⟨hd.1 _ _ hl, rfl, rfl, hd, hc⟩
  · split at h
    · rename_i b d' p hg hp
      cases h
      obtain ⟨h1, h2⟩ := All.append.1 hc
      have hv := hR.valEq (x := .tmp t) (v := .bool b) (by simp only [opnd]; rw [hg])
      have hb : b = d := h2.1
      subst hb
      refine ⟨hv.1, rfl, rfl, ⟨?_, hd.2⟩, h1⟩
      intro s c hs
      simp only [lookB] at hs
      split at hs
      · rename_i hst
        obtain rfl := Nat.eq_of_beq_eq_true hst
        cases hs
        exact hv.1
      · exact hd.1 s c hs
    · cases h
end
end Go.Am
