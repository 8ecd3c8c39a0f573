/- The abstract machine, part 7: the evaluator of reading operations, and that it is sound. -/
import Derived.Test.YtjoimmmpaocfkaaAm6
namespace Go.Am
set_option linter.unusedVariables false
set_option linter.unusedSimpArgs false

/-! ### From atoms back to trees -/

def decB : (t : Ty) → Atom → Option t.den
  | .int k, .val (.int k' n) => match decide (k = k') with | true => some n | false => none
  | .bool, .val (.bool b) => some b
  | .str, .val (.string s) => some s
  | .sl _, .val (.slice none _ _) => some []
  | .sl e, .sl t xs => if h : t = e then some (h ▸ xs) else none
  | .unit, .st t x => if h : t = .unit then some () else none
  | .cons a b, .st t x => if h : t = .cons a b then some (h ▸ x) else none
  | _, _ => none

theorem decB_spec {w : World} {G : Nat → Prop} : ∀ {t : Ty} {A : Atom} {x : t.den} {v : Value}, RepB w G A v → decB t A = some x → ∃ cs, RepC w G t x cs ∧ v = valOf t cs
  | .int k, A, x, v, hr, h => by
    cases A with
    | val u => cases u with
      | int k' n =>
        simp only [decB] at h
        split at h
        · rename_i hd
          have := of_decide_eq_true hd
          cases h
          obtain ⟨rfl, ho⟩ := hr
          subst this
          exact ⟨_, ⟨rfl, ho⟩, rfl⟩
        · cases h
      | _ => cases h
    | _ => cases h
  | .bool, A, x, v, hr, h => by
    cases A with
    | val u => cases u with
      | bool b => cases h; obtain ⟨rfl, ho⟩ := hr; exact ⟨_, rfl, rfl⟩
      | _ => cases h
    | _ => cases h
  | .str, A, x, v, hr, h => by
    cases A with
    | val u => cases u with
      | string b => cases h; obtain ⟨rfl, ho⟩ := hr; exact ⟨_, ⟨rfl, ho⟩, rfl⟩
      | _ => cases h
    | _ => cases h
  | .sl e, A, x, v, hr, h => by
    cases A with
    | val u => cases u with
      | slice b n c => cases b with
        | none =>
          cases h
          obtain ⟨rfl, h1, h2⟩ := hr
          subst h1 h2
          exact ⟨_, ⟨_, rfl, Nat.zero_le _, .inl ⟨rfl, rfl⟩⟩, rfl⟩
        | some b => cases h
      | _ => cases h
    | sl t xs =>
      simp only [decB] at h
      split at h
      · rename_i ht
        subst ht
        cases h
        exact ⟨_, ⟨v, rfl, hr⟩, rfl⟩
      · cases h
    | _ => cases h
  | .unit, A, x, v, hr, h => by
    cases A with
    | st t y =>
      simp only [decB] at h
      split at h
      · rename_i ht
        subst ht
        cases h
        obtain ⟨cs, rfl, hc⟩ := hr
        exact ⟨cs, hc, rfl⟩
      · cases h
    | val u => cases u <;> cases h
    | _ => cases h
  | .cons a b, A, x, v, hr, h => by
    cases A with
    | st t y =>
      simp only [decB] at h
      split at h
      · rename_i ht
        subst ht
        cases h
        obtain ⟨cs, rfl, hc⟩ := hr
        exact ⟨cs, hc, rfl⟩
      · cases h
    | val u => cases u <;> cases h
    | _ => cases h

/-! ### A struct out of its parts -/

def setA : (t : Ty) → t.den → Nat → Atom → Option t.den
  | .cons a _, x, 0, A => match decB a A with | some y => some (y, x.2) | none => none
  | .cons _ b, x, n + 1, A => match setA b x.2 n A with | some y => some (x.1, y) | none => none
  | _, _, _, _ => none

def splice (cs : List Value) (o : Nat) (c : List Value) : List Value := cs.take o ++ c ++ cs.drop (o + c.length)

theorem setA_spec {w : World} {G : Nat → Prop} {A : Atom} {v : Value} (hA : ∀ t (x : t.den), decB t A = some x → RepB w G A v) : ∀ {t : Ty} {x x' : t.den} {n : Nat} {cs : List Value}, setA t x n A = some x' → RepC w G t x cs →
    ∃ o ft c, fldOff t n = some (o, ft) ∧ v = valOf ft c ∧ (∃ y, RepC w G ft y c) ∧ o + ft.size ≤ cs.length ∧ RepC w G t x' (splice cs o c)
  | .cons a b, x, x', 0, cs, h, hr => by
    obtain ⟨c1, c2, rfl, h1, h2⟩ := hr
    simp only [setA] at h
    split at h
    · rename_i y hy
      cases h
      obtain ⟨c, hc, hv⟩ := decB_spec (hA _ _ hy) hy
      refine ⟨0, a, c, rfl, hv, ⟨y, hc⟩, by rw [List.length_append, h1.length]; omega, c, c2, ?_, hc, h2⟩
      simp [splice, hc.length, ← h1.length]
    · cases h
  | .cons a b, x, x', n + 1, cs, h, hr => by
    obtain ⟨c1, c2, rfl, h1, h2⟩ := hr
    simp only [setA] at h
    split at h
    · rename_i y hy
      cases h
      obtain ⟨o, ft, c, ho, hv, hl, hle, hc⟩ := setA_spec hA (t := b) hy h2
      refine ⟨a.size + o, ft, c, by simp [fldOff, ho], hv, hl, by rw [List.length_append, h1.length]; omega, c1, splice c2 o c, ?_, h1, hc⟩
      simp [splice, ← h1.length, List.take_append, List.drop_append, List.take_of_length_le, Nat.add_assoc]
    · cases h
  | .int _, _, _, _, _, h, _ => by cases h
  | .bool, _, _, _, _, h, _ => by cases h
  | .str, _, _, _, _, h, _ => by cases h
  | .sl _, _, _, _, _, h, _ => by cases h
  | .unit, _, _, _, _, h, _ => by cases h

def buildA (t : Ty) : t.den → List (Nat × PV) → Option t.den
  | x, [] => some x
  | x, (n, .a A) :: r => match setA t x n A with | some y => buildA t y r | none => none
  | _, _ => none

theorem dcells_rep (w : World) (G : Nat → Prop) : ∀ t : Ty, RepC w G t t.dflt (dcells t)
  | .int k => ⟨rfl, by cases k <;> simp [InR, IntKind.min, IntKind.max, IntKind.bits, IntKind.signed, Ty.dflt]⟩
  | .bool => rfl
  | .str => ⟨rfl, Nat.zero_le _⟩
  | .sl e => ⟨_, rfl, Nat.zero_le _, .inl ⟨rfl, rfl⟩⟩
  | .unit => rfl
  | .cons a b => ⟨_, _, rfl, dcells_rep w G a, dcells_rep w G b⟩

theorem fill_splice (cells : Array Value) (off : Nat) (c : List Value) (h : off + c.length ≤ cells.size) :
    (c.toArray.zipIdx.foldl (fun cs (x : Value × Nat) => cs.setIfInBounds (off + x.2) x.1) cells).toList = splice cells.toList off c := by
  have key : ∀ (c : List Value) (k : Nat) (cells : Array Value), off + k + c.length ≤ cells.size →
      ((c.zipIdx k).foldl (fun cs (x : Value × Nat) => cs.setIfInBounds (off + x.2) x.1) cells).toList = cells.toList.take (off + k) ++ c ++ cells.toList.drop (off + k + c.length) := by
    intro c
    induction c with
    | nil => intro k cells h; simp
    | cons v r ih =>
      intro k cells h
      simp only [List.length_cons] at h
      simp only [List.zipIdx_cons, List.foldl_cons]
      rw [ih (k + 1) _ (by simp; omega)]
      simp only [Array.toList_setIfInBounds]
      have h1 : off + (k + 1) = off + k + 1 := by omega
      have hlt : off + k < cells.toList.length := by rw [Array.length_toList]; omega
      rw [h1, List.take_add_one]
      simp only [List.getElem?_set_self hlt, Option.toList_some, List.append_assoc, List.cons_append, List.nil_append, List.length_cons]
      rw [List.take_set_of_le (Nat.le_refl _), List.drop_set_of_lt (by omega)]
      rw [show off + k + 1 + r.length = off + k + (r.length + 1) from by omega]
  have := key c 0 cells (by simpa using h)
  simpa [splice] using this

section
variable {P : Program}

theorem fill_step (place : Nat → Option (Nat × Nat)) (cells : List Value) (n o : Nat) (v : Value) (c : List Value) (sz : Nat) (rest : List (Nat × Value)) (hp : place n = some (o, sz)) (hv : v.cells.toList = c) (hl : c.length = sz) (hle : o + sz ≤ cells.length) :
    Instr.fill place cells.toArray ((n, v) :: rest) = Instr.fill place (splice cells o c).toArray rest := by
  have hs : v.cells.size = sz := by rw [← Array.length_toList, hv, hl]
  have hcs : v.cells = c.toArray := by rw [← hv]
  simp only [Instr.fill, hp, hs]
  rw [if_neg (by simp; omega)]
  congr 1
  rw [hcs]
  have h3 := fill_splice cells.toArray o c (by simp; omega)
  have h4 := congrArg List.toArray h3
  simpa using h4

theorem valOf_cells {t : Ty} {cs : List Value} {w : World} {G : Nat → Prop} {x : t.den} (h : RepC w G t x cs) : (valOf t cs).cells.toList = cs := by
  unfold valOf
  by_cases ha : t.agg = true
  · rw [if_pos ha]; simp [Value.cells]
  · rw [if_neg ha]
    have h1 : t.size = 1 := by cases t <;> simp_all [Ty.agg, Ty.size]
    have hl := h.length
    rw [h1] at hl
    match cs, hl with
    | [c], _ =>
      cases t with
      | int k => obtain ⟨h, _⟩ := h; cases h; rfl
      | bool => cases h; rfl
      | str => obtain ⟨h, _⟩ := h; cases h; rfl
      | sl e =>
        obtain ⟨v, h, h2⟩ := h
        cases h
        rcases h2.2 with ⟨rfl, _⟩ | ⟨b, off, cap, rfl, _⟩ <;> rfl
      | unit => simp [Ty.agg] at ha
      | cons a b => simp [Ty.agg] at ha

def PartsRep (w : World) (G : Nat → Prop) : List (Nat × PV) → List (Nat × Value) → Prop
  | [], vs => vs = []
  | p :: r, vs => ∃ v s, vs = (p.1, v) :: s ∧ (∀ A, p.2 = .a A → ∀ t (x : t.den), decB t A = some x → RepB w G A v) ∧ PartsRep w G r s

theorem buildA_spec {w : World} {G : Nat → Prop} {t : Ty} {place : Nat → Option (Nat × Nat)} (hpl : ∀ n o ft, fldOff t n = some (o, ft) → place n = some (o, ft.size)) :
    ∀ {parts : List (Nat × PV)} {vs : List (Nat × Value)} {x x' : t.den} {cs : List Value}, buildA t x parts = some x' → PartsRep w G parts vs → RepC w G t x cs →
    ∃ cs', Instr.fill place cs.toArray vs = some cs'.toArray ∧ RepC w G t x' cs'
  | [], vs, x, x', cs, h, hv, hr => by
    cases hv; cases h
    exact ⟨cs, rfl, hr⟩
  | (n, .a A) :: r, vs, x, x', cs, h, hv, hr => by
    obtain ⟨v, s, rfl, h1, h2⟩ := hv
    simp only [buildA] at h
    split at h
    · rename_i y hy
      obtain ⟨o, ft, c, ho, hvc, ⟨z, hz⟩, hle, hrep⟩ := setA_spec (h1 A rfl) hy hr
      obtain ⟨cs', hf, hr'⟩ := buildA_spec hpl h h2 hrep
      refine ⟨cs', ?_, hr'⟩
      rw [fill_step place cs n o v c ft.size s (hpl n o ft ho) (by rw [hvc]; exact valOf_cells hz) hz.length hle]
      exact hf
    · cases h
  | (_, .tup _) :: _, _, _, _, _, h, _, _ => by cases h
  | (_, .fn _ _) :: _, _, _, _, _, h, _, _ => by cases h

theorem mapM_run {α β : Type} {w : World} (f : α → Sem β) (g : α → β) : ∀ (l : List α), (∀ x ∈ l, (f x).run P w = .ok (g x) w) → (l.mapM f).run P w = .ok (l.map g) w
  | [], _ => by simp
  | x :: r, h => by
    rw [List.mapM_cons]
    simp only [Sem.run_bind, h x (List.mem_cons_self ..), Result.andThen_ok, mapM_run f g r (fun y hy => h y (List.mem_cons_of_mem _ hy)), Sem.run_pure, List.map_cons]

theorem fieldsOk_size : ∀ {fs : List Field} {t : Ty} {o : Nat}, FieldsOk P fs t o → ∀ f ∈ fs, ∃ ft, TyOk P f.type ft
  | f :: fs, .cons a b, o, h, g, hg => by
    rcases List.mem_cons.1 hg with rfl | hg
    · exact ⟨a, h.2.1⟩
    · exact fieldsOk_size h.2.2.2 g hg
  | [], .unit, _, _, _, hg => by cases hg
  | [], .int _, _, h, _, _ => h.elim
  | [], .bool, _, h, _, _ => h.elim
  | [], .str, _, h, _, _ => h.elim
  | [], .sl _, _, h, _, _ => h.elim
  | [], .cons _ _, _, h, _, _ => h.elim
  | _ :: _, .int _, _, h, _, _ => h.elim
  | _ :: _, .bool, _, h, _, _ => h.elim
  | _ :: _, .str, _, h, _, _ => h.elim
  | _ :: _, .sl _, _, h, _, _ => h.elim
  | _ :: _, .unit, _, h, _, _ => h.elim

theorem build_run {T : TypeId} {t : Ty} (hT : TIOk P T (.struct t)) (ha : t.agg = true) {w0 : World} {G : Nat → Prop} {parts : List (Nat × PV)} {vs : List (Nat × Value)} {x : t.den}
    (h : buildA t t.dflt parts = some x) (hv : PartsRep w0 G parts vs) : ∃ cs, RepC w0 G t x cs ∧ ∀ w : World, (Instr.build T vs.toArray).run P w = .ok (.agg cs.toArray) w := by
  obtain ⟨ht, fs, hu, hfs, _⟩ := hT
  let place : Nat → Option (Nat × Nat) := fun i => (fs.toList.map fun f => (f.offset, P.cellsOf f.type)).toArray[i]?
  have hcell : ∀ {T : TypeId} {t : Ty}, TyOk P T t → P.cellsOf T = t.size := fun {T t} h => by
    obtain ⟨i, hi, hs, _⟩ := h.info
    simp [Program.cellsOf, hi, hs]
  have hpl : ∀ n o ft, fldOff t n = some (o, ft) → place n = some (o, ft.size) := fun n o ft hf => by
    obtain ⟨f, h1, h2, h3, _⟩ := fields_get hfs hf
    simp only [place, List.getElem?_toArray, List.getElem?_map, h1, Option.map_some, h2, hcell h3, Nat.zero_add]
  obtain ⟨cs, hf, hr⟩ := buildA_spec hpl h hv (dcells_rep w0 G t)
  refine ⟨cs, hr, fun w => ?_⟩
  unfold Instr.build
  have hz : (valOf t (dcells t)).cells = (dcells t).toArray := by
    have h5 := congrArg List.toArray (valOf_cells (dcells_rep w0 G t))
    simpa using h5
  have hm : (fs.mapM fun f => do pure (f.offset, ← sizeOf f.type) : Sem (Array (Nat × Nat))).run P w = .ok (fs.toList.map fun f => (f.offset, P.cellsOf f.type)).toArray w := by
    rw [Array.mapM_eq_mapM_toList]
    simp only [Sem.run_map]
    rw [mapM_run _ (fun f => (f.offset, P.cellsOf f.type)) fs.toList (fun f hf => by
      obtain ⟨ft, h⟩ := fieldsOk_size hfs f hf
      simp [h.size_run, hcell h])]
    rfl
  simp only [Sem.run_bind, ht.zero_run, Result.andThen_ok, run_underlying hu, hm, hz]
  have hf' : Instr.fill (fun x => (fs.toList.map fun f => (f.offset, P.cellsOf f.type)).toArray[x]?) (dcells t).toArray vs = some cs.toArray := hf
  rw [hf']
  rfl
end
end Go.Am
