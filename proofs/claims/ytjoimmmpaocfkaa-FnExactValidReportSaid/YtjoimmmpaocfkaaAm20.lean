/- The abstract machine, part 20: runs between cut points. -/
import Derived.Test.YtjoimmmpaocfkaaAm19
namespace Go.Am
set_option linter.unusedVariables false
set_option linter.unusedSimpArgs false

/-- From this list of things to do the function comes to its end. -/
def RunK (P : Program) (f : FuncId) (R : Ending → World → Prop) (k : List Item) (a : Act) (w : World) : Prop :=
  ∀ (b : Frame) cs, b.fn = f → b.kind = .normal → ∃ e w' fr, R e w' ∧ Comes P (lone (b.at a k) cs w) (lone fr cs w') e ∧ fr.fn = f ∧ fr.leaving P w' e

section
variable {P : Program} {f : FuncId} {R : Ending → World → Prop} {k k' : List Item} {a a' : Act} {w w' : World}

theorem RunK.step (h : ∀ (b : Frame) cs, step P (lone (b.at a k) cs w) = .next (lone (b.at a' k') cs w')) (hr : RunK P f R k' a' w') : RunK P f R k a w := fun b cs hb hk => by
  obtain ⟨e, w2, fr, h1, h2, h3, h4⟩ := hr b cs hb hk
  exact ⟨e, w2, fr, h1, Comes.of_steps (.one (h b cs)) h2, h3, h4⟩

theorem RunK.of_wp {c : Code} (h : c.wp P (fun e a' w' => e = .normal ∧ RunK P f R k a' w') a w) : RunK P f R (.code c :: k) a w := fun b cs hb hk => by
  obtain ⟨e, a', w', ⟨rfl, hr⟩, harr⟩ := h b k cs
  obtain ⟨e, w2, fr, h1, h2, h3, h4⟩ := hr b cs hb hk
  exact ⟨e, w2, fr, h1, Comes.of_steps harr h2, h3, h4⟩

/-- What is asked at the end. -/
def FinK (P : Program) (f : FuncId) (R : Ending → World → Prop) (a : Act) (w : World) : Prop :=
  a.defers = [] ∧ ∃ fn v, P.funcs[f]? = some fn ∧ (results fn a.tmps).run P w = .ok v w ∧ R (.returned v) w

theorem RunK.nil (h : FinK P f R a w) : RunK P f R [] a w := fun b cs hb hk => by
  obtain ⟨hd, fn, v, hf, hr, hR⟩ := h
  exact ⟨.returned v, w, _, hR, Steps.one step_end, hb, rfl, hd, hk, fn, by rw [show (b.at a []).fn = f from hb]; exact hf, hr⟩

theorem RunK.ret (h : FinK P f R a w) : RunK P f R (.code .ret :: k) a w := fun b cs hb hk => by
  obtain ⟨hd, fn, v, hf, hr, hR⟩ := h
  exact ⟨.returned v, w, _, hR, Steps.one step_ret, hb, rfl, hd, hk, fn, by rw [show (b.at a (.code .ret :: k)).fn = f from hb]; exact hf, hr⟩

theorem calls_of_run {fn : Func} {c : Code} {args : Array Value} (hf : P.funcs[f]? = some fn) (hb : fn.body = some c)
    (h : RunK P f R [.code c] { tmps := args ++ Array.replicate (fn.ntmps - args.size) undef, defers := [] } w) : Calls P f args w R := by
  intro cs
  let b : Frame := { (default : Frame) with fn := f, kind := .normal }
  have henter : Frame.enter P f args .normal =
      b.at { tmps := args ++ Array.replicate (fn.ntmps - args.size) undef, defers := [] } [.code c] := by
    simp [Frame.enter, Frame.at, hf, hb, b]
  rw [henter]
  exact h b cs rfl rfl
end

/-! ### The evaluator -/

inductive Out where
  | stop (k : List Item) (S : St)
  | fin (S : St)

def Out.st : Out → St
  | .stop _ S => S
  | .fin S => S

/-- A test of code. -/
def decideO (S : St) : Operand → Option (Bool × St)
  | .tmp t => decideS S t
  | .const (.bool b) => some (b, S)
  | _ => none

def runA (tab : List TI) (ext : Ext) (wr : Bool) (n : Nat) (stops : List Nat) : Nat → Bool → List Item → St → Option Out
  | 0, _, _, _ => none
  | _ + 1, _, [], S => some (.fin S)
  | m + 1, first, .inBlock _ :: k, S => runA tab ext wr n stops m first k S
  | m + 1, first, .inLoop c :: k, S => some (.stop (.code c :: .inLoop c :: k) S)
  | m + 1, first, .code c :: k, S => match c with
    | .skip => runA tab ext wr n stops m first k S
    | .label _ => runA tab ext wr n stops m first k S
    | .seq x y => runA tab ext wr n stops m first (.code x :: .code y :: k) S
    | .block id c => runA tab ext wr n stops m first (.code c :: .inBlock id :: k) S
    | .loop c => some (.stop (.code c :: .inLoop c :: k) S)
    | .exit id => match exitTo id k with
      | some k' => runA tab ext wr n stops m first k' S
      | none => none
    | .ret => some (.fin S)
    | .cond c x y => match decideO S c with
      | some (d, S') => runA tab ext wr n stops m false (.code (cond d x y) :: k) S'
      | none => none
    | .region id ops draw => match !first && memB id stops with
      | true => some (.stop (.code (.region id ops draw) :: k) S)
      | false => match regionS tab ext wr n ops draw S with
        | some S' => runA tab ext wr n stops m false k S'
        | none => none
    | _ => none
  | _ + 1, _, _, _ => none

section
variable {P : Program} {n : Nat} {q : Nat → Value} {w0 w : World} {O : List Nat} {a : Act} {V : Nat → Value} {own : Nat → List Nat} {f : FuncId} {R : Ending → World → Prop}

def AtV (P : Program) (f : FuncId) (R : Ending → World → Prop) (n : Nat) (w0 : World) (O : List Nat) (q : Nat → Value) (ps : List Nat) (k : List Item) (E : Env) (L : Heap) : Prop :=
  ∀ a w V own, RelV n w0 O w a E L V own → (∀ t ∈ ps, a.tmps.getD t undef = q t) → RunK P f R k a w

def FinV (P : Program) (f : FuncId) (R : Ending → World → Prop) (n : Nat) (w0 : World) (O : List Nat) (q : Nat → Value) (ps : List Nat) (E : Env) (L : Heap) : Prop :=
  ∀ a w V own, RelV n w0 O w a E L V own → (∀ t ∈ ps, a.tmps.getD t undef = q t) → FinK P f R a w

def OutOk (P : Program) (f : FuncId) (R : Ending → World → Prop) (n : Nat) (w0 : World) (O : List Nat) (q : Nat → Value) : Out → Prop
  | .stop k S => AtV P f R n w0 O q S.pins k S.E S.L
  | .fin S => FinV P f R n w0 O q S.pins S.E S.L

theorem decideO_spec {S S' : St} {x : Operand} {d : Bool} (hR : RelV n w0 O w a S.E S.L V own) (hd : DecOk q a S) (h : decideO S x = some (d, S')) (hc : All S'.cs) :
    a.eval x = .bool d ∧ S'.E = S.E ∧ S'.L = S.L ∧ DecOk q a S' ∧ All S.cs := by
  unfold decideO at h
  split at h
  · exact decideS_spec hR hd h hc
  · cases h; exact ⟨rfl, rfl, rfl, hd, hc⟩
  · cases h

theorem decideO_cs {S S' : St} {x : Operand} {d : Bool} (h : decideO S x = some (d, S')) (hc : All S'.cs) : All S.cs := by
  unfold decideO at h
  split at h
  · exact decideS_cs h hc
  · cases h; exact hc
  · cases h

theorem runA_cs {tab : List TI} {ext : Ext} {wr : Bool} {stops : List Nat} : ∀ {m : Nat} {first : Bool} {k : List Item} {S : St} {out : Out}, runA tab ext wr n stops m first k S = some out → All out.st.cs → All S.cs := by
  intro m
  induction m with
  | zero => intro first k S out h; cases h
  | succ m ih =>
    intro first k S out h hc
    match k, h with
    | [], h => cases h; exact hc
    | .inBlock _ :: k, h => simp only [runA] at h; exact ih h hc
    | .inLoop c :: k, h => cases h; exact hc
    | .code c :: k, h =>
      cases c with
      | skip => simp only [runA] at h; exact ih h hc
      | label _ => simp only [runA] at h; exact ih h hc
      | seq x y => simp only [runA] at h; exact ih h hc
      | block id c => simp only [runA] at h; exact ih h hc
      | loop c => cases h; exact hc
      | exit id =>
        simp only [runA] at h
        split at h
        · exact ih h hc
        · cases h
      | ret => cases h; exact hc
      | cond c x y =>
        simp only [runA] at h
        split at h
        · rename_i hd; exact decideO_cs hd (ih h hc)
        · cases h
      | region id ops draw =>
        simp only [runA] at h
        split at h
        · cases h; exact hc
        · split at h
          · rename_i hr; exact regionS_cs hr (ih h hc)
          · cases h
      | _ => cases h

/-- **A run is sound.** -/
theorem runA_run {tab : List TI} {ext : Ext} (hT : TabOk P tab) (hX : ExtOk P ext) (hm : P.follows .mixedOrders = true) {wr : Bool} {stops : List Nat} : ∀ {m : Nat} {first : Bool} {k : List Item} {S : St} {out : Out} {a : Act} {w : World} {V : Nat → Value} {own : Nat → List Nat},
    runA tab ext wr n stops m first k S = some out → All out.st.cs → RelV n w0 O w a S.E S.L V own → DecOk q a S → OutOk P f R n w0 O q out → RunK P f R k a w := by
  intro m
  induction m with
  | zero => intro first k S out a w V own h; cases h
  | succ m ih =>
    intro first k S out a w V own h hc hR hd ho
    match k, h with
    | [], h => cases h; exact RunK.nil (ho _ _ _ _ hR hd.2)
    | .inBlock _ :: k, h => simp only [runA] at h; exact RunK.step (fun b cs => step_inBlock) (ih h hc hR hd ho)
    | .inLoop c :: k, h => cases h; exact RunK.step (fun b cs => step_inLoop) (ho _ _ _ _ hR hd.2)
    | .code c :: k, h =>
      cases c with
      | skip => simp only [runA] at h; exact RunK.step (fun b cs => step_skip) (ih h hc hR hd ho)
      | label _ => simp only [runA] at h; exact RunK.step (fun b cs => step_label) (ih h hc hR hd ho)
      | seq x y => simp only [runA] at h; exact RunK.step (fun b cs => step_seq) (ih h hc hR hd ho)
      | block id c => simp only [runA] at h; exact RunK.step (fun b cs => step_block) (ih h hc hR hd ho)
      | loop c => cases h; exact RunK.step (fun b cs => step_loop) (ho _ _ _ _ hR hd.2)
      | exit id =>
        simp only [runA] at h
        split at h
        · rename_i k' he; exact RunK.step (fun b cs => step_exit he) (ih h hc hR hd ho)
        · cases h
      | ret => cases h; exact RunK.ret (ho _ _ _ _ hR hd.2)
      | cond c x y =>
        simp only [runA] at h
        split at h
        · rename_i d S' hdec
          obtain ⟨h1, h2, h3, h4, h5⟩ := decideO_spec hR hd hdec (runA_cs h hc)
          refine RunK.step (fun b cs => step_cond h1) ?_
          have := ih h hc (by rw [h2, h3]; exact hR) h4 ho
          cases d <;> exact this
        · cases h
      | region id ops draw =>
        simp only [runA] at h
        split at h
        · cases h; exact ho _ _ _ _ hR hd.2
        · split at h
          · rename_i S' hr
            refine RunK.of_wp (regionS_wp hT hX hm (fun c a w hh => by cases hh.1) hR hd hr (runA_cs h hc) fun a' w' V' own' hR' hd' => ⟨rfl, ih h hc hR' hd' ho⟩)
          · cases h
      | _ => cases h
end

/-! ### Weakening the state -/

def keepE (E : Env) : List Nat → Env
  | [] => []
  | i :: r => (i, E.get i) :: keepE E r

def keepL : List Bool → Heap → Heap
  | true :: bs, a :: l => a :: keepL bs l
  | false :: bs, _ :: l => none :: keepL bs l
  | _, _ => []

def nthB : List Bool → Nat → Bool
  | [], _ => false
  | b :: _, 0 => b
  | _ :: r, n + 1 => nthB r n

def refsOk (bs : List Bool) : List Nat → Bool
  | [] => true
  | r :: s => nthB bs r && refsOk bs s

def envOk (bs : List Bool) : Env → Bool
  | [] => true
  | (_, p) :: r => refsOk bs (refsP p) && envOk bs r

theorem hget_keepL : ∀ (bs : List Bool) (L : Heap) (r : Nat), hget (keepL bs L) r = if nthB bs r = true then hget L r else none
  | [], L, r => by cases L <;> simp [keepL, hget, nthB]
  | b :: bs, [], r => by cases b <;> simp [keepL, hget]
  | true :: bs, a :: l, 0 => by simp [keepL, hget, nthB]
  | false :: bs, a :: l, 0 => by simp [keepL, hget, nthB]
  | true :: bs, a :: l, r + 1 => by simp only [keepL, hget, nthB]; exact hget_keepL bs l r
  | false :: bs, a :: l, r + 1 => by simp only [keepL, hget, nthB]; exact hget_keepL bs l r

theorem get_keepE (E : Env) : ∀ (ks : List Nat) (i : Nat), (keepE E ks).get i = if memB i ks = true then E.get i else .a .junk
  | [], i => rfl
  | j :: r, i => by
    simp only [keepE, Env.get, memB]
    cases h : Nat.beq j i with
    | true =>
      obtain rfl := Nat.eq_of_beq_eq_true h
      simp
    | false =>
      have : Nat.beq i j = false := nbeq_false (fun e => by subst e; simp at h)
      simp [this, get_keepE E r i]

theorem refsOk_spec {bs : List Bool} : ∀ {l : List Nat}, refsOk bs l = true → ∀ r ∈ l, nthB bs r = true
  | [], _, r, h => by cases h
  | a :: s, h, r, hr => by
    simp only [refsOk, Bool.and_eq_true] at h
    rcases List.mem_cons.1 hr with rfl | hr
    · exact h.1
    · exact refsOk_spec h.2 r hr

theorem envOk_spec {bs : List Bool} : ∀ {E : Env}, envOk bs E = true → ∀ i, ∀ r ∈ refsP (E.get i), nthB bs r = true
  | [], _, i, r, h => by simp [Env.get, refsP, refA] at h
  | (j, p) :: E, h, i, r, hr => by
    simp only [envOk, Bool.and_eq_true] at h
    simp only [Env.get] at hr
    cases hj : Nat.beq j i with
    | true => rw [hj] at hr; exact refsOk_spec h.1 r hr
    | false => rw [hj] at hr; exact envOk_spec h.2 i r hr

section
variable {P : Program} {n : Nat} {q : Nat → Value} {w0 w : World} {O : List Nat} {a : Act} {V : Nat → Value} {own : Nat → List Nat} {f : FuncId} {R : Ending → World → Prop} {E : Env} {L : Heap}

theorem RelV.keepE (hR : RelV n w0 O w a E L V own) (ks : List Nat) : RelV n w0 O w a (Am.keepE E ks) L V own :=
  ⟨hR.kept, hR.size, hR.defers, hR.heap, hR.good, hR.nodup, hR.apart, fun i => by
    rw [get_keepE]
    split
    · exact hR.env i
    · trivial⟩

theorem RelV.keepL (hR : RelV n w0 O w a E L V own) {bs : List Bool} (h : envOk bs E = true) : RelV n w0 O w a E (Am.keepL bs L) V own where
  kept := hR.kept
  size := hR.size
  defers := hR.defers
  heap := fun r A hr => by
    rw [hget_keepL] at hr
    split at hr
    · exact hR.heap r A hr
    · cases hr
  good := fun r A hr => by
    rw [hget_keepL] at hr
    split at hr
    · exact hR.good r A hr
    · cases hr
  nodup := fun r A hr => by
    rw [hget_keepL] at hr
    split at hr
    · exact hR.nodup r A hr
    · cases hr
  apart := fun r s A B hr hs => by
    rw [hget_keepL] at hr hs
    split at hr
    · split at hs
      · exact hR.apart r s A B hr hs
      · cases hs
    · cases hr
  env := fun i => by
    refine repP_agree (hR.env i) fun r hr => ⟨rfl, fun A hA => ⟨A, ?_, rfl, rfl⟩⟩
    rw [hget_keepL, if_pos (envOk_spec h i r hr)]
    exact hA

end
end Go.Am
