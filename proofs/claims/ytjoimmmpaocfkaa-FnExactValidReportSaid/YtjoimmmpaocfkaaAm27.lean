/- The abstract machine, part 27: operations that leave memory alone but for new blocks, and regions whose order is drawn. -/
import Derived.Test.YtjoimmmpaocfkaaAm18
import Derived.OrdersHeld
namespace Go.Am
set_option linter.unusedVariables false
set_option linter.unusedSimpArgs false

/-- The call of a function that takes nothing over. -/
def callK (ext : Ext) (L : Heap) (f : FuncId) (ps : List PV) : Option (List Prop × PV × Heap) :=
  match ext with
  | [] => none
  | (g, S) :: r => match Nat.beq f g with
    | true => match decArgs L S.sig ps with
      | some (x, os, us) => match os.flatten, resA L.length (S.res x) with
        | [], some (as, es) => some ([S.pre x], packA as, L ++ es)
        | _, _ => callK r L f ps
      | none => callK r L f ps
    | false => callK r L f ps

/-- An operation that writes nothing that was there. -/
def opK (tab : List TI) (ext : Ext) (E : Env) (L : Heap) : Op → Option (List Prop × PV × Heap)
  | .box T x => match boxA tab T (opnd E x) with
    | some A => some ([], .a (.optr L.length 0 []), L ++ [some A])
    | none => none
  | .alloc T => match allocA tab T with
    | some A => some ([], .a (.optr L.length 0 []), L ++ [some A])
    | none => none
  | .buildSlice T n parts => match sliceLitA tab T n (parts.toList.map fun p => (p.1, opnd E p.2)) with
    | some A => some ([], .a (.osl L.length none), L ++ [some A])
    | none => none
  | .makeSlice T l c => match makeA tab T (opnd E l) (opnd E c) with
    | some (cs, A) => some (cs, .a (.osl L.length none), L ++ [some A])
    | none => none
  | .call { callee := .value f, args, argTypes } => match calleeA E f args.toList with
    | some (g, ps) => callK ext L g ps
    | none => none
  | .convert s d x => match s2bA tab s d (opnd E x) with
    | some A => some ([], .a (.osl L.length none), L ++ [some A])
    | none => none
  | _ => none

section
variable {P : Program} {n : Nat} {w0 w : World} {O : List Nat} {a : Act} {E : Env} {L : Heap} {V : Nat → Value} {own : Nat → List Nat}

theorem callK_spec : ∀ {ext : Ext} (hX : ExtOk P ext) (hR : RelV n w0 O w a E L V own) {f : FuncId} {ps : List PV} {vs : List Value} {cs : List Prop} {pv : PV} {L' : Heap}
    (hps : RepPs w0 (Good w0 O) L V ps vs) (h : callK ext L f ps = some (cs, pv, L')) (hc : All cs),
    Callable P f ∧ Calls P f vs.toArray w fun e w' => ∃ v V' own', e = .returned v ∧ Kept [] w w' ∧ RelV n w0 O w' a E L' V' own' ∧ RepP w0 (Good w0 O) L' V' pv v
  | [], _, _, _, _, _, _, _, _, _, h, _ => by cases h
  | (g, S) :: r, hX, hR, f, ps, vs, cs, pv, L', hps, h, hc => by
    obtain ⟨⟨hcall, hcon⟩, hX'⟩ := hX
    simp only [callK] at h
    split at h
    · rename_i hfg
      obtain rfl := Nat.eq_of_beq_eq_true hfg
      split at h
      · rename_i x os us hd
        split at h
        · rename_i as es hos hres
          cases h
          obtain ⟨hpre, _⟩ := hc
          have hargs := decArgs_rep hR (Kept.refl [] w) (H := (ownOf own os).flatten) (by rw [ownOf_nil hos]; simp) hps hd (by rw [ownOf_nil hos]; simp)
          refine ⟨hcall, (hcon w x _ _ hpre hargs (by rw [ownOf_nil hos]; exact List.nodup_nil)).mono ?_⟩
          rintro e w' ⟨rs, ubs, rbs, rfl, hk, hrr, hur, hnn, hgg⟩
          rw [ownOf_nil hos] at hk hgg
          rw [List.nodup_append] at hnn
          have hnew : ∀ b ∈ rbs.flatten, w.heap.size ≤ b := fun b hb => by
            have h1 := hgg b (List.mem_append_right _ hb)
            rcases Nat.lt_or_ge b w.heap.size with hlt | hge
            · exact absurd ⟨hlt, by simp⟩ h1
            · exact hge
          obtain ⟨V', own', h4, h5, h6, h7, _⟩ := res_spec (hR.ext hk) hres hrr hnn.2.1 (fun b hb hg => by have := hnew b hb; have := hg.1; have := hR.kept.size; omega) (fun r A hA b hb hm => by have := hnew b hm; have := hR.own_lt hA b hb; omega)
          exact ⟨_, V', own', rfl, hk, h4, packV_rep h5⟩
        · exact callK_spec hX' hR hps h hc
      · exact callK_spec hX' hR hps h hc
    · exact callK_spec hX' hR hps h hc

/-- **Such an operation is sound.** -/
theorem opK_spec {tab : List TI} {ext : Ext} (hT : TabOk P tab) (hX : ExtOk P ext) (hR : RelV n w0 O w a E L V own) {o : Oper} {cs : List Prop} {pv : PV} {L' : Heap}
    (h : opK tab ext E L o.op = some (cs, pv, L')) (hc : All cs) {next : Act → World → Prop} {Q : Exit → Act → World → Prop}
    (hn : ∀ v w' V' own', Kept [] w w' → RelV n w0 O w' a E L' V' own' → RepP w0 (Good w0 O) L' V' pv v → next (a.put o.dst v) w') : o.wp P a w next Q := by
  unfold opK at h
  split at h
  · rename_i T x ho
    split at h
    · rename_i A hA
      cases h
      obtain ⟨v, w', V', own', h1, h2, h3⟩ := box_spec hT hR hA
      exact wp_of_value (w' := w') (by simp only [execOp, ho]; exact run_value _ _ _ _ h1) (hn _ _ _ _ h2.2.kept h2.1 h3)
    · cases h
  · rename_i T ho
    split at h
    · rename_i A hA
      cases h
      obtain ⟨v, w', V', own', h1, h2, h3⟩ := alloc_spec hT hR hA
      exact wp_of_value (w' := w') (by simp only [execOp, ho]; exact run_value _ _ _ _ h1) (hn _ _ _ _ h2.2.kept h2.1 h3)
    · cases h
  · rename_i T k parts ho
    split at h
    · rename_i A hA
      cases h
      obtain ⟨v, w', V', own', h1, h2, h3⟩ := sliceLit_spec hT hR hA
      exact wp_of_value (w' := w') (by simp only [execOp, ho]; exact run_value _ _ _ _ h1) (hn _ _ _ _ h2.2.kept h2.1 h3)
    · cases h
  · rename_i T l c ho
    split at h
    · rename_i cs1 A hA
      cases h
      obtain ⟨v, w', V', own', h1, h2, h3⟩ := make_spec hT hR hA hc
      exact wp_of_value (w' := w') (by simp only [execOp, ho]; exact run_value _ _ _ _ h1) (hn _ _ _ _ h2.2.kept h2.1 h3)
    · cases h
  · rename_i f args ts ho
    split at h
    · rename_i g ps hg
      obtain ⟨vs, hv, hps⟩ := calleeA_spec hR hg
      obtain ⟨hcall, hcalls⟩ := callK_spec hX hR hps h hc
      unfold Oper.wp
      rw [call_run hcall ho hv]
      refine hcalls.mono ?_
      rintro e w' ⟨v, V', own', rfl, h0, h1, h2⟩
      exact hn _ _ _ _ h0 h1 h2
    · cases h
  · rename_i s d x ho
    split at h
    · rename_i A hA
      cases h
      obtain ⟨v, w', V', own', h1, h2, h3⟩ := s2b_spec hT hR hA
      exact wp_of_value (w' := w') (by simp only [execOp, ho]; exact run_value _ _ _ _ h1) (hn _ _ _ _ h2.2.kept h2.1 h3)
    · cases h
  · cases h
end

/-! ### Orders -/

/-- What must be done ahead of the operations js. -/
def ancs (ops : Array Oper) : Nat → List Nat → List Nat
  | 0, _ => []
  | m + 1, js =>
    let d := js.flatMap fun j => match ops[j]? with
      | some o => (o.after.toList.filter fun e => Region.binds .any e).map fun e => e.on
      | none => []
    d ++ ancs ops m d

/-- All that is listed must be done ahead of i. -/
def barB (ops : Array Oper) (listed : Array Bool) (i : Nat) : Bool :=
  (List.range ops.size).all fun k => !listed.getD k true || memB k (ancs ops ops.size [i])

/-- What is listed is closed. -/
def Down (ops : Array Oper) (listed : Array Bool) : Prop :=
  ∀ k o, listed.getD k false = true → ops[k]? = some o → ∀ e ∈ o.after, Region.binds .any e = true → listed.getD e.on false = true

section
variable {P : Program} {ops : Array Oper} {Q : Exit → Act → World → Prop}

theorem Down.start (ops : Array Oper) (m : Nat) : Down ops (Array.replicate m false) := fun k o h => by
  exfalso
  rw [Array.getD_eq_getD_getElem?, Array.getElem?_replicate] at h
  split at h <;> simp at h

theorem Down.set {listed : Array Bool} (h : Down ops listed) {i : Nat} (hi : i ∈ Region.ready .any ops listed) : Down ops (listed.setIfInBounds i true) := by
  intro k o hk ho e he hb
  by_cases hki : i = k
  · subst hki
    obtain ⟨_, o', ho', hall⟩ := mem_ready.1 hi
    rw [ho] at ho'
    cases ho'
    exact getD_set_true (hall e he hb)
  · rw [getD_set_ne false hki] at hk
    exact getD_set_true (h k o hk ho e he hb)

theorem mem_ancs {listed : Array Bool} (hD : Down ops listed) : ∀ {m : Nat} {js : List Nat}, (∀ j ∈ js, ∀ o, ops[j]? = some o → ∀ e ∈ o.after, Region.binds .any e = true → listed.getD e.on false = true) →
    ∀ k ∈ ancs ops m js, listed.getD k false = true
  | 0, _, _, k, hk => by cases hk
  | m + 1, js, h, k, hk => by
    simp only [ancs] at hk
    have hd : ∀ k ∈ (js.flatMap fun j => match ops[j]? with
        | some o => (o.after.toList.filter fun e => Region.binds .any e).map fun e => e.on
        | none => []), listed.getD k false = true := by
      intro k hk
      obtain ⟨j, hj, hk⟩ := List.mem_flatMap.1 hk
      split at hk
      · rename_i o ho
        obtain ⟨e, he, rfl⟩ := List.mem_map.1 hk
        obtain ⟨he, hb⟩ := List.mem_filter.1 he
        exact h j hj o ho e (by simpa using he) hb
      · cases hk
    rcases List.mem_append.1 hk with hk | hk
    · exact hd k hk
    · exact mem_ancs hD (fun j hj o ho e he hb => hD j o (hd j hj) ho e he hb) k hk

/-- Whatever comes up from here on, in whatever world above this one. -/
def wpAnyK (P : Program) (ops : Array Oper) (Q : Exit → Act → World → Prop) : Nat → Array Bool → Act → World → Prop
  | 0, listed, a, w => ∀ w1, Kept [] w w1 → Region.ready .any ops listed = [] ∧ Q .normal a w1
  | fuel + 1, listed, a, w => ∀ w1, Kept [] w w1 → (Region.ready .any ops listed = [] → Q .normal a w1) ∧
    ∀ i ∈ Region.ready .any ops listed, wpOp P ops Q i (fun a' w' => (barB ops listed i = true ∨ Kept [] w1 w') ∧ wpAnyK P ops Q fuel (listed.setIfInBounds i true) a' w') a w1

theorem wpAnyK.up : ∀ {fuel : Nat} {listed : Array Bool} {a : Act} {w w1 : World}, wpAnyK P ops Q fuel listed a w → Kept [] w w1 → wpAnyK P ops Q fuel listed a w1
  | 0, _, _, _, _, h, k => fun w2 k2 => h w2 (k.trans k2)
  | _ + 1, _, _, _, _, h, k => fun w2 k2 => h w2 (k.trans k2)

theorem wpAny_of_K : ∀ (fuel : Nat) (listed : Array Bool) (a : Act) (w : World), wpAnyK P ops Q fuel listed a w → wpAny P .any ops Q fuel listed a w
  | 0, _, _, w, h => h w (Kept.refl _ _)
  | fuel + 1, _, _, w, h => ⟨(h w (Kept.refl _ _)).1, fun i hi => wpOp_mono (fun a' w' h' => wpAny_of_K fuel _ a' w' h'.2) ((h w (Kept.refl _ _)).2 i hi)⟩

/-- In every world above w the operation yields v, and keeps what was there. -/
def YieldsK (P : Program) (ops : Array Oper) (o : Oper) (v : Value) (a : Act) (w : World) : Prop :=
  (Region.wanted o (yielded ops a.tmps) = true ∧ ∀ w', Kept [] w w' → o.quietAt P a (Kept [] w') w' v) ∨
  (Region.wanted o (yielded ops a.tmps) = false ∧ v = undef)

theorem YieldsK.up {o : Oper} {v : Value} {a : Act} {w w1 : World} (h : YieldsK P ops o v a w) (k : Kept [] w w1) : YieldsK P ops o v a w1 :=
  h.imp (fun ⟨h1, h2⟩ => ⟨h1, fun w' k' => h2 w' (k.trans k')⟩) id

theorem YieldsK.of_same {o : Oper} {v : Value} {a a' : Act} {w : World} (hy : YieldsK P ops o v a w) (he : execOp a'.eval o = execOp a.eval o)
    (hw : Region.wanted o (yielded ops a'.tmps) = Region.wanted o (yielded ops a.tmps)) : YieldsK P ops o v a' w := by
  unfold YieldsK Oper.quietAt at *
  rw [he, hw]
  exact hy

theorem YieldsK.wpOp {i : Nat} {o : Oper} {v : Value} {a : Act} {w : World} (hi : ops[i]? = some o) (hy : YieldsK P ops o v a w)
    {K : Act → World → Prop} (h : ∀ w', Kept [] w w' → K (a.put o.dst v) w') : wpOp P ops Q i K a w := by
  unfold Go.wpOp
  simp only [hi]
  rcases hy with ⟨hw, hv⟩ | ⟨hw, rfl⟩
  · simp only [hw, if_true]
    refine .inl (Oper.wp_of_quiet (C := Kept [] w) (K := fun a' => a' = a.put o.dst v) (Kept.refl _ _) (fun a' w' k e => by subst e; exact h w' k) ⟨v, fun w' k => ?_, rfl⟩)
    have := hv w' k
    unfold Oper.quietAt at this ⊢
    generalize (execOp a.eval o).run P w' = r at *
    cases r with
    | ok nx w2 =>
      cases nx <;> simp only [Oper.quietUpon] at this ⊢
      case value u => exact this
      case skip => exact this
      case enter f args => exact ⟨this.1, this.2.mono fun e w3 hh => ⟨hh.1, k.trans hh.2⟩⟩
    | halt x w2 => simp only [Oper.quietUpon] at this
  · simp only [hw, Bool.false_eq_true, if_false]; exact h w (Kept.refl _ _)

theorem wpOp_putK {j : Nat} {oi oj : Oper} {v : Value} (hj : ops[j]? = some oj) (hap : oi.apart ops oj = true)
    (hsi : ∀ cs b, oi.op ≠ .select cs b) (hsj : ∀ cs b, oj.op ≠ .select cs b)
    (hQ : ∀ c a w, ¬ Q (.panic c) a w) {K : Act → World → Prop} {a : Act} {w wb : World}
    (hy : YieldsK P ops oi v a wb) (h : wpOp P ops Q j K (a.put oi.dst v) w) :
    wpOp P ops Q j (fun a' w' => YieldsK P ops oi v a' wb ∧ K (a'.put oi.dst v) w') a w := by
  obtain ⟨h1, h2, h3⟩ := Oper.apart_spec hap
  have keep : ∀ (a : Act), YieldsK P ops oi v a wb → ∀ u, YieldsK P ops oi v (a.put oj.dst u) wb := fun a hy u =>
    hy.of_same (execOp_put oi hsi a oj.dst u h3) (wanted_put oi a oj.dst u h3)
  have keepD : ∀ d, YieldsK P ops oi v { a with defers := d :: a.defers } wb := fun d => hy.of_same rfl rfl
  unfold wpOp at *
  simp only [hj] at *
  rw [wanted_put oj a oi.dst v h1] at h
  split
  · rename_i hw
    simp only [hw, if_true] at h
    rcases h with h | ⟨hasks, hlets⟩
    case inr => exact .inr ⟨by unfold Oper.asks at *; rw [execOp_put oj hsj a oi.dst v h1] at hasks; exact hasks, hlets⟩
    refine .inl ?_
    unfold Oper.wp at *
    rw [execOp_put oj hsj a oi.dst v h1] at h
    generalize (execOp a.eval oj).run P w = r at *
    cases r with
    | ok n w' =>
      cases n <;> simp only [Oper.upon] at h ⊢
      case value u => exact ⟨keep a hy u, by rw [← Act.put_comm a v u h2]; exact h⟩
      case skip => exact ⟨keep a hy _, by rw [← Act.put_comm a v undef h2]; exact h⟩
      case defer d =>
        refine ⟨keep _ (keepD d) _, ?_⟩
        rw [← Act.put_comm _ v undef h2, ← Act.put_defers]
        exact h
      case enter f args =>
        refine Calls.mono h fun e w'' he => ?_
        cases e with
        | returned u => exact ⟨keep a hy u, by rw [← Act.put_comm a v u h2]; exact he⟩
        | panicked c => exact absurd he (hQ _ _ _)
        | outgrown => exact he
      case row row args => exact Rows.mono h fun u w'' he => ⟨keep a hy u, by rw [← Act.put_comm a v u h2]; exact he⟩
    | halt x w' =>
      cases x <;> simp only [Oper.upon] at h ⊢
      case panic u => exact absurd h (hQ _ _ _)
  · rename_i hw
    simp only [hw] at h
    exact ⟨keep a hy _, by rw [← Act.put_comm a v undef h2]; exact h⟩

/-- What is ready is ready behind its forerunners alone: what is not listed is no forerunner. -/
theorem barB_ready {listed : Array Bool} (hD : Down ops listed) {i j : Nat} (hi : i ∈ Region.ready .any ops listed) (hj : j ∈ Region.ready .any ops listed) : barB ops (listed.setIfInBounds i true) j = false := by
  obtain ⟨h0, oi, hoi, _⟩ := mem_ready.1 hi
  obtain ⟨_, oj, hoj, hallj⟩ := mem_ready.1 hj
  have hilt : i < ops.size := (Array.getElem?_eq_some_iff.1 hoi).1
  have hlt : i < listed.size := by
    rcases Nat.lt_or_ge i listed.size with h | h
    · exact h
    · rw [Array.getD_eq_getD_getElem?, Array.getElem?_eq_none h] at h0; simp at h0
  rw [Bool.eq_false_iff]
  intro hb
  simp only [barB, List.all_eq_true, List.mem_range] at hb
  have h1 := hb i hilt
  have h2 : (listed.setIfInBounds i true).getD i true = true := by simp [hlt]
  rw [h2] at h1
  simp only [Bool.not_true, Bool.false_or] at h1
  have h3 := mem_ancs hD (m := ops.size) (js := [j]) (fun k hk o ho e he hbd => by
    rw [List.mem_singleton] at hk
    subst hk
    rw [hoj] at ho
    cases ho
    exact hallj e he hbd) i (memB_iff.1 h1)
  rw [Array.getD_eq_getD_getElem?, Array.getElem?_eq_getElem hlt] at h0 h3
  simp at h0 h3
  rw [h0] at h3
  cases h3

/-- **A quiet operation may be taken first.** -/
theorem wpAnyK_first {i : Nat} {oi : Oper} {v : Value} (hi : ops[i]? = some oi) (hsel : ∀ (j : Nat) (o : Oper) cs b, ops[j]? = some o → o.op ≠ .select cs b)
    (hQ : ∀ c a w, ¬ Q (.panic c) a w) :
    ∀ (fuel : Nat) (listed : Array Bool) (a : Act) (w : World), Down ops listed →
      (∀ j oj, ops[j]? = some oj → j ≠ i → listed.getD j true = false → (∀ e ∈ oj.after, Region.binds .any e = true → e.on ≠ i) → oi.apart ops oj = true) →
      i ∈ Region.ready .any ops listed → YieldsK P ops oi v a w →
      wpAnyK P ops Q fuel (listed.setIfInBounds i true) (a.put oi.dst v) w → wpAnyK P ops Q (fuel + 1) listed a w := by
  intro fuel
  induction fuel with
  | zero =>
    intro listed a w hD _ hr hy H w1 k
    refine ⟨fun h => (by rw [h] at hr; cases hr), fun j hj => ?_⟩
    by_cases hji : j = i
    · subst hji
      exact (hy.up k).wpOp hi fun w' k' => ⟨.inr k', H.up (k.trans k')⟩
    · have := ready_mono hj hji
      rw [(H w1 k).1] at this
      cases this
  | succ fuel ih =>
    intro listed a w hD hfree hr hy H w1 k
    refine ⟨fun h => (by rw [h] at hr; cases hr), fun j hj => ?_⟩
    by_cases hji : j = i
    · subst hji
      exact (hy.up k).wpOp hi fun w' k' => ⟨.inr k', H.up (k.trans k')⟩
    · have h1 := (H w1 k).2 j (ready_mono hj hji)
      obtain ⟨hjun, oj, hoj, hall⟩ := mem_ready.1 hj
      have hnot : ∀ e ∈ oj.after, Region.binds .any e = true → e.on ≠ i := fun e he hb heq => by
        have h1 := hall e he hb
        have h0 := (mem_ready.1 hr).1
        rw [heq] at h1
        rcases Nat.lt_or_ge i listed.size with h' | h'
        · simp [h'] at h0 h1; rw [h0] at h1; cases h1
        · simp [Array.getElem?_eq_none h'] at h1
      have hbar := barB_ready hD hr hj
      have h2 := wpOp_putK hoj (hfree j oj hoj hji hjun hnot) (fun cs b => hsel i oi cs b hi) (fun cs b => hsel j oj cs b hoj) hQ (hy.up k) h1
      have hfree' : ∀ k ok, ops[k]? = some ok → k ≠ i → (listed.setIfInBounds j true).getD k true = false →
          (∀ e ∈ ok.after, Region.binds .any e = true → e.on ≠ i) → oi.apart ops ok = true := fun k ok hk hki hun hno => by
        refine hfree k ok hk hki ?_ hno
        by_cases hjk : j = k
        · subst hjk; exact hjun
        · rw [getD_set_ne true hjk] at hun; exact hun
      refine wpOp_mono (fun a' w' h3 => ?_) h2
      obtain ⟨hy', hkk, H'⟩ := h3
      rw [hbar] at hkk
      have hkk : Kept [] w1 w' := hkk.resolve_left (by simp)
      refine ⟨.inr hkk, ih (listed.setIfInBounds j true) a' w' (hD.set hj) hfree' (ready_mono hr (Ne.symm hji)) (hy'.up hkk) ?_⟩
      rw [Array.setIfInBounds_comm _ _ hji]
      exact H'
end
end Go.Am
