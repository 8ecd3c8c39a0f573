/- The abstract machine, part 11: the call. -/
import Derived.Test.YtjoimmmpaocfkaaAm10
namespace Go.Am
set_option linter.unusedVariables false
set_option linter.unusedSimpArgs false

/-- The owned arguments behind the call. -/
def updA : List Nat → List (Option Lst) → Env → Heap → Option (List Prop × Env × Heap)
  | [], [], E, L => some ([], E, L)
  | r :: rs, none :: us, E, L => updA rs us (killE r E) (hset L r none)
  | r :: rs, some A' :: us, E, L => match hget L r with
    | some A => match decide (A'.t = A.t), updA rs us E (hset L r (some ⟨A'.t, A'.xs, false⟩)) with
      | true, some (cs, E', L') => some ((A'.xs.length = A.xs.length) :: cs, E', L')
      | _, _ => none
    | none => none
  | _, _, _, _ => none

def packA : List Atom → PV
  | [A] => .a A
  | as => .tup as

/-- **The call of a function with a contract.** -/
def callA (ext : Ext) (E : Env) (L : Heap) (f : FuncId) (ps : List PV) : Option (List Prop × PV × Env × Heap) :=
  match ext with
  | [] => none
  | (g, S) :: r => match Nat.beq f g with
    | true => match decArgs L S.sig ps with
      | some (x, os, us) => match disjB os.flatten us && nodupB os.flatten, updA os.flatten (S.upd x) E L with
        | true, some (cs, E', L') => match resA L'.length (S.res x) with
          | some (as, es) => some (S.pre x :: cs, packA as, E', L' ++ es)
          | none => callA r E L f ps
        | _, _ => callA r E L f ps
      | none => callA r E L f ps
    | false => callA r E L f ps

section
variable {P : Program} {n : Nat} {w0 w : World} {O : List Nat} {a : Act} {E : Env} {L : Heap} {V : Nat → Value} {own : Nat → List Nat}

theorem hget_hset_same {L : Heap} {r : Nat} {x : Option Arr} {A : Arr} (h : hget L r = some A) : hget (hset L r x) r = x := by
  rw [hget_hset, if_pos ⟨rfl, hget_lt h⟩]
theorem hget_hset_other {L : Heap} {r s : Nat} {x : Option Arr} (h : r ≠ s) : hget (hset L r x) s = hget L s := by
  rw [hget_hset, if_neg (fun hh => h hh.1)]

/-- What holds while the owned arguments 'pend' are still to be looked at. -/
structure Pend (n : Nat) (w0 : World) (O : List Nat) (w : World) (a : Act) (E : Env) (L : Heap) (V : Nat → Value) (own : Nat → List Nat) (pend : List Nat) (rest : List Nat) : Prop where
  kept : Kept O w0 w
  size : a.tmps.size = n
  defers : a.defers = []
  heap : ∀ r A, hget L r = some A → r ∉ pend → EntC w0 (Good w0 O) w A (V r) (own r)
  good : ∀ r A, hget L r = some A → r ∉ pend → ∀ b ∈ own r, ¬ Good w0 O b
  nodup : ∀ r A, hget L r = some A → r ∉ pend → (own r).Nodup
  apart : ∀ r s A B, hget L r = some A → hget L s = some B → r ∉ pend → s ∉ pend → r ≠ s → ∀ b ∈ own r, b ∉ own s
  env : ∀ i, RepP w0 (Good w0 O) L V (E.get i) (a.tmps.getD i undef)
  live : ∀ r ∈ pend, ∃ A, hget L r = some A
  rest : ∀ r A, hget L r = some A → r ∉ pend → ∀ b ∈ own r, b ∉ rest

theorem Pend.done {rest : List Nat} (h : Pend n w0 O w a E L V own [] rest) : RelV n w0 O w a E L V own :=
  ⟨h.kept, h.size, h.defers, fun r A hA => h.heap r A hA (by simp), fun r A hA => h.good r A hA (by simp), fun r A hA => h.nodup r A hA (by simp), fun r s A B h1 h2 => h.apart r s A B h1 h2 (by simp) (by simp), h.env⟩

theorem upd_spec : ∀ {rs : List Nat} {us : List (Option Lst)} {E : Env} {L : Heap} {own : Nat → List Nat} {cs : List Prop} {E' : Env} {L' : Heap} {ubs : List (List Nat)} {rest : List Nat},
    Pend n w0 O w a E L V own rs (ubs.flatten ++ rest) → rs.Nodup → updA rs us E L = some (cs, E', L') → All cs → UpdRep w us (rs.map V) ubs → (ubs.flatten ++ rest).Nodup → (∀ b ∈ ubs.flatten, ¬ Good w0 O b) →
    ∃ own', RelV n w0 O w a E' L' V own' ∧ (∀ r A, hget L' r = some A → ∀ b ∈ own' r, b ∉ rest) ∧ (∀ r, r ∉ rs → own' r = own r ∧ hget L' r = hget L r)
  | [], [], E, L, own, cs, E', L', ubs, rest, hp, _, h, _, hu, _, _ => by
    cases h
    exact ⟨own, hp.done, fun r A hA b hb hm => hp.rest r A hA (by simp) b hb (List.mem_append_right _ hm), fun r _ => ⟨rfl, rfl⟩⟩
  | r :: rs, none :: us, E, L, own, cs, E', L', ubs, rest, hp, hnd, h, hc, hu, hn, hg => by
    simp only [updA] at h
    obtain ⟨v, s, bs, hv, rfl, hu⟩ := hu
    simp only [List.map_cons, List.cons.injEq] at hv
    obtain ⟨rfl, rfl⟩ := hv
    obtain ⟨hr, hnd'⟩ := List.nodup_cons.1 hnd
    obtain ⟨A0, hA0⟩ := hp.live r (List.mem_cons_self ..)
    simp only [List.flatten_cons, List.nil_append] at hn hg
    have hback : ∀ s A, hget (hset L r none) s = some A → s ≠ r ∧ hget L s = some A := by
      intro s A hs
      by_cases hsr : s = r
      · subst hsr; rw [hget_hset_same hA0] at hs; cases hs
      · exact ⟨hsr, by rwa [hget_hset_other (Ne.symm hsr)] at hs⟩
    have hpend : ∀ s, s ≠ r → s ∉ rs → s ∉ r :: rs := fun s h1 h2 hm => by
      rcases List.mem_cons.1 hm with h | h
      · exact h1 h
      · exact h2 h
    have hp' : Pend n w0 O w a (killE r E) (hset L r none) V own rs (bs.flatten ++ rest) := by
      refine ⟨hp.kept, hp.size, hp.defers, ?_, ?_, ?_, ?_, fun i => ?_, ?_, ?_⟩
      · intro s A hs hm; obtain ⟨h1, h2⟩ := hback s A hs; exact hp.heap s A h2 (hpend s h1 hm)
      · intro s A hs hm; obtain ⟨h1, h2⟩ := hback s A hs; exact hp.good s A h2 (hpend s h1 hm)
      · intro s A hs hm; obtain ⟨h1, h2⟩ := hback s A hs; exact hp.nodup s A h2 (hpend s h1 hm)
      · intro s t A B hs ht hm hm' hst
        obtain ⟨h1, h2⟩ := hback s A hs
        obtain ⟨h3, h4⟩ := hback t B ht
        exact hp.apart s t A B h2 h4 (hpend s h1 hm) (hpend t h3 hm') hst
      · rw [get_killE]
        refine repP_agree (repP_kill r (hp.env i)) fun s hs => ⟨rfl, fun A hA => ⟨A, ?_, rfl, rfl⟩⟩
        have : s ≠ r := fun e => killP_refs.1 (e ▸ hs)
        rw [hget_hset_other (Ne.symm this)]; exact hA
      · intro s hs
        obtain ⟨A, hA⟩ := hp.live s (List.mem_cons_of_mem _ hs)
        have : s ≠ r := fun e => hr (e ▸ hs)
        exact ⟨A, by rw [hget_hset_other (Ne.symm this)]; exact hA⟩
      · intro s A hs hm
        obtain ⟨h1, h2⟩ := hback s A hs
        have := hp.rest s A h2 (hpend s h1 hm)
        simpa using this
    obtain ⟨own', h1, h2, h3⟩ := upd_spec hp' hnd' h hc hu hn hg
    refine ⟨own', h1, h2, fun s hs => ?_⟩
    have hsr : s ≠ r := fun e => hs (e ▸ List.mem_cons_self ..)
    obtain ⟨e1, e2⟩ := h3 s (fun hm => hs (List.mem_cons_of_mem _ hm))
    exact ⟨e1, by rw [e2, hget_hset_other (Ne.symm hsr)]⟩
  | r :: rs, some A' :: us, E, L, own, cs, E', L', ubs, rest, hp, hnd, h, hc, hu, hn, hg => by
    simp only [updA] at h
    split at h
    · rename_i A hA
      split at h
      · rename_i cs' E'' L'' ht h'
        have ht := of_decide_eq_true ht
        cases h
        obtain ⟨hlen, hc⟩ := hc
        obtain ⟨v, s, b, bs, hv, rfl, ho, hu⟩ := hu
        simp only [List.map_cons, List.cons.injEq] at hv
        obtain ⟨rfl, rfl⟩ := hv
        obtain ⟨hr, hnd'⟩ := List.nodup_cons.1 hnd
        simp only [List.flatten_cons, List.append_assoc] at hn hg
        rw [List.nodup_append] at hn
        obtain ⟨hn1, hn2, hn3⟩ := hn
        have hsplit : ∀ s B, hget (hset L r (some ⟨A'.t, A'.xs, false⟩)) s = some B → (s ≠ r ∧ hget L s = some B) ∨ (s = r ∧ B = ⟨A'.t, A'.xs, false⟩) := by
          intro s B hs
          by_cases hsr : s = r
          · subst hsr; rw [hget_hset_same hA] at hs; cases hs; exact .inr ⟨rfl, rfl⟩
          · exact .inl ⟨hsr, by rwa [hget_hset_other (Ne.symm hsr)] at hs⟩
        have hpend : ∀ s, s ≠ r → s ∉ rs → s ∉ r :: rs := fun s h1 h2 hm => by
          rcases List.mem_cons.1 hm with h | h
          · exact h1 h
          · exact h2 h
        have hold : ∀ s B, hget L s = some B → s ≠ r → s ∉ rs → ∀ c ∈ own s, c ∉ b ∧ c ∉ bs.flatten ++ rest := by
          intro s B hs h1 h2 c hc'
          have := hp.rest s B hs (hpend s h1 h2) c hc'
          simp only [List.flatten_cons, List.append_assoc, List.mem_append, not_or] at this ⊢
          exact this
        have hp' : Pend n w0 O w a E (hset L r (some ⟨A'.t, A'.xs, false⟩)) V (upd1 own r b) rs (bs.flatten ++ rest) := by
          refine ⟨hp.kept, hp.size, hp.defers, ?_, ?_, ?_, ?_, fun i => ?_, ?_, ?_⟩
          · intro s B hs hm
            rcases hsplit s B hs with ⟨h1, h2⟩ | ⟨rfl, rfl⟩
            · rw [upd1_other _ _ h1]; exact hp.heap s B h2 (hpend s h1 hm)
            · rw [upd1_same]; exact EntC.own.2 ho
          · intro s B hs hm
            rcases hsplit s B hs with ⟨h1, h2⟩ | ⟨rfl, rfl⟩
            · rw [upd1_other _ _ h1]; exact hp.good s B h2 (hpend s h1 hm)
            · rw [upd1_same]; exact fun c hc' => hg c (List.mem_append_left _ hc')
          · intro s B hs hm
            rcases hsplit s B hs with ⟨h1, h2⟩ | ⟨rfl, rfl⟩
            · rw [upd1_other _ _ h1]; exact hp.nodup s B h2 (hpend s h1 hm)
            · rw [upd1_same]; exact hn1
          · intro s t B C hs ht' hm hm' hst
            rcases hsplit s B hs with ⟨h1, h2⟩ | ⟨rfl, rfl⟩
            · rcases hsplit t C ht' with ⟨h3, h4⟩ | ⟨rfl, rfl⟩
              · rw [upd1_other _ _ h1, upd1_other _ _ h3]; exact hp.apart s t B C h2 h4 (hpend s h1 hm) (hpend t h3 hm') hst
              · rw [upd1_other _ _ h1, upd1_same]; exact fun c hc' => (hold s B h2 h1 hm c hc').1
            · rcases hsplit t C ht' with ⟨h3, h4⟩ | ⟨rfl, rfl⟩
              · rw [upd1_other _ _ h3, upd1_same]; exact fun c hc' hc2 => (hold t C h4 h3 hm' c hc2).1 hc'
              · exact absurd rfl hst
          · refine repP_agree (hp.env i) fun s hs => ⟨rfl, fun B hB => ?_⟩
            by_cases hsr : s = r
            · subst hsr
              rw [hA] at hB; cases hB
              exact ⟨⟨A'.t, A'.xs, false⟩, hget_hset_same hA, ht, hlen⟩
            · exact ⟨B, by rw [hget_hset_other (Ne.symm hsr)]; exact hB, rfl, rfl⟩
          · intro s hs
            obtain ⟨B, hB⟩ := hp.live s (List.mem_cons_of_mem _ hs)
            have : s ≠ r := fun e => hr (e ▸ hs)
            exact ⟨B, by rw [hget_hset_other (Ne.symm this)]; exact hB⟩
          · intro s B hs hm
            rcases hsplit s B hs with ⟨h1, h2⟩ | ⟨rfl, rfl⟩
            · rw [upd1_other _ _ h1]; exact fun c hc' => (hold s B h2 h1 hm c hc').2
            · rw [upd1_same]; exact fun c hc' hm' => hn3 c hc' c hm' rfl
        obtain ⟨own', h1, h2, h3⟩ := upd_spec hp' hnd' h' hc hu hn2 (fun c hc' => hg c (List.mem_append_right _ hc'))
        refine ⟨own', h1, h2, fun s hs => ?_⟩
        have hsr : s ≠ r := fun e => hs (e ▸ List.mem_cons_self ..)
        obtain ⟨e1, e2⟩ := h3 s (fun hm => hs (List.mem_cons_of_mem _ hm))
        exact ⟨by rw [e1, upd1_other _ _ hsr], by rw [e2, hget_hset_other (Ne.symm hsr)]⟩
      · cases h
    · cases h
  | [], _ :: _, _, _, _, _, _, _, _, _, _, _, h, _, _, _, _ => by cases h
  | _ :: _, [], _, _, _, _, _, _, _, _, _, _, h, _, _, _, _ => by cases h

/-! ### The handed-over and the lent arrays are live -/

theorem decCaps_live (hR : RelV n w0 O w a E L V own) : ∀ {caps : List (Bool × Ty)} {as : List Atom} {x : capsDen caps} {us : List Nat} {vs : List Value}, decCaps L caps as = some (x, us) → RepAs w0 (Good w0 O) L V as vs → ∀ r ∈ us, ∃ A, hget L r = some A
  | [], [], x, us, vs, h, _, r, hr => by cases h; cases hr
  | (true, t) :: c, A :: s, x, us, vs, h, ⟨v, q, _, h1, h2⟩, r, hr => by
    simp only [decCaps] at h
    split at h
    · rename_i y z us' hy hz
      cases h
      rcases List.mem_append.1 hr with hr | hr
      · exact repA_live h1 r hr
      · exact decCaps_live hR hz h2 r hr
    · cases h
  | (false, t) :: c, A :: s, x, us, vs, h, ⟨v, q, _, h1, h2⟩, r, hr => by
    simp only [decCaps] at h
    split at h
    · rename_i y z us' hy hz
      cases h
      exact decCaps_live hR hz h2 r hr
    · cases h
  | [], _ :: _, _, _, _, h, _, _, _ => by cases h
  | (true, _) :: _, [], _, _, _, h, _, _, _ => by cases h
  | (false, _) :: _, [], _, _, _, h, _, _, _ => by cases h

theorem decArgs_live (hR : RelV n w0 O w a E L V own) : ∀ {sig : List AT} {ps : List PV} {vs : List Value} {x : sigDen sig} {os : List (List Nat)} {us : List Nat}, RepPs w0 (Good w0 O) L V ps vs → decArgs L sig ps = some (x, os, us) →
    (∀ r ∈ us, ∃ A, hget L r = some A) ∧ (∀ r ∈ os.flatten, ∃ A, hget L r = some A) ∧ ownVals sig vs = os.flatten.map V
  | [], [], vs, x, os, us, hp, h => by cases h; cases hp; exact ⟨(fun r hr => by cases hr), (fun r hr => by cases hr), rfl⟩
  | t :: q, y :: s, vs, x, os, us, ⟨v, vs', hvs, hpy, hps⟩, h => by
    subst hvs
    simp only [decArgs] at h
    split at h
    · rename_i z o u zs os' us' h1 h2
      cases h
      obtain ⟨i1, i2, i3⟩ := decArgs_live hR hps h2
      have key : (∀ r ∈ u, ∃ A, hget L r = some A) ∧ (∀ r ∈ o, ∃ A, hget L r = some A) ∧ ownVals (t :: q) (v :: vs') = o.map V ++ ownVals q vs' := by
        cases t with
        | v t =>
          cases y with
          | a A =>
            simp only [decA] at h1
            split at h1
            · cases h1
              exact ⟨repA_live (hpy), (fun r hr => by cases hr), rfl⟩
            · cases h1
          | tup _ => cases h1
          | fn _ _ => cases h1
        | p t =>
          cases y with
          | a A =>
            simp only [decA] at h1
            split at h1
            · cases h1
              exact ⟨repA_live (hpy), (fun r hr => by cases hr), rfl⟩
            · cases h1
          | tup _ => cases h1
          | fn _ _ => cases h1
        | own t =>
          cases y with
          | a A =>
            cases A with
            | osl r rg =>
              cases rg with
              | none =>
                simp only [decA] at h1
                split at h1
                · rename_i B hB
                  split at h1
                  · cases h1
                  split at h1
                  · cases h1
                    obtain ⟨B', hB', hve, _⟩ := hpy
                    refine ⟨(fun r hr => by cases hr), (fun r hr => by simp at hr; subst hr; exact ⟨B, hB⟩), ?_⟩
                    simp only [ownVals, List.map_cons, List.map_nil, List.singleton_append, hve rfl]
                  · cases h1
                · cases h1
              | some _ => cases h1
            | _ => cases h1
          | tup _ => cases h1
          | fn _ _ => cases h1
        | fn f caps =>
          cases y with
          | a A => cases h1
          | tup _ => cases h1
          | fn g as =>
            simp only [decA] at h1
            split at h1
            · rename_i q' us'' hfg hq
              cases h1
              obtain ⟨vs, hv, hr⟩ := hpy
              exact ⟨decCaps_live hR hq hr, (fun r hr => by cases hr), rfl⟩
            · cases h1
      obtain ⟨k1, k2, k3⟩ := key
      refine ⟨fun r hr => ?_, fun r hr => ?_, ?_⟩
      · rcases List.mem_append.1 hr with hr | hr
        · exact k1 r hr
        · exact i1 r hr
      · rw [List.flatten_cons] at hr
        rcases List.mem_append.1 hr with hr | hr
        · exact k2 r hr
        · exact i2 r hr
      · rw [k3, i3, List.flatten_cons, List.map_append]
    · cases h
  | [], _ :: _, _, _, _, _, _, h => by cases h
  | _ :: _, [], _, _, _, _, _, h => by cases h

theorem ownOf_flatten (own : Nat → List Nat) : ∀ os : List (List Nat), (ownOf own os).flatten = (os.flatten.map own).flatten
  | [] => rfl
  | o :: os => by
    have := ownOf_flatten own os
    simp only [ownOf, List.map_cons, List.flatten_cons, List.map_append, List.flatten_append] at this ⊢
    rw [this]

theorem own_nodup (hR : RelV n w0 O w a E L V own) : ∀ {rs : List Nat}, rs.Nodup → (∀ r ∈ rs, ∃ A, hget L r = some A) → (rs.map own).flatten.Nodup
  | [], _, _ => List.nodup_nil
  | r :: rs, hn, hl => by
    obtain ⟨h1, h2⟩ := List.nodup_cons.1 hn
    obtain ⟨A, hA⟩ := hl r (List.mem_cons_self ..)
    simp only [List.map_cons, List.flatten_cons]
    rw [List.nodup_append]
    refine ⟨hR.nodup r A hA, own_nodup hR h2 (fun s hs => hl s (List.mem_cons_of_mem _ hs)), fun b hb c hc e => ?_⟩
    subst e
    obtain ⟨l, hl', hbl⟩ := List.mem_flatten.1 hc
    obtain ⟨s, hs, rfl⟩ := List.mem_map.1 hl'
    obtain ⟨B, hB⟩ := hl s (List.mem_cons_of_mem _ hs)
    exact hR.apart r s A B hA hB (fun e => h1 (e ▸ hs)) b hb hbl

theorem packV_rep {G : Nat → Prop} : ∀ {as : List Atom} {rs : List Value}, RepAs w0 G L V as rs → RepP w0 G L V (packA as) (packV rs)
  | [], rs, h => by subst h; exact ⟨[], rfl, rfl⟩
  | [A], rs, ⟨v, s, h, h1, h2⟩ => by subst h; cases h2; exact h1
  | A :: B :: as, rs, h => by
    obtain ⟨v, s, hs, h1, h2⟩ := h
    obtain ⟨v', s', hs', h1', h2'⟩ := h2
    subst hs hs'
    exact ⟨_, rfl, _, _, rfl, h1, _, _, rfl, h1', h2'⟩

/-- **The call is sound.** -/
theorem callA_spec : ∀ {ext : Ext} (hX : ExtOk P ext) (hR : RelV n w0 O w a E L V own) {f : FuncId} {ps : List PV} {vs : List Value} {cs : List Prop} {pv : PV} {E' : Env} {L' : Heap}
    (hps : RepPs w0 (Good w0 O) L V ps vs) (h : callA ext E L f ps = some (cs, pv, E', L')) (hc : All cs),
    Callable P f ∧ Calls P f vs.toArray w fun e w' => ∃ v V' own', e = .returned v ∧ RelV n w0 O w' a E' L' V' own' ∧ RepP w0 (Good w0 O) L' V' pv v
  | [], _, _, _, _, _, _, _, _, _, _, h, _ => by cases h
  | (g, S) :: r, hX, hR, f, ps, vs, cs, pv, E', L', hps, h, hc => by
    obtain ⟨⟨hcall, hcon⟩, hX'⟩ := hX
    simp only [callA] at h
    split at h
    · rename_i hfg
      obtain rfl := Nat.eq_of_beq_eq_true hfg
      split at h
      · rename_i x os us hd
        split at h
        · rename_i cs' E1 L1 hdis hupd
          split at h
          · rename_i as es hres
            cases h
            obtain ⟨hpre, hc⟩ := hc
            simp only [Bool.and_eq_true] at hdis
            have hnd := nodupB_spec hdis.2
            obtain ⟨l1, l2, l3⟩ := decArgs_live hR hps hd
            have hH : ∀ b ∈ (ownOf own os).flatten, ∃ r ∈ os.flatten, b ∈ own r := fun b hb => by
              rw [ownOf_flatten] at hb
              obtain ⟨l, hl, hbl⟩ := List.mem_flatten.1 hb
              obtain ⟨r, hr, rfl⟩ := List.mem_map.1 hl
              exact ⟨r, hr, hbl⟩
            have hg : ∀ b ∈ (ownOf own os).flatten, ¬ Good w0 O b := fun b hb => by
              obtain ⟨r, hr, hbr⟩ := hH b hb
              obtain ⟨A, hA⟩ := l2 r hr
              exact hR.good r A hA b hbr
            have hargs := decArgs_rep hR (Kept.refl [] w) hg hps hd (fun r hr b hb hm => by
              obtain ⟨s, hs, hbs⟩ := hH b hm
              obtain ⟨A, hA⟩ := l1 r hr
              obtain ⟨B, hB⟩ := l2 s hs
              have hrs : r ≠ s := fun e => disjB_spec hdis.1 s hs (e ▸ hr)
              exact hR.apart r s A B hA hB hrs b hb hbs)
            have hnd' : (ownOf own os).flatten.Nodup := by rw [ownOf_flatten]; exact own_nodup hR hnd l2
            refine ⟨hcall, (hcon w x _ _ hpre hargs hnd').mono ?_⟩
            rintro e w' ⟨rs, ubs, rbs, rfl, hk, hrr, hur, hnn, hgg⟩
            rw [l3] at hur
            rw [List.nodup_append] at hnn
            have hfresh : ∀ b ∈ ubs.flatten ++ rbs.flatten, ¬ Good w0 O b := fun b hb hgood => by
              have h1 := hgg b hb
              refine h1 ⟨Nat.lt_of_lt_of_le hgood.1 hR.kept.size, fun hm => hg b hm hgood⟩
            have hout : ∀ r A, hget L r = some A → r ∉ os.flatten → ∀ b ∈ own r, b < w.heap.size ∧ b ∉ (ownOf own os).flatten := fun r A hA hr b hb => by
              refine ⟨hR.own_lt hA b hb, fun hm => ?_⟩
              obtain ⟨s, hs, hbs⟩ := hH b hm
              obtain ⟨B, hB⟩ := l2 s hs
              exact hR.apart r s A B hA hB (fun e => hr (e ▸ hs)) b hb hbs
            have hp : Pend n w0 O w' a E L V own os.flatten (ubs.flatten ++ rbs.flatten) := by
              refine ⟨?_, hR.size, hR.defers, fun r A hA hr => ?_, fun r A hA _ => hR.good r A hA, fun r A hA _ => hR.nodup r A hA, fun r s A B h1 h2 _ _ => hR.apart r s A B h1 h2, hR.env, l2, fun r A hA hr b hb hm => ?_⟩
              · refine ⟨hk.os.trans hR.kept.os, hk.tape.trans hR.kept.tape, hk.output.trans hR.kept.output, Nat.le_trans hR.kept.size hk.size, fun b hb ho => ?_⟩
                rw [hk.block b (Nat.lt_of_lt_of_le hb hR.kept.size) (fun hm => hg b hm ⟨hb, ho⟩)]
                exact hR.kept.block b hb ho
              · exact (hR.heap r A hA).keep fun b hb => hk.block b (hout r A hA hr b hb).1 (hout r A hA hr b hb).2
              · exact hgg b hm (hout r A hA hr b hb)
            obtain ⟨own1, h1, h2, h3⟩ := upd_spec hp hnd hupd hc hur (by rw [List.nodup_append]; exact hnn) (fun b hb => hfresh b (List.mem_append_left _ hb))
            obtain ⟨V', own', h4, h5, h6, h7, _⟩ := res_spec h1 hres hrr hnn.2.1 (fun b hb => hfresh b (List.mem_append_right _ hb)) h2
            exact ⟨_, V', own', rfl, h4, packV_rep h5⟩
          · exact callA_spec hX' hR hps h hc
        · exact callA_spec hX' hR hps h hc
      · exact callA_spec hX' hR hps h hc
    · exact callA_spec hX' hR hps h hc
end
end Go.Am
