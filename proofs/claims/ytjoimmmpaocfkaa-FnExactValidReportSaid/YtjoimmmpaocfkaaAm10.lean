/- The abstract machine, part 10: calls by contract are sound. -/
import Derived.Test.YtjoimmmpaocfkaaAm9
namespace Go.Am
set_option linter.unusedVariables false
set_option linter.unusedSimpArgs false

def refsP : PV → List Nat
  | .a A => refA A
  | .tup xs => xs.flatMap refA
  | .fn _ xs => xs.flatMap refA

def killP (r : Nat) (p : PV) : PV := match memB r (refsP p) with | true => .a .junk | false => p
def killE (r : Nat) (E : Env) : Env := E.map fun q => (q.1, killP r q.2)

theorem killP_junk (r : Nat) : killP r (.a .junk) = .a .junk := rfl

theorem get_killE (r : Nat) : ∀ (E : Env) (i : Nat), (killE r E).get i = killP r (E.get i)
  | [], i => rfl
  | (j, p) :: s, i => by
    simp only [killE, List.map_cons, Env.get]
    cases h : Nat.beq j i with
    | true => rfl
    | false => exact get_killE r s i

theorem killP_refs {r : Nat} {p : PV} : r ∉ refsP (killP r p) ∧ ∀ s ∈ refsP (killP r p), s ∈ refsP p := by
  unfold killP
  cases h : memB r (refsP p) with
  | true => simp [refsP, refA]
  | false =>
    refine ⟨fun hm => ?_, fun _ h => h⟩
    rw [memB_iff.2 hm] at h
    cases h

/-- For the abstract values that name r nothing has turned. -/
def Agree (L : Heap) (V : Nat → Value) (L' : Heap) (V' : Nat → Value) (r : Nat) : Prop :=
  V' r = V r ∧ ∀ A, hget L r = some A → ∃ A', hget L' r = some A' ∧ A'.t = A.t ∧ A'.xs.length = A.xs.length

theorem repA_agree {w0 : World} {G : Nat → Prop} {L L' : Heap} {V V' : Nat → Value} {A : Atom} {v : Value} (h : RepA w0 G L V A v) (ha : ∀ r ∈ refA A, Agree L V L' V' r) : RepA w0 G L' V' A v := by
  cases A with
  | osl r rg =>
    obtain ⟨B, hB, h1, h2⟩ := h
    obtain ⟨hV, hL⟩ := ha r (by simp [refA])
    obtain ⟨B', hB', ht, hl⟩ := hL B hB
    exact ⟨B', hB', by rw [hV]; exact h1, by rw [hV, hl, ht]; exact h2⟩
  | optr r i p =>
    obtain ⟨B, hB, h2⟩ := h
    obtain ⟨hV, hL⟩ := ha r (by simp [refA])
    obtain ⟨B', hB', ht, hl⟩ := hL B hB
    exact ⟨B', hB', by rw [hV, hl, ht]; exact h2⟩
  | _ => exact h

theorem repAs_agree {w0 : World} {G : Nat → Prop} {L L' : Heap} {V V' : Nat → Value} : ∀ {as : List Atom} {vs : List Value}, RepAs w0 G L V as vs → (∀ r ∈ as.flatMap refA, Agree L V L' V' r) → RepAs w0 G L' V' as vs
  | [], _, h, _ => h
  | A :: s, vs, ⟨v, r, h, h1, h2⟩, ha => ⟨v, r, h, repA_agree h1 (fun r hr => ha r (by simp [hr])), repAs_agree h2 (fun r hr => ha r (by simp only [List.flatMap_cons, List.mem_append]; exact .inr hr))⟩

theorem repP_agree {w0 : World} {G : Nat → Prop} {L L' : Heap} {V V' : Nat → Value} {p : PV} {v : Value} (h : RepP w0 G L V p v) (ha : ∀ r ∈ refsP p, Agree L V L' V' r) : RepP w0 G L' V' p v := by
  cases p with
  | a A => exact repA_agree h ha
  | tup xs => obtain ⟨vs, hv, hr⟩ := h; exact ⟨vs, hv, repAs_agree hr ha⟩
  | fn f xs => obtain ⟨vs, hv, hr⟩ := h; exact ⟨vs, hv, repAs_agree hr ha⟩

theorem repP_kill {w0 : World} {G : Nat → Prop} {L : Heap} {V : Nat → Value} {p : PV} {v : Value} (r : Nat) (h : RepP w0 G L V p v) : RepP w0 G L V (killP r p) v := by
  unfold killP
  cases memB r (refsP p) with
  | true => trivial
  | false => exact h

theorem repA_live {w0 : World} {G : Nat → Prop} {L : Heap} {V : Nat → Value} {A : Atom} {v : Value} (h : RepA w0 G L V A v) : ∀ r ∈ refA A, ∃ B, hget L r = some B := by
  cases A with
  | osl r rg => obtain ⟨B, hB, _⟩ := h; intro s hs; simp [refA] at hs; subst hs; exact ⟨B, hB⟩
  | optr r i p => obtain ⟨B, hB, _⟩ := h; intro s hs; simp [refA] at hs; subst hs; exact ⟨B, hB⟩
  | _ => intro s hs; simp [refA] at hs

theorem repAs_live {w0 : World} {G : Nat → Prop} {L : Heap} {V : Nat → Value} : ∀ {as : List Atom} {vs : List Value}, RepAs w0 G L V as vs → ∀ r ∈ as.flatMap refA, ∃ B, hget L r = some B
  | [], _, _, r, hr => by simp at hr
  | A :: s, vs, ⟨v, q, h, h1, h2⟩, r, hr => by
    simp only [List.flatMap_cons, List.mem_append] at hr
    rcases hr with hr | hr
    · exact repA_live h1 r hr
    · exact repAs_live h2 r hr

theorem repP_live {w0 : World} {G : Nat → Prop} {L : Heap} {V : Nat → Value} {p : PV} {v : Value} (h : RepP w0 G L V p v) : ∀ r ∈ refsP p, ∃ B, hget L r = some B := by
  cases p with
  | a A => exact repA_live h
  | tup xs => obtain ⟨vs, hv, hr⟩ := h; exact repAs_live hr
  | fn f xs => obtain ⟨vs, hv, hr⟩ := h; exact repAs_live hr

def upd1 {β : Type} (f : Nat → β) (r : Nat) (x : β) : Nat → β := fun s => cond (Nat.beq s r) x (f s)

theorem upd1_same {β : Type} (f : Nat → β) (r : Nat) (x : β) : upd1 f r x r = x := by simp [upd1]
theorem upd1_other {β : Type} (f : Nat → β) {r s : Nat} (x : β) (h : s ≠ r) : upd1 f r x s = f s := by
  simp only [upd1, nbeq_false h, cond_false]

section
variable {P : Program} {n : Nat} {w0 w : World} {O : List Nat} {a : Act} {E : Env} {L : Heap} {V : Nat → Value} {own : Nat → List Nat}

/-- **A new owned array.** -/
theorem RelV.grow (hR : RelV n w0 O w a E L V own) {A0 : Arr} {v : Value} {bs : List Nat} (ho : EntC w0 (Good w0 O) w A0 v bs) (hn : bs.Nodup) (hg : ∀ b ∈ bs, ¬ Good w0 O b)
    (hd : ∀ r A, hget L r = some A → ∀ b ∈ own r, b ∉ bs) : RelV n w0 O w a E (L ++ [some A0]) (upd1 V L.length v) (upd1 own L.length bs) := by
  have hsplit : ∀ r A, hget (L ++ [some A0]) r = some A → (r ≠ L.length ∧ hget L r = some A) ∨ (r = L.length ∧ A = A0) := by
    intro r A h
    rw [hget_append] at h
    split at h
    · rename_i hlt; exact .inl ⟨by omega, h⟩
    · rename_i hge
      have : r - L.length = 0 := by
        cases hk : r - L.length with
        | zero => rfl
        | succ k => rw [hk] at h; simp [hget] at h
      rw [this] at h
      simp only [hget, Option.some.injEq] at h
      exact .inr ⟨by omega, h.symm⟩
  have hagree : ∀ r, (∃ B, hget L r = some B) → Agree L V (L ++ [some A0]) (upd1 V L.length v) r := by
    rintro r ⟨B, hB⟩
    have hlt := hget_lt hB
    refine ⟨upd1_other _ _ (by omega), fun A hA => ⟨A, ?_, rfl, rfl⟩⟩
    rw [hget_append, if_pos hlt]; exact hA
  refine ⟨hR.kept, hR.size, hR.defers, ?_, ?_, ?_, ?_, fun i => repP_agree (hR.env i) fun r hr => hagree r (repP_live (hR.env i) r hr)⟩
  · intro r A h
    rcases hsplit r A h with ⟨hne, h⟩ | ⟨rfl, rfl⟩
    · rw [upd1_other _ _ hne, upd1_other _ _ hne]; exact hR.heap r A h
    · rw [upd1_same, upd1_same]; exact ho
  · intro r A h
    rcases hsplit r A h with ⟨hne, h⟩ | ⟨rfl, rfl⟩
    · rw [upd1_other _ _ hne]; exact hR.good r A h
    · rw [upd1_same]; exact hg
  · intro r A h
    rcases hsplit r A h with ⟨hne, h⟩ | ⟨rfl, rfl⟩
    · rw [upd1_other _ _ hne]; exact hR.nodup r A h
    · rw [upd1_same]; exact hn
  · intro r s A B h1 h2 hrs
    rcases hsplit r A h1 with ⟨hne, g1⟩ | ⟨rfl, rfl⟩
    · rcases hsplit s B h2 with ⟨hne', g2⟩ | ⟨rfl, rfl⟩
      · rw [upd1_other _ _ hne, upd1_other _ _ hne']; exact hR.apart r s A B g1 g2 hrs
      · rw [upd1_same, upd1_other _ _ hne]; exact hd r A g1
    · rcases hsplit s B h2 with ⟨hne', g2⟩ | ⟨rfl, rfl⟩
      · rw [upd1_same, upd1_other _ _ hne']
        intro b hb hb'
        exact hd s B g2 b hb' hb
      · exact absurd rfl hrs

theorem repA_new {A0 : Arr} {v : Value} {bs : List Nat} {G G' : Nat → Prop} {u : World} (h : EntC u G' w A0 v bs) : RepA w0 G (L ++ [some A0]) (upd1 V L.length v) (.osl L.length none) v := by
  have hg : hget (L ++ [some A0]) L.length = some A0 := by
    rw [hget_append, if_neg (Nat.lt_irrefl _), Nat.sub_self]; rfl
  refine ⟨_, hg, fun _ => (upd1_same _ _ _).symm, ?_⟩
  rw [upd1_same]
  refine ⟨Nat.zero_le _, Nat.le_refl _, ?_⟩
  rcases h.2 with ⟨h1, h2, _⟩ | ⟨b, off, cap, cur, ty, fz, bss, h1, h2, h3, h4, h5, h6, h7, h8, h9⟩
  · exact .inl ⟨h1, h1, by rw [h2]; rfl⟩
  · exact .inr ⟨b, off, A0.xs.length, cap, off, cap, h1, by rw [h1]; rfl, by simpa [rgLo, rgHi] using h2, .inl ⟨by simp [rgLo], by simp [rgLo]⟩⟩

/-! ### Results -/

def resA (k : Nat) : List Dyn → Option (List Atom × Heap)
  | [] => some ([], [])
  | ⟨.sl e, xs⟩ :: r => match resA (k + 1) r with
    | some (as, es) => some (.osl k none :: as, some ⟨e, xs, false⟩ :: es)
    | none => none
  | ⟨t, x⟩ :: r => match t.flat, resA k r with
    | true, some (as, es) => some (toAtom t x :: as, es)
    | _, _ => none

theorem own_toAtom {t : Ty} {x : t.den} {cs : List Value} {bs : List Nat} (hf : t.flat = true) (h : OwnC w t x cs bs) {v : Value} (hv : IsVal t cs v) (G : Nat → Prop) :
    RepA w0 G L V (toAtom t x) v ∧ bs = [] := by
  obtain ⟨hr, hb⟩ := h.flat (w' := w0) (G := G) hf
  have : v = valOf t cs := by
    cases t <;> simp only [IsVal] at hv <;> subst hv <;> rfl
  subst this
  exact ⟨repA_toAtom hr.repB, hb⟩

theorem nodup_flatten_cons {b : List Nat} {bs : List (List Nat)} (h : (b :: bs).flatten.Nodup) : b.Nodup ∧ bs.flatten.Nodup ∧ ∀ x ∈ b, x ∉ bs.flatten := by
  rw [List.flatten_cons, List.nodup_append] at h
  exact ⟨h.1, h.2.1, fun x hx hm => h.2.2 x hx x hm rfl⟩

theorem res_spec : ∀ {ds : List Dyn} {L : Heap} {V : Nat → Value} {own : Nat → List Nat} {as : List Atom} {es : Heap} {rs : List Value} {rbs : List (List Nat)},
    RelV n w0 O w a E L V own → resA L.length ds = some (as, es) → ResRep w ds rs rbs → rbs.flatten.Nodup → (∀ b ∈ rbs.flatten, ¬ Good w0 O b) → (∀ r A, hget L r = some A → ∀ b ∈ own r, b ∉ rbs.flatten) →
    ∃ V' own', RelV n w0 O w a E (L ++ es) V' own' ∧ RepAs w0 (Good w0 O) (L ++ es) V' as rs ∧ as.length = rs.length ∧ (∀ r, (∃ B, hget L r = some B) → Agree L V (L ++ es) V' r) ∧ (∀ r, r < L.length → V' r = V r ∧ own' r = own r) ∧ (∀ r, L.length ≤ r → r < L.length + es.length → ∀ b ∈ own' r, b ∈ rbs.flatten)
  | [], L, V, own, as, es, rs, rbs, hR, h, hr, _, _, _ => by
    cases h
    obtain ⟨rfl, _⟩ := hr
    refine ⟨V, own, by rw [List.append_nil]; exact hR, rfl, rfl, (fun r _ => ⟨rfl, fun A hA => ⟨A, by rw [List.append_nil]; exact hA, rfl, rfl⟩⟩), (fun r _ => ⟨rfl, rfl⟩), fun r h1 h2 => by simp at h2; omega⟩
  | ⟨t, x⟩ :: ds, L, V, own, as, es, rs, rbs, hR, h, hr, hn, hg, hd => by
    obtain ⟨v, s, b, bs, cs, rfl, rfl, ho, hv, hr⟩ := hr
    obtain ⟨hn1, hn2, hn3⟩ := nodup_flatten_cons hn
    have hg1 : ∀ c ∈ b, ¬ Good w0 O c := fun c hc => hg c (by simp [hc])
    have hg2 : ∀ c ∈ bs.flatten, ¬ Good w0 O c := fun c hc => hg c (by rw [List.flatten_cons]; exact List.mem_append_right _ hc)
    by_cases hsl : ∃ e, t = .sl e
    · obtain ⟨e, rfl⟩ := hsl
      simp only [resA] at h
      split at h
      · rename_i as' es' h'
        cases h
        simp only [IsVal] at hv
        subst hv
        have hR' := hR.grow (EntC.own.2 ho) hn1 hg1 (fun r A hA c hc hm => hd r A hA c hc (by simp [hm]))
        have hlen : (L ++ [some (⟨e, x, false⟩ : Arr)]).length = L.length + 1 := by simp
        have hnew : RepA w0 (Good w0 O) (L ++ [some ⟨e, x, false⟩]) (upd1 V L.length v) (.osl L.length none) v := repA_new (u := w0) (G' := Good w0 O) (EntC.own.2 ho)
        obtain ⟨V', own', h1, h2, h3, h4, h5, h6⟩ := res_spec hR' (by rw [hlen]; exact h') hr hn2 hg2 (by
          intro r A hA c hc hm
          rw [hget_append] at hA
          split at hA
          · rename_i hlt
            rw [upd1_other _ _ (by omega)] at hc
            exact hd r A hA c hc (by rw [List.flatten_cons]; exact List.mem_append_right _ hm)
          · rename_i hge
            have hlt := hget_lt (L := [some (⟨e, x, false⟩ : Arr)]) hA
            have : r = L.length := by simp at hlt; omega
            subst this
            rw [upd1_same] at hc
            exact hn3 c hc hm)
        rw [List.append_assoc] at h1 h2 h4
        refine ⟨V', own', h1, ⟨v, s, rfl, ?_, h2⟩, by simp [h3], fun r hr => ?_, fun r hr => ?_, fun r hr hr2 c hc => ?_⟩
        · refine repA_agree hnew fun r hr => ?_
          exact h4 r (repA_live hnew r hr)
        · have a1 : Agree L V (L ++ [some ⟨e, x, false⟩]) (upd1 V L.length v) r := by
            obtain ⟨B, hB⟩ := hr
            have hlt := hget_lt hB
            refine ⟨upd1_other _ _ (by omega), fun A hA => ⟨A, ?_, rfl, rfl⟩⟩
            rw [hget_append, if_pos hlt]; exact hA
          obtain ⟨B, hB⟩ := hr
          obtain ⟨B', hB', _⟩ := a1.2 B hB
          have a2 := h4 r ⟨B', hB'⟩
          refine ⟨a2.1.trans a1.1, fun A hA => ?_⟩
          obtain ⟨A', hA', ht, hl⟩ := a1.2 A hA
          obtain ⟨A'', hA'', ht', hl'⟩ := a2.2 A' hA'
          exact ⟨A'', hA'', ht'.trans ht, hl'.trans hl⟩
        · obtain ⟨e1, e2⟩ := h5 r (by rw [hlen]; omega)
          rw [e1, e2, upd1_other _ _ (by omega), upd1_other _ _ (by omega)]
          exact ⟨rfl, rfl⟩
        · by_cases hre : r = L.length
          · subst hre
            rw [(h5 _ (by rw [hlen]; omega)).2, upd1_same] at hc
            simp [hc]
          · have := h6 r (by rw [hlen]; omega) (by rw [hlen]; simp at hr2; omega) c hc
            rw [List.flatten_cons]
            exact List.mem_append_right _ this
      · cases h
    · have h' : ∃ as', t.flat = true ∧ resA L.length ds = some (as', es) ∧ as = toAtom t x :: as' := by
        cases t with
        | sl e => exact absurd ⟨e, rfl⟩ hsl
        | _ =>
          simp only [resA] at h
          split at h
          · rename_i as' es' hf h'
            cases h
            exact ⟨as', hf, h', rfl⟩
          · cases h
      obtain ⟨as', hf, h', rfl⟩ := h'
      obtain ⟨V', own', h1, h2, h3, h4, h5, h6⟩ := res_spec hR h' hr hn2 hg2 (fun r A hA c hc hm => hd r A hA c hc (by rw [List.flatten_cons]; exact List.mem_append_right _ hm))
      exact ⟨V', own', h1, ⟨v, s, rfl, (own_toAtom hf ho hv _).1, h2⟩, by simp [h3], h4, h5, fun r hr hr2 c hc => by rw [List.flatten_cons]; exact List.mem_append_right _ (h6 r hr hr2 c hc)⟩
end
end Go.Am
