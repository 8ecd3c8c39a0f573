/- The abstract machine, part 5: what the reading operations yield. -/
import Derived.Test.YtjoimmmpaocfkaaAm4
namespace Go.Am
set_option linter.unusedVariables false
set_option linter.unusedSimpArgs false

/-! ### Parts of trees -/

theorem fldD_own {w : World} : ∀ {t : Ty} {x : t.den} {n : Nat} {d : Dyn} {cs : List Value} {bs : List Nat}, fldD t x n = some d → OwnC w t x cs bs →
    ∃ o bs', fldOff t n = some (o, d.t) ∧ OwnC w d.t d.x ((cs.drop o).take d.t.size) bs' ∧ o + d.t.size ≤ cs.length ∧ ∀ b ∈ bs', b ∈ bs
  | .cons a b, x, 0, d, cs, bs, h, hr => by
    obtain ⟨c1, c2, b1, b2, rfl, rfl, h1, h2⟩ := hr
    cases h
    refine ⟨0, b1, rfl, ?_, by rw [List.length_append, h1.length]; simp, fun b hb => List.mem_append_left _ hb⟩
    simp only [List.drop_zero]
    rw [← h1.length, List.take_left]
    exact h1
  | .cons a b, x, n + 1, d, cs, bs, h, hr => by
    obtain ⟨c1, c2, b1, b2, rfl, rfl, h1, h2⟩ := hr
    obtain ⟨o, bs', ho, hro, hl, hb⟩ := fldD_own (t := b) h h2
    refine ⟨a.size + o, bs', by simp [fldOff, ho], ?_, by rw [List.length_append, h1.length]; omega, fun b hb' => List.mem_append_right _ (hb b hb')⟩
    rw [← h1.length, List.drop_append, List.drop_of_length_le (by omega), List.nil_append, Nat.add_sub_cancel_left]
    exact hro
  | .int _, _, _, _, _, _, h, _ => by cases h
  | .bool, _, _, _, _, _, h, _ => by cases h
  | .str, _, _, _, _, _, h, _ => by cases h
  | .sl _, _, _, _, _, _, h, _ => by cases h
  | .unit, _, _, _, _, _, h, _ => by cases h

theorem take_drop_sub {α : Type} (l : List α) (o n o' n' : Nat) (h : o' + n' ≤ n) : (((l.drop o).take n).drop o').take n' = (l.drop (o + o')).take n' := by
  rw [List.drop_take, List.take_take, List.drop_drop]
  congr 1
  omega

theorem pathD_own {w : World} : ∀ {p : List Nat} {d0 d : Dyn} {cs : List Value} {bs : List Nat}, pathD p d0 = some d → OwnC w d0.t d0.x cs bs →
    ∃ o bs', pathOff p d0.t = some (o, d.t) ∧ OwnC w d.t d.x ((cs.drop o).take d.t.size) bs' ∧ o + d.t.size ≤ cs.length ∧ ∀ b ∈ bs', b ∈ bs
  | [], d0, d, cs, bs, h, hr => by
    cases h
    refine ⟨0, bs, rfl, ?_, by rw [hr.length]; simp, fun _ h => h⟩
    rw [List.drop_zero, ← hr.length, List.take_length]
    exact hr
  | f :: p, d0, d, cs, bs, h, hr => by
    simp only [pathD] at h
    split at h
    · rename_i d1 h1
      obtain ⟨o1, b1, ho1, hr1, hl1, hb1⟩ := fldD_own h1 hr
      obtain ⟨o2, b2, ho2, hr2, hl2, hb2⟩ := pathD_own h hr1
      have hl2' : o2 + d.t.size ≤ d1.t.size := by
        rw [hr1.length] at hl2; exact hl2
      refine ⟨o1 + o2, b2, by simp [pathOff, ho1, ho2], ?_, by omega, fun b hb => hb1 b (hb2 b hb)⟩
      rw [take_drop_sub _ _ _ _ _ hl2'] at hr2
      exact hr2
    · cases h

theorem pathD_rep {w : World} {G : Nat → Prop} : ∀ {p : List Nat} {d0 d : Dyn} {cs : List Value}, pathD p d0 = some d → RepC w G d0.t d0.x cs →
    ∃ o, pathOff p d0.t = some (o, d.t) ∧ RepC w G d.t d.x ((cs.drop o).take d.t.size) ∧ o + d.t.size ≤ cs.length
  | [], d0, d, cs, h, hr => by
    cases h
    refine ⟨0, rfl, ?_, by rw [hr.length]; simp⟩
    rw [List.drop_zero, ← hr.length, List.take_length]
    exact hr
  | f :: p, d0, d, cs, h, hr => by
    simp only [pathD] at h
    split at h
    · rename_i d1 h1
      obtain ⟨o1, ho1, hr1, hl1⟩ := fldD_spec h1 hr
      obtain ⟨o2, ho2, hr2, hl2⟩ := pathD_rep h hr1
      have hl2' : o2 + d.t.size ≤ d1.t.size := by
        rw [hr1.length] at hl2; exact hl2
      refine ⟨o1 + o2, by simp [pathOff, ho1, ho2], ?_, by omega⟩
      rw [take_drop_sub _ _ _ _ _ hl2'] at hr2
      exact hr2
    · cases h

/-! ### The pieces of the evaluator -/

def loadA (L : Heap) (t : Ty) : Atom → Option Atom
  | .ptr t' x => match decide (t' = t) with | true => some (toAtom t' x) | false => none
  | .optr r i p => match hget L r with
    | some A => match pathD p ⟨A.t, A.xs.getD i A.t.dflt⟩ with
      | some d => match decide (d.t = t) && (A.bor || d.t.flat) with | true => some d.atom | false => none
      | none => none
    | none => none
  | _ => none

def fldAddrA (L : Heap) (t : Ty) (f : Nat) : Atom → Option Atom
  | .ptr t' x => match decide (t' = t) with
    | true => match fldD t' x f with | some d => some (.ptr d.t d.x) | none => none
    | false => none
  | .optr r i p => match hget L r with
    | some A => match pathOff p A.t with
      | some (_, t') => match decide (t' = t) with
        | true => match fldOff t' f with | some _ => some (.optr r i (p ++ [f])) | none => none
        | false => none
      | none => none
    | none => none
  | _ => none

def fieldA (t : Ty) (f : Nat) : Atom → Option Atom
  | .st t' x => match decide (t' = t) with
    | true => match fldD t' x f with | some d => some d.atom | none => none
    | false => none
  | _ => none

def byteAt (s : ByteArray) (i : Int) : Int := ((s.data.toList.getD i.toNat 0).toNat : Int)

def idxAddrA (L : Heap) (t : Ty) (n : Int) : Atom → Option (List Prop × Atom)
  | .sl t' xs => match decide (t' = t) with
    | true => some ([0 ≤ n, n < (xs.length : Int)], .ptr t' (xs.getD n.toNat t'.dflt))
    | false => none
  | .osl r rg => match hget L r with
    | some A => match decide (A.t = t) with
      | true => match rg with
        | none => some ([0 ≤ n, n < (A.xs.length : Int)], .optr r n.toNat [])
        | some (lo, hi) => some ([0 ≤ n, n < ((hi - lo : Nat) : Int)], .optr r (lo + n.toNat) [])
      | false => none
    | none => none
  | _ => none

def lenA (L : Heap) : Atom → Option Int
  | .val (.string s) => some (s.size : Int)
  | .val (.slice none _ _) => some 0
  | .sl _ xs => some (xs.length : Int)
  | .osl r rg => match hget L r with
    | some A => match rg with
      | none => some (A.xs.length : Int)
      | some (lo, hi) => some ((hi - lo : Nat) : Int)
    | none => none
  | _ => none

section
variable {P : Program} {n : Nat} {w0 w : World} {O : List Nat} {a : Act} {E : Env} {L : Heap} {V : Nat → Value} {own : Nat → List Nat}

/-- What is borrowed stays. -/
theorem RelV.keepG (h : RelV n w0 O w a E L V own) {w' : World} (k : Kept [] w w') : ∀ b, Good w0 O b → w'.heap[b]? = w0.heap[b]? :=
  (h.kept.trans k.of_nil).good

theorem CellsAt.keep {w w' : World} {b off : Nat} {cs : List Value} (hb : w'.heap[b]? = w.heap[b]?) (h : CellsAt w b off cs) : CellsAt w' b off cs :=
  fun j c hj => by rw [World.cell?_of_block (w := w) hb]; exact h j c hj

/-- The element i of an owned array, its cells in memory. -/
theorem own_elem {A : Arr} {G : Nat → Prop} {v : Value} {bs : List Nat} {b off m cap : Nat} (h : EntC w0 G w A v bs) (hv : v = .slice (some ⟨b, off, none⟩) m cap) {i : Nat} {x : A.t.den} (hx : A.xs[i]? = some x) :
    ∃ cs bi, CellsAt w b (off + i * A.t.size) cs ∧ entR w0 G w A.t A.bor x cs bi ∧ (∀ k ∈ bi, k ∈ bs) ∧ b ∈ bs := by
  rcases h.2 with ⟨h1, _, _⟩ | ⟨b', off', cap', cur, ty, fz, bss, h1, h2, h3, h4, h5, h6, h7, h8, h9⟩
  · rw [h1] at hv; cases hv
  · rw [h1] at hv
    cases hv
    have hlt : i < bss.length := by rw [h7]; exact (List.getElem?_eq_some_iff.1 hx).1
    obtain ⟨cs, hl, hc, hr⟩ := h9 i x _ hx (List.getElem?_eq_getElem hlt)
    refine ⟨cs, _, fun j c hj => ?_, hr, fun k hk => by rw [h8]; exact List.mem_cons_of_mem _ (mem_flatten_of_get (List.getElem?_eq_getElem hlt) k hk), by rw [h8]; exact List.mem_cons_self ..⟩
    simp only [World.cell?, h5]
    exact hc j c hj

theorem getD_of_lt {α : Type} (xs : List α) (i : Nat) (d : α) (h : i < xs.length) : xs[i]? = some (xs.getD i d) := by
  rw [List.getD_eq_getElem?_getD, List.getElem?_eq_getElem h]; rfl

theorem CellsAt.sub {w : World} {b off : Nat} {cs : List Value} (h : CellsAt w b off cs) (o m : Nat) : CellsAt w b (off + o) ((cs.drop o).take m) := fun j c hj => by
  rw [List.getElem?_take] at hj
  split at hj
  · rw [List.getElem?_drop] at hj
    rw [Nat.add_assoc]
    exact h _ _ hj
  · cases hj

theorem repA_toAtom {G : Nat → Prop} {t : Ty} {x : t.den} {v : Value} (h : RepB w0 G (toAtom t x) v) : RepA w0 G L V (toAtom t x) v := by
  cases t <;> exact h

theorem loadA_spec (hR : RelV n w0 O w a E L V own) {T : TypeId} {t : Ty} (hT : TyOk P T t) {A A' : Atom} {u : Value} (hu : RepA w0 (Good w0 O) L V A u) (h : loadA L t A = some A') :
    ∃ v, RepA w0 (Good w0 O) L V A' v ∧ ∀ w', Kept [] w w' → (Instr.loadAt T u).run P w' = .ok v w' := by
  unfold loadA at h
  split at h
  · rename_i t' x
    split at h
    · rename_i ht
      obtain rfl := of_decide_eq_true ht
      cases h
      obtain ⟨b, off, cs, rfl, hb, hc, hr⟩ := hu
      refine ⟨valOf t' cs, repA_toAtom hr.repB, fun w' k => ?_⟩
      · unfold Instr.loadAt Instr.sureAddr
        simp only [Sem.run_bind, Sem.run_pure, Result.andThen_ok]
        exact loadVar_run hT hr.length (hc.keep (hR.keepG k b hb))
    · cases h
  · rename_i r i p
    split at h
    · rename_i B hB
      split at h
      · rename_i d hd
        split at h
        · rename_i hdt
          simp only [Bool.and_eq_true, decide_eq_true_eq] at hdt
          obtain ⟨hdt, hfl⟩ := hdt
          cases h
          obtain ⟨B', hB', hi, b, off, m, cap, po, t', hv, hp, rfl⟩ := hu
          rw [hB] at hB'; cases hB'
          have hown := hR.heap r B hB
          obtain ⟨cs, bi, hc, ho, hsub, hb⟩ := own_elem hown hv (getD_of_lt B.xs i B.t.dflt hi)
          have hrep : RepC w0 (Good w0 O) d.t d.x ((cs.drop po).take d.t.size) ∧ t' = d.t := by
            revert ho hfl
            unfold entR
            cases hbor : B.bor with
            | true =>
              intro hfl ho
              obtain ⟨o, ho1, ho2, ho3⟩ := pathD_rep hd ho.1
              rw [hp] at ho1; cases ho1
              exact ⟨ho2, rfl⟩
            | false =>
              intro hfl ho
              obtain ⟨o, bs', ho1, ho2, ho3, ho4⟩ := pathD_own hd ho
              rw [hp] at ho1; cases ho1
              exact ⟨(ho2.flat (w' := w0) (G := Good w0 O) (by simpa using hfl)).1, rfl⟩
          obtain ⟨hrep, rfl⟩ := hrep
          have hblt : b < w.heap.size := hown.lt b hb
          refine ⟨valOf d.t ((cs.drop po).take d.t.size), repA_toAtom hrep.repB, fun w' k => ?_⟩
          · unfold Instr.loadAt Instr.sureAddr
            simp only [Sem.run_bind, Sem.run_pure, Result.andThen_ok]
            subst hdt
            exact loadVar_run hT hrep.length ((hc.sub po _).keep (k.block b hblt (by simp)))
        · cases h
      · cases h
    · cases h
  · cases h

theorem pathOff_snoc : ∀ {p : List Nat} {t t' t'' : Ty} {o o' f : Nat}, pathOff p t = some (o, t') → fldOff t' f = some (o', t'') → pathOff (p ++ [f]) t = some (o + o', t'')
  | [], t, t', t'', o, o', f, h, h2 => by cases h; simp [pathOff, h2]
  | g :: p, t, t', t'', o, o', f, h, h2 => by
    simp only [pathOff] at h
    split at h
    · rename_i o1 t1 h1
      split at h
      · rename_i o2 t2 h3
        cases h
        have := pathOff_snoc h3 h2
        simp [pathOff, h1, this, Nat.add_assoc]
      · cases h
    · cases h

theorem fldAddrA_spec {S : TypeId} {t : Ty} (hS : TIOk P S (.struct t)) {f : Nat} {A A' : Atom} {u : Value} (hu : RepA w0 (Good w0 O) L V A u) (h : fldAddrA L t f A = some A') :
    ∃ v, RepA w0 (Good w0 O) L V A' v ∧ ∀ w', (Instr.fieldAt S u f).run P w' = .ok v w' := by
  unfold fldAddrA at h
  split at h
  · rename_i t' x
    split at h
    · rename_i ht
      obtain rfl := of_decide_eq_true ht
      split at h
      · rename_i d hd
        cases h
        obtain ⟨b, off, cs, rfl, hb, hc, hr⟩ := hu
        obtain ⟨o, ho, hr', hl⟩ := fldD_spec hd hr
        exact ⟨_, ⟨b, off + o, _, rfl, hb, hc.sub o _, hr'⟩, fun w' => fieldAt_run hS ho b off⟩
      · cases h
    · cases h
  · rename_i r i p
    split at h
    · rename_i B hB
      split at h
      · rename_i po t' hp
        split at h
        · rename_i ht
          obtain rfl := of_decide_eq_true ht
          split at h
          · rename_i y hy
            obtain ⟨o', t''⟩ := y
            cases h
            obtain ⟨B', hB', hi, b, off, m, cap, po', t2, hv, hp', rfl⟩ := hu
            rw [hB] at hB'; cases hB'
            rw [hp] at hp'; cases hp'
            refine ⟨_, ⟨B, hB, hi, b, off, m, cap, po + o', t'', hv, pathOff_snoc hp hy, rfl⟩, fun w' => ?_⟩
            have := fieldAt_run (P := P) (w := w') hS hy b (off + i * B.t.size + po)
            rw [this]
            simp [Nat.add_assoc]
          · cases h
        · cases h
      · cases h
    · cases h
  · cases h

theorem fieldA_spec {S : TypeId} {t : Ty} (hS : TIOk P S (.struct t)) {f : Nat} {A A' : Atom} {u : Value} (hu : RepA w0 (Good w0 O) L V A u) (h : fieldA t f A = some A') :
    ∃ v, RepA w0 (Good w0 O) L V A' v ∧ ∀ w', (Instr.field S u f).run P w' = .ok v w' := by
  unfold fieldA at h
  split at h
  · rename_i t' x
    split at h
    · rename_i ht
      obtain rfl := of_decide_eq_true ht
      split at h
      · rename_i d hd
        cases h
        obtain ⟨cs, rfl, hr⟩ := hu
        obtain ⟨o, ho, hr', hl⟩ := fldD_spec hd hr
        exact ⟨valOf d.t ((cs.drop o).take d.t.size), repA_toAtom hr'.repB, fun w' => field_run hS ho cs hl⟩
      · cases h
    · cases h
  · cases h

theorem idxAddrA_spec {T e : TypeId} {t : Ty} {by' : Nat} (hT : TIOk P T (.slice e t by')) {k : IntKind} {i : Int} {A A' : Atom} {cs : List Prop} {u : Value} (hu : RepA w0 (Good w0 O) L V A u)
    (h : idxAddrA L t i A = some (cs, A')) (hc : All cs) :
    ∃ v, RepA w0 (Good w0 O) L V A' v ∧ ∀ w', (Instr.indexAt T u (.int k i)).run P w' = .ok v w' := by
  unfold idxAddrA at h
  split at h
  · rename_i t' xs
    split at h
    · rename_i ht
      obtain rfl := of_decide_eq_true ht
      cases h
      simp only [All] at hc
      obtain ⟨h0, h1, _⟩ := hc
      rcases hu.2 with ⟨_, rfl⟩ | ⟨b, off, cap, rfl, _, _, hb, hx⟩
      · simp at h1; omega
      · have hlt : i.toNat < xs.length := by omega
        obtain ⟨cs, hl, hc, hr⟩ := hx i.toNat _ (getD_of_lt xs i.toNat t'.dflt hlt)
        exact ⟨_, ⟨b, off + i.toNat * t'.size, cs, rfl, hb, hc, hr⟩, fun w' => indexAt_run hT b off _ cap h0 h1⟩
    · cases h
  · rename_i r rg
    split at h
    · rename_i B hB
      split at h
      · rename_i ht
        have ht := of_decide_eq_true ht
        obtain ⟨B', hB', _, hs1, hs2, hs3⟩ := hu
        rw [hB] at hB'; cases hB'
        have key : ∀ (lo hi : Nat), rgLo rg = lo → rgHi B.xs.length rg = hi → 0 ≤ i → i < ((hi - lo : Nat) : Int) →
            ∃ v, RepA w0 (Good w0 O) L V (.optr r (lo + i.toNat) []) v ∧ ∀ w', (Instr.indexAt T u (.int k i)).run P w' = .ok v w' := by
          intro lo hi hlo hhi h0 h1
          rw [hlo, hhi] at hs1 hs3
          rw [hhi] at hs2
          rcases hs3 with ⟨_, _, h3⟩ | ⟨b, off, m, cap, o, c, hv, rfl, hle, hcase⟩
          · omega
          · have hcase := (hcase.resolve_right (by omega)).1
            subst hcase
            subst ht
            refine ⟨_, ⟨B, hB, by omega, b, off, m, cap, 0, B.t, hv, rfl, rfl⟩, fun w' => ?_⟩
            rw [indexAt_run hT b (off + lo * B.t.size) (hi - lo) c h0 h1, Nat.add_zero, Nat.add_mul, Nat.add_assoc]
        split at h
        · cases h
          simp only [All] at hc
          have := key 0 B.xs.length rfl rfl hc.1 (by simpa using hc.2.1)
          rwa [Nat.zero_add] at this
        · cases h
          simp only [All] at hc
          exact key _ _ rfl rfl hc.1 hc.2.1
      · cases h
    · cases h
  · cases h
end
end Go.Am
