/- The abstract machine, part 16: append, bytes and strings, on the abstract state. -/
import Derived.Test.YtjoimmmpaocfkaaAm15
namespace Go.Am
set_option linter.unusedVariables false
set_option linter.unusedSimpArgs false

def srcS : (t : Ty) → ByteArray → Option (List t.den)
  | .int .u8, s => some (bytesOf s)
  | _, _ => none

def srcA (tab : List TI) (L : Heap) (T2 : TypeId) (t : Ty) : Atom → Option (List t.den)
  | .val (.string s) => match tabGet tab T2 with
    | .scal .str => srcS t s
    | _ => none
  | A => match tabGet tab T2 with
    | .slice _ _ _ => decV L (.sl t) A
    | _ => none

/-- 'append' -/
def appA (tab : List TI) (E : Env) (L : Heap) (T T2 : TypeId) : PV → PV → Option (List Prop × PV × Env × Heap)
  | .a S, .a X => match tabGet tab T with
    | .slice _ t by' => match Nat.ble 1 t.size && t.flat && Nat.ble 1 by', srcA tab L T2 t X with
      | true, some ys => match S with
        | .val (.slice none _ _) => some ([ys.length * by' ≤ 140737488355328], .a (.osl L.length none), E, L ++ [some ⟨t, ys, false⟩])
        | .osl r rg => match hget L r with
          | some A => if h : t = A.t then some ([((rgL rg A.xs).length + ys.length) * by' ≤ 140737488355328], .a (.osl r none), killE r E, hset L r (some ⟨A.t, rgL rg A.xs ++ castL h ys, A.bor⟩)) else none
          | none => none
        | _ => none
      | _, _ => none
    | _ => none
  | _, _ => none

section
variable {P : Program} {n : Nat} {w0 w : World} {O : List Nat} {a : Act} {E : Env} {L : Heap} {V : Nat → Value} {own : Nat → List Nat}

/-- **An owned array turns, and its value with it.** -/
theorem RelV.replace (hR : RelV n w0 O w a E L V own) {w' : World} (hk : Kept O w0 w') {r : Nat} {A A' : Arr} (hA : hget L r = some A) (hold : ∀ s C, hget L s = some C → s ≠ r → ∀ b ∈ own s, w'.heap[b]? = w.heap[b]?)
    {v' : Value} {bs' : List Nat} (hE : EntC w0 (Good w0 O) w' A' v' bs') (hn : bs'.Nodup) (hg : ∀ b ∈ bs', ¬ Good w0 O b) (hd : ∀ s C, hget L s = some C → s ≠ r → ∀ b ∈ own s, b ∉ bs') :
    RelV n w0 O w' a (killE r E) (hset L r (some A')) (upd1 V r v') (upd1 own r bs') := by
  have hsplit : ∀ s C, hget (hset L r (some A')) s = some C → (s ≠ r ∧ hget L s = some C) ∨ (s = r ∧ C = A') := by
    intro s C hs
    by_cases hsr : s = r
    · subst hsr; rw [hget_hset_same hA] at hs; cases hs; exact .inr ⟨rfl, rfl⟩
    · exact .inl ⟨hsr, by rwa [hget_hset_other (Ne.symm hsr)] at hs⟩
  refine ⟨hk, hR.size, hR.defers, ?_, ?_, ?_, ?_, fun i => ?_⟩
  · intro s C hs
    rcases hsplit s C hs with ⟨e1, e2⟩ | ⟨rfl, rfl⟩
    · rw [upd1_other _ _ e1, upd1_other _ _ e1]; exact (hR.heap s C e2).keep (hold s C e2 e1)
    · rw [upd1_same, upd1_same]; exact hE
  · intro s C hs
    rcases hsplit s C hs with ⟨e1, e2⟩ | ⟨rfl, rfl⟩
    · rw [upd1_other _ _ e1]; exact hR.good s C e2
    · rw [upd1_same]; exact hg
  · intro s C hs
    rcases hsplit s C hs with ⟨e1, e2⟩ | ⟨rfl, rfl⟩
    · rw [upd1_other _ _ e1]; exact hR.nodup s C e2
    · rw [upd1_same]; exact hn
  · intro s u C D hs hu hsu
    rcases hsplit s C hs with ⟨e1, e2⟩ | ⟨rfl, rfl⟩
    · rcases hsplit u D hu with ⟨e3, e4⟩ | ⟨rfl, rfl⟩
      · rw [upd1_other _ _ e1, upd1_other _ _ e3]; exact hR.apart s u C D e2 e4 hsu
      · rw [upd1_other _ _ e1, upd1_same]; exact hd s C e2 e1
    · rcases hsplit u D hu with ⟨e3, e4⟩ | ⟨rfl, rfl⟩
      · rw [upd1_same, upd1_other _ _ e3]; exact fun b hb hb' => hd u D e4 e3 b hb' hb
      · exact absurd rfl hsu
  · rw [get_killE]
    refine repP_agree (repP_kill r (hR.env i)) fun s hs => ?_
    have hsr : s ≠ r := fun e => killP_refs.1 (e ▸ hs)
    exact ⟨upd1_other _ _ hsr, fun C hC => ⟨C, by rw [hget_hset_other (Ne.symm hsr)]; exact hC, rfl, rfl⟩⟩

theorem rep_whole {r : Nat} {A : Arr} {v : Value} {bs : List Nat} {G G' : Nat → Prop} {u u' : World} {L : Heap} {V : Nat → Value} (hA : hget L r = some A) (hV : V r = v) (h : EntC u G' u' A v bs) : RepA w0 G L V (.osl r none) v := by
  refine ⟨A, hA, fun _ => hV.symm, ?_⟩
  rw [hV]
  refine ⟨Nat.zero_le _, Nat.le_refl _, ?_⟩
  rcases h.2 with ⟨h1, h2, _⟩ | ⟨b, off, cap, cur, ty, fz, bss, h1, h2, h3, h4, h5, h6, h7, h8, h9⟩
  · exact .inl ⟨h1, h1, by rw [h2]; rfl⟩
  · exact .inr ⟨b, off, A.xs.length, cap, off, cap, h1, by rw [h1]; rfl, by simpa [rgLo, rgHi] using h2, .inl ⟨by simp [rgLo], by simp [rgLo]⟩⟩

theorem repC_ent {w : World} {G G' : Nat → Prop} {t : Ty} {x : t.den} {cs : List Value} (h : RepC w G t x cs) (hf : t.flat = true) (bor : Bool) (u u' : World) : entR u G' u' t bor x cs [] := by
  unfold entR
  cases bor with
  | true => exact ⟨h.flat hf, rfl⟩
  | false => exact h.own hf

/-- The source of an append: its cells. -/
theorem srcA_spec {tab : List TI} (hT : TabOk P tab) (hR : RelV n w0 O w a E L V own) {T2 : TypeId} {t : Ty} (hf : t.flat = true) {X : Atom} {x : Operand} (hx : opnd E x = .a X) {ys : List t.den} (h : srcA tab L T2 t X = some ys) :
    ∃ d css bss, P.underlying T2 = some d ∧ (∀ k, d ≠ .int k) ∧ bss.flatten = [] ∧ (∀ w1 bor, Row (entR w0 (Good w0 O) w1 t bor) t.size ys css bss) ∧ (∀ w' : World, w'.heap = w.heap → (Builtin.firstCells t.size ys.length (a.eval x)).run P w' = .ok css.flatten.toArray w') ∧ ∀ w', (Builtin.lenOf (a.eval x)).run P w' = .ok ys.length w' := by
  have slice : ∀ {e : TypeId} {t' : Ty} {b : Nat}, tabGet tab T2 = .slice e t' b → decV L (.sl t) X = some ys → ∃ d css bss, P.underlying T2 = some d ∧ (∀ k, d ≠ .int k) ∧ bss.flatten = [] ∧ (∀ w1 bor, Row (entR w0 (Good w0 O) w1 t bor) t.size ys css bss) ∧
      (∀ w' : World, w'.heap = w.heap → (Builtin.firstCells t.size ys.length (a.eval x)).run P w' = .ok css.flatten.toArray w') ∧ ∀ w', (Builtin.lenOf (a.eval x)).run P w' = .ok ys.length w' := by
    intro e t' b ht hd
    have hS := hT T2; rw [ht] at hS
    have hr := decV_rep hR (Kept.refl [] w) (H := []) (by simp) (hR.atom hx) hd (by simp)
    obtain ⟨css, bss, h1, h2, h3⟩ := SlAt.row hr
    refine ⟨_, css, bss, hS.2.1, (fun k h => by cases h), h2, fun w1 bor => h1.mono (fun y c b hb hh => by rw [hh.2]; exact repC_ent hh.1 hf bor _ _), ?_, ?_⟩
    · intro w' hw'
      rcases h3 with ⟨e1, e2⟩ | ⟨b', off, cap, e1, e2, e3⟩
      · have : css = [] := by rw [e2] at h1; exact h1.1
        rw [e1, this]; rfl
      · rw [e1]
        exact run_firstCells_slice h1.len.2.2 (e3.keep (by rw [hw']))
    · intro w'
      rcases h3 with ⟨e1, e2⟩ | ⟨b', off, cap, e1, e2, e3⟩
      · rw [e1, e2]; rfl
      · rw [e1]; rfl
  unfold srcA at h
  split at h
  · rename_i s
    split at h
    · rename_i ht
      have hS := hT T2; rw [ht] at hS
      obtain ⟨e1, e2⟩ := hR.valEq hx
      unfold srcS at h
      split at h
      · cases h
        have hrow : ∀ (l : List UInt8) (w1 : World) (bor : Bool), Row (entR w0 (Good w0 O) w1 (.int .u8) bor) (Ty.int IntKind.u8).size (l.map fun b => (b.toNat : Int)) (l.map fun b => [.int .u8 (b.toNat : Int)]) (l.map fun _ => []) := by
          intro l w1 bor
          induction l with
          | nil => exact ⟨rfl, rfl⟩
          | cons b l ih =>
            refine ⟨_, _, _, _, rfl, rfl, rfl, ?_, ih⟩
            refine repC_ent (w := w1) (G := fun _ => True) (t := .int .u8) (x := (b.toNat : Int)) (cs := [.int .u8 (b.toNat : Int)]) ⟨rfl, ?_⟩ rfl bor _ _
            have hb := b.toNat_lt
            simp [InR, IntKind.min, IntKind.max, IntKind.bits, IntKind.signed]; omega
        refine ⟨_, _, _, TyOk.str_und hS, (fun k h => by cases h), by simp, fun w1 bor => hrow s.data.toList w1 bor, fun w' _ => ?_, fun w' => ?_⟩
        · rw [e1]
          have hl : (bytesOf s).length = s.size := by simp [bytesOf]
          simp only [Builtin.firstCells, hl, Sem.run_pure]
          congr 1
          have hs : s.extract 0 s.size = s := by simp
          rw [hs]
          apply Array.toList_inj.1
          simp
          induction s.data.toList with
          | nil => rfl
          | cons b l ih => simp [ih]
        · rw [e1]
          have hl : (bytesOf s).length = s.size := by simp [bytesOf]
          simp [Builtin.lenOf, hl]
      · cases h
    · cases h
  · split at h
    · rename_i e t' b ht
      exact slice ht h
    · cases h

theorem castL_length {t t' : Ty} (h : t = t') (xs : List t.den) : (castL h xs).length = xs.length := by
  subst h; rfl

theorem drew_size (w : World) : w.drew.heap.size = w.heap.size := rfl

theorem append_nil {tab : List TI} (hT : TabOk P tab) (hR : RelV n w0 O w a E L V own) {T T2 ty e : TypeId} {t : Ty} {i : TypeInfo} {d : TypeDesc} {by' : Nat} {s x : Operand} {ys : List t.den} {css : List (List Value)} {bss : List (List Nat)}
    (hu : P.underlying T = some (.slice e)) (hd1 : P.underlying T2 = some d) (hd2 : ∀ k, d ≠ .int k) (hi : P.info? e = some i) (hbi : i.bytes = by') (he : TyOk P e t) (hsz : 1 ≤ t.size) (hby1 : 1 ≤ by') (hb0 : bss.flatten = [])
    (hrow : ∀ w1 bor, Row (entR w0 (Good w0 O) w1 t bor) t.size ys css bss) (hfc : ∀ w' : World, w'.heap = w.heap → (Builtin.firstCells t.size ys.length (a.eval x)).run P w' = .ok css.flatten.toArray w') (hlen : ∀ w', (Builtin.lenOf (a.eval x)).run P w' = .ok ys.length w')
    (l3 : css.flatten.length = ys.length * t.size) (hone : ∀ v ∈ css.flatten, v.oneCell' = true) (hc : ys.length * by' ≤ 140737488355328) (e1 : a.eval s = .slice none 0 0) :
    ∃ v w' V' own', (Builtin.append_ #[T, T2] ty #[a.eval s, a.eval x]).run P w = .ok v w' ∧ RelN n w0 O w w' a E L (L ++ [some ⟨t, ys, false⟩]) V V' own own' ∧ RepP w0 (Good w0 O) (L ++ [some ⟨t, ys, false⟩]) V' (.a (.osl L.length none)) v := by
  have hml : 0 + ys.length ≤ maxLen := by
    have : ys.length ≤ ys.length * by' := Nat.le_mul_of_pos_right _ hby1
    have := hc
    unfold maxLen; omega
  obtain ⟨v', w', hrun, hcase⟩ := append_run (P := P) (w := w) (T := T) (T2 := T2) (ty := ty) (adr := none) (len := 0) (cap := 0) (olds := []) hu hd1 hd2 hi he hsz hfc hlen (fun w' _ => rfl) (by simp) l3 hone (by rw [hbi, Nat.zero_add]; exact hc) hml (.inl ⟨rfl, rfl⟩)
  rw [e1]
  rcases hcase with ⟨_, hcase⟩ | ⟨hlt, nc, rest, rfl, hnc1, hnc2, rfl, hlr⟩
  · rcases hcase with ⟨_, rfl, rfl, hm, _⟩ | ⟨b, o, _, _, _, _, hh, _⟩
    · have hys : ys = [] := List.eq_nil_of_length_eq_zero hm
      subst hys
      have hent : EntC w0 (Good w0 O) w' ⟨t, [], false⟩ (.slice none 0 0) [] := ⟨by simp, .inl ⟨rfl, rfl, rfl⟩⟩
      exact ⟨_, _, _, _, hrun, hR.freshN (Kept.refl _ _) hent (by simp) (by simp), repA_new (w0 := w0) (G := Good w0 O) (u := w0) (G' := Good w0 O) hent⟩
    · cases hh
  · simp only [List.nil_append, Nat.zero_add] at hrun hnc1 hlr hlt
    have hent := ent_row (w := w.drew) (ty := e) (cap := nc) (hrow _ false) hb0 hnc1 hnc2 (by rw [hlr]; exact Nat.le_refl _)
    exact ⟨_, _, _, _, hrun, hR.freshN ((Kept.refl [] w).drew.alloc _) hent (by simp) (by rw [drew_size]; simp), repA_new (w0 := w0) (G := Good w0 O) (u := w0) (G' := Good w0 O) hent⟩

set_option maxHeartbeats 800000 in
theorem append_osl {tab : List TI} (hT : TabOk P tab) (hR : RelV n w0 O w a E L V own) {T T2 ty e : TypeId} {i : TypeInfo} {d : TypeDesc} {by' : Nat} {s x : Operand} {r : Nat} {rg : Option (Nat × Nat)} {A : Arr} {ys : List A.t.den} {css : List (List Value)} {bss : List (List Nat)}
    (hu : P.underlying T = some (.slice e)) (hd1 : P.underlying T2 = some d) (hd2 : ∀ k, d ≠ .int k) (hi : P.info? e = some i) (hbi : i.bytes = by') (he : TyOk P e A.t) (hf : A.t.flat = true) (hsz : 1 ≤ A.t.size) (hby1 : 1 ≤ by') (hb0 : bss.flatten = [])
    (hrow : ∀ w1 bor, Row (entR w0 (Good w0 O) w1 A.t bor) A.t.size ys css bss) (hfc : ∀ w' : World, w'.heap = w.heap → (Builtin.firstCells A.t.size ys.length (a.eval x)).run P w' = .ok css.flatten.toArray w') (hlen : ∀ w', (Builtin.lenOf (a.eval x)).run P w' = .ok ys.length w')
    (l3 : css.flatten.length = ys.length * A.t.size) (hone : ∀ v ∈ css.flatten, v.oneCell' = true) (hA : hget L r = some A) (hs : opnd E s = .a (.osl r rg)) (hc : ((rgL rg A.xs).length + ys.length) * by' ≤ 140737488355328 ∧ True) :
    ∃ v w' V' own', (Builtin.append_ #[T, T2] ty #[a.eval s, a.eval x]).run P w = .ok v w' ∧ RelV n w0 O w' a (killE r E) (hset L r (some ⟨A.t, rgL rg A.xs ++ castL rfl ys, A.bor⟩)) V' own' ∧ RepP w0 (Good w0 O) (hset L r (some ⟨A.t, rgL rg A.xs ++ castL rfl ys, A.bor⟩)) V' (.a (.osl r none)) v := by
  obtain ⟨A', hA', hve, hs1, hs2, hs3⟩ := hR.atom hs
  rw [hA] at hA'; cases hA'
  have hent := hR.heap r A hA
  obtain ⟨ocss, obss, horow, hocase⟩ := OwnSl.row hent
  -- the base's own elements
  have hbrow : ∀ w1, ∃ ob, Row (entR w0 (Good w0 O) w1 A.t A.bor) A.t.size (rgL rg A.xs) (rgL rg ocss) ob ∧ ob.flatten = [] := by
    intro w1
    obtain ⟨ob, h1, h2⟩ := horow.nil (R' := entR w0 (Good w0 O) w1 A.t A.bor) (fun y c b hh => entR_flat hf hh)
    cases rg with
    | none => exact ⟨ob, h1, h2⟩
    | some q =>
      obtain ⟨lo, hi⟩ := q
      refine ⟨(ob.take hi).drop lo, (h1.take hi).drop lo, ?_⟩
      rw [List.flatten_eq_nil_iff] at h2 ⊢
      exact fun l hl => h2 l (List.mem_of_mem_take (List.mem_of_mem_drop hl))
  obtain ⟨ob, hbrow1, hbflat⟩ := hbrow w
  obtain ⟨m1, m2, m3⟩ := hbrow1.len
  have hlenrg : (rgL rg A.xs).length = rgHi A.xs.length rg - rgLo rg := by
    cases rg with
    | none => simp [rgL, rgHi, rgLo]
    | some q =>
      obtain ⟨lo, hi⟩ := q
      simp only [rgL, rgHi, rgLo, List.length_drop, List.length_take] at hs2 ⊢
      omega
  have hml : (rgL rg A.xs).length + ys.length ≤ maxLen := by
    have : (rgL rg A.xs).length + ys.length ≤ ((rgL rg A.xs).length + ys.length) * by' := Nat.le_mul_of_pos_right _ hby1
    have := hc.1
    unfold maxLen; omega
  have hcast : ∀ (w1 : World), ∃ nb, Row (entR w0 (Good w0 O) w1 A.t A.bor) A.t.size (rgL rg A.xs ++ castL rfl ys) (rgL rg ocss ++ css) nb ∧ nb.flatten = [] := by
    intro w1
    obtain ⟨ob, h1, h2⟩ := hbrow w1
    exact ⟨ob ++ bss, h1.append (hrow w1 A.bor), by simp [h2, hb0]⟩
  have hbnot : ∀ s C, hget L s = some C → s ≠ r → ∀ b ∈ own s, b ∉ own r := fun s C hs' hsr => hR.apart s r C A hs' hA hsr
  have hbg := hR.good r A hA
  rcases hs3 with ⟨hV, hv, hz⟩ | ⟨b0, off0, m0, cap0, o, c, hV, hv, hle, hcase⟩
  · -- nothing there
    have e0 : rgHi A.xs.length rg - rgLo rg = 0 := by omega
    have eo : rgL rg A.xs = [] := List.eq_nil_of_length_eq_zero (by omega)
    obtain ⟨v', w', hrun, hcase⟩ := append_run (P := P) (w := w) (T := T) (T2 := T2) (ty := ty) (adr := none) (len := 0) (cap := 0) (olds := []) hu hd1 hd2 hi he hsz hfc hlen (fun w' _ => rfl) (by simp) l3 hone
      (by rw [hbi]; have := hc.1; rw [eo] at this; simpa using this) (by rw [eo] at hml; simpa using hml) (.inl ⟨rfl, rfl⟩)
    rw [hv]
    simp only [eo, List.nil_append] at *
    rcases hcase with ⟨_, hcase⟩ | ⟨hlt, nc, rest, rfl, hnc1, hnc2, rfl, hlr⟩
    · rcases hcase with ⟨_, rfl, rfl, hm, _⟩ | ⟨b, o, _, _, _, _, hh, _⟩
      · have hys : ys = [] := List.eq_nil_of_length_eq_zero hm
        subst hys
        have hent' : EntC w0 (Good w0 O) w' ⟨A.t, castL rfl [], A.bor⟩ (.slice none 0 0) [] := ⟨by simp [castL], .inl ⟨rfl, rfl, rfl⟩⟩
        exact ⟨_, _, _, _, hrun, hR.replace hR.kept hA (fun _ _ _ _ _ _ => rfl) hent' (by simp) (by simp) (by simp), rep_whole (w0 := w0) (G := Good w0 O) (hget_hset_same hA) (upd1_same _ _ _) hent'⟩
      · cases hh
    · simp only [List.nil_append, Nat.zero_add] at hrun hnc1 hlr hlt
      have hent' := ent_row (w := w.drew) (ty := e) (cap := nc) (hrow _ A.bor) hb0 hnc1 hnc2 (by rw [hlr]; exact Nat.le_refl _)
      refine ⟨_, _, _, _, hrun, hR.replace (hR.kept.drew.alloc _) hA (fun s C hs' _ b hb => ?_) hent' (by simp) (by rw [drew_size]; intro b hb hg; simp at hb; subst hb; have := hg.1; have := hR.kept.size; omega) (fun s C hs' _ b hb => ?_), rep_whole (w0 := w0) (G := Good w0 O) (hget_hset_same hA) (upd1_same _ _ _) hent'⟩
      · exact Go.RowKit.Below.heap_alloc _ _ _ (hR.own_lt hs' b hb)
      · have := hR.own_lt hs' b hb
        rw [drew_size]; simp; omega
  · rcases hocase with ⟨h1, _, _⟩ | ⟨b1, off1, cap1, cur, ct, fz, h1, h2, h3, h4, h5, h6, h7, h8⟩
    · rw [h1] at hV; cases hV
    · rw [h1] at hV
      cases hV
      have hoc : o + c * A.t.size ≤ cur.size := by
        rcases hcase with ⟨ho, hcap⟩ | ⟨hc0, ho⟩
        · have : (rgLo rg + c) * A.t.size ≤ cap0 * A.t.size := Nat.mul_le_mul_right _ hcap
          rw [Nat.add_mul] at this
          omega
        · rw [hc0, Nat.zero_mul]; omega
      have hold : ∀ j v, (rgL rg ocss).flatten[j]? = some v → cur[o + j]? = some v := by
        intro j v hj
        have hjl : j < (rgL rg A.xs).length * A.t.size := by rw [← m3]; exact (List.getElem?_eq_some_iff.1 hj).1
        have hne : c ≠ 0 := by
          intro hc0
          rw [hlenrg] at hjl
          have : rgHi A.xs.length rg - rgLo rg = 0 := by omega
          rw [this, Nat.zero_mul] at hjl; omega
        obtain ⟨ho, hcap⟩ := hcase.resolve_right (fun h => hne h.1)
        cases rg with
        | none =>
          have := h8 j v hj
          rw [ho]; simpa [rgLo] using this
        | some q =>
          obtain ⟨lo, hi'⟩ := q
          have hl := horow.lens
          have hpre : (ocss.take lo).flatten.length = lo * A.t.size := by
            have := (horow.take lo).len.2.2
            rw [this, List.length_take]
            congr 1
            simp only [rgLo, rgHi] at hs1 hs2
            omega
          have hfl : ocss.flatten[lo * A.t.size + j]? = some v := by
            have hsplit : ocss = (ocss.take lo ++ (ocss.take hi').drop lo) ++ ocss.drop hi' := by
              have e1 : ocss.take lo = (ocss.take hi').take lo := by
                rw [List.take_take]; congr 1; simp only [rgLo, rgHi] at hs1; omega
              rw [e1, List.take_append_drop, List.take_append_drop]
            rw [hsplit, List.flatten_append, List.flatten_append, List.append_assoc, List.getElem?_append_right (by omega), hpre, Nat.add_sub_cancel_left]
            have hj' : ((ocss.take hi').drop lo).flatten[j]? = some v := hj
            rw [List.getElem?_append_left (List.getElem?_eq_some_iff.1 hj').1]
            exact hj'
          have := h8 _ v hfl
          rw [ho]
          simp only [rgLo]
          rwa [← Nat.add_assoc] at this
      have hblt : b0 < w.heap.size := hR.own_lt hA b0 (by rw [h7]; exact List.mem_cons_self ..)
      have hbown : b0 ∈ own r := by rw [h7]; exact List.mem_cons_self ..
      have hcells : ∀ w' : World, w'.heap = w.heap → CellsAt w' b0 o (rgL rg ocss).flatten := fun w' hw' j v hj => by
        simp only [World.cell?, hw', h5]
        exact hold j v hj
      obtain ⟨v', w', hrun, hcase'⟩ := append_run (P := P) (w := w) (T := T) (T2 := T2) (ty := ty) (adr := some ⟨b0, o, none⟩) (len := (rgL rg A.xs).length) (cap := c) (olds := (rgL rg ocss).flatten) hu hd1 hd2 hi he hsz hfc hlen
        (fun w' hw' => run_firstCells_slice m3 (hcells w' hw')) m3 l3 hone (by rw [hbi]; exact hc.1) hml (.inr ⟨b0, o, cur, ct, fz, rfl, h5, h6, hoc⟩)
      rw [hv, ← hlenrg]
      rcases hcase' with ⟨hroom, hcase'⟩ | ⟨hlt, nc, rest, rfl, hnc1, hnc2, rfl, hlr⟩
      · rcases hcase' with ⟨hh, _⟩ | ⟨b2, o2, cur2, ct2, fz2, cur', hh, g1, g2, g3, rfl, g4, g5, g6⟩
        · cases hh
        · cases hh
          rw [h5] at g1
          cases g1
          replace g5 : cur'.toList = splice cur.toList (o + (rgL rg A.xs).length * A.t.size) css.flatten := g5
          obtain ⟨nb, hnrow, hnflat⟩ := hcast w'
          have hnl : (rgL rg ocss).flatten.length + css.flatten.length ≤ c * A.t.size := by
            rw [m3, l3, ← Nat.add_mul]; exact Nat.mul_le_mul_right _ hroom
          have hcs : cur'.size = cur.size := by
            have hsl := splice_length (cs := cur.toList) (c := css.flatten) (o := o + (rgL rg A.xs).length * A.t.size) (by have hcl : cur.toList.length = cur.size := Array.length_toList; omega)
            have := congrArg List.length g5
            rw [hsl] at this
            simpa using this
          have hget' : ∀ j v, (rgL rg ocss ++ css).flatten[j]? = some v → cur'[o + j]? = some v := by
            intro j v hj
            rw [← Array.getElem?_toList, g5, splice]
            rw [List.flatten_append] at hj
            by_cases hjl : j < (rgL rg ocss).flatten.length
            · rw [List.getElem?_append_left hjl] at hj
              rw [List.append_assoc, List.getElem?_append_left (by simp only [List.length_take, Array.length_toList]; omega), List.getElem?_take, if_pos (by omega), Array.getElem?_toList]
              exact hold j v hj
            · rw [List.getElem?_append_right (by omega)] at hj
              have hj2 := (List.getElem?_eq_some_iff.1 hj).1
              rw [List.append_assoc, List.getElem?_append_right (by simp only [List.length_take, Array.length_toList]; omega)]
              have e9 : o + j - (cur.toList.take (o + (rgL rg A.xs).length * A.t.size)).length = j - (rgL rg ocss).flatten.length := by
                simp only [List.length_take, Array.length_toList]; omega
              rw [e9, List.getElem?_append_left hj2]
              exact hj
          have hnlen : (rgL rg A.xs ++ castL rfl ys).length = (rgL rg A.xs).length + ys.length := by rw [List.length_append]; rfl
          have hent' := ownSl_of_row hnrow (b := b0) (off := o) (cap := c) (cur := cur') (ty := ct) (fz := fz) (by rw [hnlen]; exact hml) (by rw [hnlen]; exact hroom) (by
            rcases hcase with ⟨ho, hcap⟩ | ⟨hc0, ho⟩
            · omega
            · omega) (by rw [hcs]; exact hoc) g4 (by rw [hcs]; exact h6) hget'
          rw [hnflat, hnlen] at hent'
          have hent'' : EntC w0 (Good w0 O) w' ⟨A.t, rgL rg A.xs ++ castL rfl ys, A.bor⟩ (.slice (some ⟨b0, o, none⟩) ((rgL rg A.xs).length + ys.length) c) [b0] := hent'
          refine ⟨_, _, _, _, hrun, hR.replace ?_ hA (fun s C hs' hsr b hb => g6.block b (hR.own_lt hs' b hb) ?_) hent'' (by simp) (by simp; exact hbg b0 hbown) (fun s C hs' hsr b hb => ?_), rep_whole (w0 := w0) (G := Good w0 O) (hget_hset_same hA) (upd1_same _ _ _) hent''⟩
          · refine ⟨g6.os.trans hR.kept.os, g6.tape.trans hR.kept.tape, g6.output.trans hR.kept.output, Nat.le_trans hR.kept.size g6.size, fun k hk hkO => ?_⟩
            rw [g6.block k (Nat.lt_of_lt_of_le hk hR.kept.size) (by simp; exact fun e => hbg b0 hbown (e ▸ ⟨hk, hkO⟩))]
            exact hR.kept.block k hk hkO
          · simp; exact fun e => hbnot s C hs' hsr b hb (e ▸ hbown)
          · simp; exact fun e => hbnot s C hs' hsr b hb (e ▸ hbown)
      · obtain ⟨nb, hnrow, hnflat⟩ := hcast (w.drew.alloc (.cells ((rgL rg ocss ++ css).flatten ++ rest).toArray e))
        rw [← List.flatten_append] at hrun hlr
        have hnlen : (rgL rg A.xs ++ castL rfl ys).length = (rgL rg A.xs).length + ys.length := by rw [List.length_append]; rfl
        have hent' := ent_row (w := w.drew) (ty := e) (cap := nc) hnrow hnflat (by rw [hnlen]; exact hnc1) hnc2 (by rw [hlr]; exact Nat.le_refl _)
        rw [hnlen] at hent'
        refine ⟨_, _, _, _, hrun, hR.replace (hR.kept.drew.alloc _) hA (fun s C hs' _ b hb => ?_) hent' (by simp) (by rw [drew_size]; intro b hb hg; simp at hb; subst hb; have := hg.1; have := hR.kept.size; omega) (fun s C hs' _ b hb => ?_), rep_whole (w0 := w0) (G := Good w0 O) (hget_hset_same hA) (upd1_same _ _ _) hent'⟩
        · exact Go.RowKit.Below.heap_alloc _ _ _ (hR.own_lt hs' b hb)
        · have := hR.own_lt hs' b hb
          rw [drew_size]; simp; omega

theorem append_spec {tab : List TI} (hT : TabOk P tab) (hR : RelV n w0 O w a E L V own) {T T2 ty : TypeId} {s x : Operand} {cs : List Prop} {pv : PV} {E' : Env} {L' : Heap} (h : appA tab E L T T2 (opnd E s) (opnd E x) = some (cs, pv, E', L')) (hc : All cs) :
    ∃ v w' V' own', (Builtin.append_ #[T, T2] ty #[a.eval s, a.eval x]).run P w = .ok v w' ∧ RelV n w0 O w' a E' L' V' own' ∧ RepP w0 (Good w0 O) L' V' pv v := by
  unfold appA at h
  split at h
  · rename_i S X hs hx
    split at h
    · rename_i e t by' ht
      split at h
      · rename_i ys hck hsrc
        simp only [Bool.and_eq_true, Nat.ble_eq] at hck
        obtain ⟨⟨hsz, hf⟩, hby1⟩ := hck
        have hS := hT T; rw [ht] at hS
        obtain ⟨_, hu, he, hby⟩ := hS
        obtain ⟨i, hi, hbi⟩ : ∃ i, P.info? e = some i ∧ i.bytes = by' := by
          cases hi : P.info? e with
          | none => rw [hi] at hby; cases hby
          | some i => rw [hi] at hby; simp at hby; exact ⟨i, rfl, hby⟩
        obtain ⟨d, css, bss, hd1, hd2, hb0, hrow, hfc, hlen⟩ := srcA_spec hT hR hf hx hsrc
        obtain ⟨l1, l2, l3⟩ := (hrow w false).len
        have hone := (hrow w false).one (fun y c b h => entR_one h)
        split at h
        · cases h
          obtain ⟨e1, e2⟩ := hR.valEq hs
          obtain ⟨e3, e4⟩ := e2
          subst e3 e4
          obtain ⟨v, w', V', own', g1, g2, g3⟩ := append_nil hT hR hu hd1 hd2 hi hbi he hsz hby1 hb0 hrow hfc hlen l3 hone hc.1 e1
          exact ⟨v, w', V', own', g1, g2.1, g3⟩
        · rename_i r rg
          split at h
          · rename_i A hA
            split at h
            · rename_i hte
              subst hte
              cases h
              exact append_osl hT hR hu hd1 hd2 hi hbi he hf hsz hby1 hb0 hrow hfc hlen l3 hone hA hs hc
            · cases h
          · cases h
        · cases h
      · cases h
    · cases h
  · cases h
end
end Go.Am
