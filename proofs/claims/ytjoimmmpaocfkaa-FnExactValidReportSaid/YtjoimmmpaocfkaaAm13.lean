/- The abstract machine, part 13: boxes, literals of slices, make, stores. -/
import Derived.Test.YtjoimmmpaocfkaaAm12
namespace Go.Am
set_option linter.unusedVariables false
set_option linter.unusedSimpArgs false

/-! ### Zero rows -/

theorem flatten_replicate_get {α : Type} (l : List α) : ∀ (n j : Nat), (List.replicate n l).flatten[j]? = if j < n * l.length then l[j % l.length]? else none
  | 0, j => by simp
  | n + 1, j => by
    rw [List.replicate_succ, List.flatten_cons]
    by_cases h : j < l.length
    · rw [List.getElem?_append_left h, Nat.mod_eq_of_lt h, if_pos]
      rw [Nat.add_mul]; omega
    · rw [List.getElem?_append_right (by omega), flatten_replicate_get l n]
      have e : (j - l.length) % l.length = j % l.length := by
        rw [← Nat.mod_eq_sub_mod (by omega)]
      rw [e]
      have : (j - l.length < n * l.length) ↔ (j < (n + 1) * l.length) := by rw [Nat.add_mul]; omega
      by_cases hh : j - l.length < n * l.length
      · rw [if_pos hh, if_pos (this.1 hh)]
      · rw [if_neg hh, if_neg (fun h' => hh (this.2 h'))]

theorem zeros_flat (z : Array Value) (n : Nat) : ((Array.range (n * z.size)).map (z[· % z.size]!)).toList = (List.replicate n z.toList).flatten := by
  apply List.ext_getElem?
  intro j
  rw [flatten_replicate_get, Array.getElem?_toList]
  simp only [Array.getElem?_map, Array.length_toList]
  by_cases h : j < n * z.size
  · rw [if_pos h]
    have hz : 0 < z.size := by
      rcases Nat.eq_zero_or_pos z.size with h0 | h0
      · rw [h0, Nat.mul_zero] at h; omega
      · exact h0
    have hm : j % z.size < z.size := Nat.mod_lt _ hz
    simp [Array.getElem?_range, h, hm, getElem!_pos, Array.getElem?_toList]
  · rw [if_neg h]
    simp [Array.getElem?_range, h]

theorem row_replicate {w0 w : World} {G : Nat → Prop} (t : Ty) (bor : Bool) : ∀ n : Nat, Row (entR w0 G w t bor) t.size (List.replicate n t.dflt) (List.replicate n (dcells t)) (List.replicate n [])
  | 0 => ⟨rfl, rfl⟩
  | n + 1 => by
    refine ⟨dcells t, _, [], _, rfl, rfl, (dcells_rep w G t).length, ?_, row_replicate t bor n⟩
    unfold entR
    cases bor with
    | true => exact ⟨dcells_rep w0 G t, rfl⟩
    | false => exact own_dcells t
where
  own_dcells {w : World} : ∀ t : Ty, OwnC w t t.dflt (dcells t) []
  | .int k => ⟨rfl, by cases k <;> simp [InR, IntKind.min, IntKind.max, IntKind.bits, IntKind.signed, Ty.dflt], rfl⟩
  | .bool => ⟨rfl, rfl⟩
  | .str => ⟨rfl, Nat.zero_le _, rfl⟩
  | .sl e => ⟨_, rfl, Nat.zero_le _, .inl ⟨rfl, rfl, rfl⟩⟩
  | .unit => ⟨rfl, rfl⟩
  | .cons a b => ⟨_, _, [], [], rfl, rfl, own_dcells a, own_dcells b⟩

theorem Row.set {α : Type} {R : α → List Value → List Nat → Prop} {sz : Nat} {y' : α} {c' : List Value} {b' : List Nat} (h1 : c'.length = sz) (h2 : R y' c' b') : ∀ {ys : List α} {css : List (List Value)} {bss : List (List Nat)} (i : Nat), Row R sz ys css bss →
    Row R sz (ys.set i y') (css.set i c') (bss.set i b')
  | [], _, _, i, ⟨e1, e2⟩ => by subst e1 e2; exact ⟨rfl, rfl⟩
  | y :: ys, _, _, 0, ⟨c, cs, b, bs, e1, e2, e3, e4, e5⟩ => by subst e1 e2; exact ⟨c', cs, b', bs, rfl, rfl, h1, h2, e5⟩
  | y :: ys, _, _, i + 1, ⟨c, cs, b, bs, e1, e2, e3, e4, e5⟩ => by subst e1 e2; exact ⟨c, _, b, _, rfl, rfl, e3, e4, e5.set h1 h2 i⟩

theorem splice_flat {sz : Nat} {c' : List Value} (h1 : c'.length = sz) : ∀ {css : List (List Value)} {i : Nat}, (∀ c ∈ css, c.length = sz) → i < css.length → splice css.flatten (i * sz) c' = (css.set i c').flatten
  | [], i, _, h => by simp at h
  | c :: cs, 0, h, _ => by
    have := h c (List.mem_cons_self ..)
    simp [splice, h1, ← this]
  | c :: cs, i + 1, h, hi => by
    have hc := h c (List.mem_cons_self ..)
    have ih := splice_flat h1 (css := cs) (i := i) (fun d hd => h d (List.mem_cons_of_mem _ hd)) (by simpa using hi)
    simp only [splice, List.flatten_cons, List.set_cons_succ] at ih ⊢
    rw [← ih, Nat.add_mul, Nat.one_mul, Nat.add_comm (i * sz) sz]
    rw [← hc, List.take_append, List.drop_append]
    simp [List.take_of_length_le, List.drop_of_length_le, Nat.add_assoc, show c.length + (i * c.length + c'.length) - c.length = i * c.length + c'.length from by omega]

theorem Row.lens {α : Type} {R : α → List Value → List Nat → Prop} {sz : Nat} : ∀ {ys : List α} {css : List (List Value)} {bss : List (List Nat)}, Row R sz ys css bss → ∀ c ∈ css, c.length = sz
  | [], _, _, ⟨e1, e2⟩, c, hc => by subst e1; cases hc
  | y :: ys, _, _, ⟨d, cs, b, bs, e1, e2, e3, e4, e5⟩, c, hc => by
    subst e1
    rcases List.mem_cons.1 hc with rfl | hc
    · exact e3
    · exact e5.lens c hc

/-! ### The evaluator -/

def boxA (tab : List TI) (T : TypeId) : PV → Option Arr
  | .a A => match (tabGet tab T).ty with
    | some t => match decB t A with
      | some x => some ⟨t, [x], true⟩
      | none => none
    | none => none
  | _ => none

def allocA (tab : List TI) (T : TypeId) : Option Arr :=
  match (tabGet tab T).ty with
  | some t => some ⟨t, [t.dflt], t.flat⟩
  | none => none

def litA (t : Ty) : List t.den → List (Nat × PV) → Option (List t.den)
  | xs, [] => some xs
  | xs, (i, .a A) :: r => match Nat.blt i xs.length, decB t A with
    | true, some y => litA t (xs.set i y) r
    | _, _ => none
  | _, _ => none

def sliceLitA (tab : List TI) (T : TypeId) (n : Nat) (parts : List (Nat × PV)) : Option Arr :=
  match tabGet tab T with
  | .slice _ t _ => match Nat.ble (n * t.size) 16777216 && Nat.ble 1 t.size, litA t (List.replicate n t.dflt) parts with
    | true, some xs => some ⟨t, xs, !t.flat && !(Nat.beq n 0)⟩
    | _, _ => none
  | _ => none

def makeA (tab : List TI) (T : TypeId) (l c : PV) : Option (List Prop × Arr) :=
  match tabGet tab T, l, c with
  | .slice _ t by', .a (.val (.int .i64 l)), .a (.val (.int .i64 c)) => some ([0 ≤ l, l ≤ c, (by' : Int) * c ≤ 281474976710656], ⟨t, List.replicate l.toNat t.dflt, false⟩)
  | _, _, _ => none

def storeA (tab : List TI) (L : Heap) (T : TypeId) : PV → PV → Option Heap
  | .a (.optr r i p), .a B => match (tabGet tab T).ty, hget L r with
    | some t, some A => match A.bor || t.flat, decB t B with
      | true, some y => match setD A.t (A.xs.getD i A.t.dflt) p ⟨t, y⟩ with
        | some x => some (hset L r (some ⟨A.t, A.xs.set i x, A.bor⟩))
        | none => none
      | _, _ => none
    | _, _ => none
  | _, _ => none

section
variable {P : Program} {n : Nat} {w0 w : World} {O : List Nat} {a : Act} {E : Env} {L : Heap} {V : Nat → Value} {own : Nat → List Nat}

/-- An array in new memory. -/
theorem RelV.fresh (hR : RelV n w0 O w a E L V own) {w' : World} (hk : Kept [] w w') {A0 : Arr} {v : Value} {bs : List Nat} (h : EntC w0 (Good w0 O) w' A0 v bs) (hn : bs.Nodup) (hb : ∀ b ∈ bs, w.heap.size ≤ b) :
    RelV n w0 O w' a E (L ++ [some A0]) (upd1 V L.length v) (upd1 own L.length bs) :=
  (hR.ext hk).grow h hn (fun b hb' hg => by have := hb b hb'; have := hg.1; have := hR.kept.size; omega) (fun r A hA b hb' hm => by have := hb b hm; have := hR.own_lt hA b hb'; omega)

/-- New arrays, in new memory; what was there stays. -/
structure New (L : Heap) (w w' : World) (V V' : Nat → Value) (own own' : Nat → List Nat) : Prop where
  kept : Kept [] w w'
  same : ∀ r, r < L.length → V' r = V r ∧ own' r = own r
  fresh : ∀ r, L.length ≤ r → ∀ A L', hget (L ++ L') r = some A → L'.length ≤ 1 → ∀ b ∈ own' r, w.heap.size ≤ b

def RelN (n : Nat) (w0 : World) (O : List Nat) (w w' : World) (a : Act) (E : Env) (L L' : Heap) (V V' : Nat → Value) (own own' : Nat → List Nat) : Prop :=
  RelV n w0 O w' a E L' V' own' ∧ New L w w' V V' own own'

theorem RelV.freshN (hR : RelV n w0 O w a E L V own) {w' : World} (hk : Kept [] w w') {A0 : Arr} {v : Value} {bs : List Nat} (h : EntC w0 (Good w0 O) w' A0 v bs) (hn : bs.Nodup) (hb : ∀ b ∈ bs, w.heap.size ≤ b) :
    RelN n w0 O w w' a E L (L ++ [some A0]) V (upd1 V L.length v) own (upd1 own L.length bs) :=
  ⟨hR.fresh hk h hn hb, hk, fun r hr => ⟨upd1_other _ _ (by omega), upd1_other _ _ (by omega)⟩, fun r hr A L' hg hl b hb' => by
    have hlt := hget_lt hg
    rw [List.length_append] at hlt
    have : r = L.length := by omega
    subst this
    rw [upd1_same] at hb'
    exact hb b hb'⟩

theorem entR_of_decB {A : Atom} {v : Value} (hb : RepB w0 (Good w0 O) A v) {t : Ty} {x : t.den} (h : decB t A = some x) (bor : Bool) (hf : bor = false → t.flat = true) : ∃ cs, v = valOf t cs ∧ cs.length = t.size ∧ RepC w0 (Good w0 O) t x cs ∧ ∀ w, entR w0 (Good w0 O) w t bor x cs [] := by
  obtain ⟨cs, hr, hv⟩ := decB_spec hb h
  refine ⟨cs, hv, hr.length, hr, fun w => ?_⟩
  unfold entR
  cases bor with
  | true => exact ⟨hr, rfl⟩
  | false => exact hr.own (hf rfl)

theorem heap_new (w : World) (o : Obj) : (w.alloc o).heap[w.heap.size]? = some o := heap_alloc_new w o

theorem free_zero (n : Nat) : Free (0, 0) n := fun j _ h => by omega

/-- One cell-row made anew, that holds one element. -/
theorem ent_one {w : World} {t : Ty} {bor : Bool} {x : t.den} {cs : List Value} (h : ∀ w, entR w0 (Good w0 O) w t bor x cs []) (hl : cs.length = t.size) (ty : TypeId) :
    EntC w0 (Good w0 O) (w.alloc (.cells cs.toArray ty)) ⟨t, [x], bor⟩ (.slice (some ⟨w.heap.size, 0, none⟩) 1 1) [w.heap.size] := by
  have hrow : Row (entR w0 (Good w0 O) (w.alloc (.cells cs.toArray ty)) t bor) t.size [x] [cs] [[]] := ⟨cs, [], [], [], rfl, rfl, hl, h _, rfl, rfl⟩
  have := ownSl_of_row hrow (b := w.heap.size) (off := 0) (cap := 1) (cur := cs.toArray) (ty := ty) (fz := (0, 0)) (by simp [maxLen]) (by simp) (by simp [maxLen]) (by simp [hl]) (heap_new _ _) (free_zero _) (by simp)
  simpa [EntC] using this

theorem rep_ptr {r : Nat} {t : Ty} {x : t.den} {bor : Bool} {b m cap : Nat} {V : Nat → Value} {L : Heap} (h : hget L r = some ⟨t, [x], bor⟩) (hV : V r = .slice (some ⟨b, 0, none⟩) m cap) : RepA w0 (Good w0 O) L V (.optr r 0 []) (.pointer (some ⟨b, 0, none⟩)) :=
  ⟨_, h, by simp, b, 0, m, cap, 0, t, hV, rfl, by simp⟩

theorem hget_new (L : Heap) (A : Arr) : hget (L ++ [some A]) L.length = some A := by
  rw [hget_append, if_neg (Nat.lt_irrefl _), Nat.sub_self]; rfl

theorem valOf_cells' {t : Ty} {cs : List Value} {x : t.den} (h : RepC w0 (Good w0 O) t x cs) : (valOf t cs).cells = cs.toArray := by
  have := congrArg List.toArray (valOf_cells h)
  simpa using this

theorem box_spec {tab : List TI} (hT : TabOk P tab) (hR : RelV n w0 O w a E L V own) {T : TypeId} {x : Operand} {A : Arr} (h : boxA tab T (opnd E x) = some A) :
    ∃ v w' V' own', (Instr.box T (a.eval x)).run P w = .ok v w' ∧ RelN n w0 O w w' a E L (L ++ [some A]) V V' own own' ∧ RepP w0 (Good w0 O) (L ++ [some A]) V' (.a (.optr L.length 0 [])) v := by
  unfold boxA at h
  split at h
  · rename_i B hB
    split at h
    · rename_i t ht
      split at h
      · rename_i y hy
        cases h
        obtain ⟨cs, hv, hl, hrep, hcs⟩ := entR_of_decB (repB_of_decB (hR.atom hB) hy) hy true (fun h => by cases h)
        refine ⟨_, _, _, _, ?_, hR.freshN ((Kept.refl [] w).alloc _) (ent_one hcs hl T) (by simp) (by simp), rep_ptr (w0 := w0) (O := O) (hget_new _ _) (upd1_same _ _ _)⟩
        rw [hv]
        simp only [Instr.box, newVar, newRow, Sem.run_bind, run_newObj, Result.andThen_ok, Sem.run_pure, valOf_cells' hrep]
        rfl
      · cases h
    · cases h
  · cases h

theorem alloc_spec {tab : List TI} (hT : TabOk P tab) (hR : RelV n w0 O w a E L V own) {T : TypeId} {A : Arr} (h : allocA tab T = some A) :
    ∃ v w' V' own', (Instr.alloc T true (.tuple #[])).run P w = .ok v w' ∧ RelN n w0 O w w' a E L (L ++ [some A]) V V' own own' ∧ RepP w0 (Good w0 O) (L ++ [some A]) V' (.a (.optr L.length 0 [])) v := by
  unfold allocA at h
  split at h
  · rename_i t ht
    cases h
    have hrow := row_replicate (w0 := w0) (w := w) (G := Good w0 O) t t.flat 1
    have hcs : ∀ w, entR w0 (Good w0 O) w t t.flat t.dflt (dcells t) [] := fun w => by
      obtain ⟨c, cs, b, bs, h1, h2, h3, h4, h5⟩ := row_replicate (w0 := w0) (w := w) (G := Good w0 O) t t.flat 1
      simp only [List.replicate_one, List.cons.injEq] at h1 h2
      rw [← h1.1, ← h2.1] at h4
      exact h4
    refine ⟨_, _, _, _, ?_, hR.freshN ((Kept.refl [] w).alloc _) (ent_one hcs (dcells_rep w0 (Good w0 O) t).length T) (by simp) (by simp), rep_ptr (w0 := w0) (O := O) (hget_new _ _) (upd1_same _ _ _)⟩
    simp only [Instr.alloc, newVar, newRow, Sem.run_bind, run_newObj, Result.andThen_ok, Sem.run_pure, (TI.ty_ok (hT T) ht).zero_run, valOf_cells' (dcells_rep w0 (Good w0 O) t)]
    rfl
  · cases h

theorem lit_fill {t : Ty} {bor : Bool} (hbor : bor = false → t.flat = true) : ∀ {parts : List (Nat × PV)} {vs : List (Nat × Value)} {xs xs' : List t.den} {css : List (List Value)} {bss : List (List Nat)},
    litA t xs parts = some xs' → PartsRep w0 (Good w0 O) parts vs → (∀ w, Row (entR w0 (Good w0 O) w t bor) t.size xs css bss) → bss.flatten = [] →
    ∃ css' bss', Instr.fill (fun i => some (i * t.size, t.size)) css.flatten.toArray vs = some css'.flatten.toArray ∧ (∀ w, Row (entR w0 (Good w0 O) w t bor) t.size xs' css' bss') ∧ bss'.flatten = [] ∧ xs'.length = xs.length
  | [], vs, xs, xs', css, bss, h, hv, hr, hb => by
    cases hv; cases h
    exact ⟨css, bss, rfl, hr, hb, rfl⟩
  | (i, .a A) :: r, vs, xs, xs', css, bss, h, hv, hr, hb => by
    obtain ⟨v, s, rfl, h1, h2⟩ := hv
    simp only [litA] at h
    split at h
    · rename_i y hlt hy
      have hlt : i < xs.length := by simpa using hlt
      obtain ⟨cs, hv, hl, hrep, hcs⟩ := entR_of_decB (h1 A rfl _ _ hy) hy bor hbor
      obtain ⟨e1, e2, e3⟩ := (hr w0).len
      have hset : ∀ w, Row (entR w0 (Good w0 O) w t bor) t.size (xs.set i y) (css.set i cs) (bss.set i []) := fun w => (hr w).set hl (hcs w) i
      have hbn : (bss.set i []).flatten = [] := by
        rw [List.flatten_eq_nil_iff] at hb ⊢
        intro l hl'
        rcases List.mem_or_eq_of_mem_set hl' with h | h
        · exact hb l h
        · exact h
      obtain ⟨css', bss', e4, e5, e6, e7⟩ := lit_fill hbor h h2 hset hbn
      refine ⟨css', bss', ?_, e5, e6, by rw [e7]; simp⟩
      rw [fill_step _ css.flatten i (i * t.size) v cs t.size s rfl (by rw [hv]; exact valOf_cells hrep) hl (by rw [e3]; have := Nat.mul_le_mul_right t.size hlt; rw [Nat.succ_mul] at this; exact this),
        splice_flat hl (hr w0).lens (by rw [e1]; exact hlt)]
      exact e4
    · cases h
  | (_, .tup _) :: _, _, _, _, _, _, h, _, _, _ => by cases h
  | (_, .fn _ _) :: _, _, _, _, _, _, h, _, _, _ => by cases h

/-- A row made anew. -/
theorem ent_row {w : World} {t : Ty} {bor : Bool} {xs : List t.den} {css : List (List Value)} {bss : List (List Nat)} {rest : List Value} {cap : Nat} {ty : TypeId} (hr : Row (entR w0 (Good w0 O) (w.alloc (.cells (css.flatten ++ rest).toArray ty)) t bor) t.size xs css bss) (hb : bss.flatten = [])
    (hl : xs.length ≤ cap) (hm : cap ≤ maxLen) (hc : cap * t.size ≤ (css.flatten ++ rest).length) :
    EntC w0 (Good w0 O) (w.alloc (.cells (css.flatten ++ rest).toArray ty)) ⟨t, xs, bor⟩ (.slice (some ⟨w.heap.size, 0, none⟩) xs.length cap) [w.heap.size] := by
  have := ownSl_of_row hr (b := w.heap.size) (off := 0) (cap := cap) (cur := (css.flatten ++ rest).toArray) (ty := ty) (fz := (0, 0)) (by omega) hl hm (by rw [Nat.zero_add]; simpa using hc) (heap_new _ _) (free_zero _) (fun j c hj => by
    rw [Nat.zero_add, List.getElem?_toArray, List.getElem?_append_left (List.getElem?_eq_some_iff.1 hj).1]; exact hj)
  rw [hb] at this
  exact this

theorem dcells_cells (t : Ty) : (valOf t (dcells t)).cells = (dcells t).toArray := valOf_cells' (w0 := default) (O := []) (dcells_rep default (Good default []) t)

theorem zeros_list (t : Ty) (k : Nat) (z : Array Value) (hz : k * t.size ≠ 0 → z = (dcells t).toArray) : ((Array.range (k * t.size)).map (z[· % z.size]!)) = (List.replicate k (dcells t)).flatten.toArray := by
  have hl : (dcells t).length = t.size := (dcells_rep default (Good default []) t).length
  by_cases h : k * t.size = 0
  · rw [h]
    have : (List.replicate k (dcells t)).flatten = [] := by
      apply List.eq_nil_of_length_eq_zero
      simp [hl, h]
    rw [this]
    simp
  · have := hz h
    subst this
    have hs : (dcells t).toArray.size = t.size := by simp [hl]
    have e := zeros_flat (dcells t).toArray k
    rw [hs] at e ⊢
    exact Array.toList_inj.1 e

theorem sliceLit_spec {tab : List TI} (hT : TabOk P tab) (hR : RelV n w0 O w a E L V own) {T : TypeId} {k : Nat} {parts : Array (Nat × Operand)} {A : Arr} (h : sliceLitA tab T k (parts.toList.map fun p => (p.1, opnd E p.2)) = some A) :
    ∃ v w' V' own', (Instr.buildSlice T k (parts.map fun p => (p.1, a.eval p.2))).run P w = .ok v w' ∧ RelN n w0 O w w' a E L (L ++ [some A]) V V' own own' ∧ RepP w0 (Good w0 O) (L ++ [some A]) V' (.a (.osl L.length none)) v := by
  unfold sliceLitA at h
  split at h
  · rename_i e t by' ht
    split at h
    · rename_i xs hle hlit
      cases h
      have hS := hT T; rw [ht] at hS
      obtain ⟨_, hu, he, _⟩ := hS
      simp only [Bool.and_eq_true, Nat.ble_eq] at hle
      obtain ⟨hle, hsz⟩ := hle
      have hkm : k ≤ maxLen := by have := Nat.le_mul_of_pos_right k hsz; unfold maxLen; omega
      have hb0 : (List.replicate k ([] : List Nat)).flatten = [] := by simp
      have hbor : (!t.flat && !(Nat.beq k 0)) = false → t.flat = true ∨ k = 0 := by
        intro hh
        cases hf : t.flat with
        | true => exact .inl rfl
        | false => rw [hf] at hh; simp at hh; exact .inr hh
      have hfill : ∃ css' bss', Instr.fill (fun i => some (i * t.size, t.size)) (List.replicate k (dcells t)).flatten.toArray (parts.toList.map fun p => (p.1, a.eval p.2)) = some css'.flatten.toArray ∧ (∀ w, Row (entR w0 (Good w0 O) w t (!t.flat && !(Nat.beq k 0))) t.size xs css' bss') ∧ bss'.flatten = [] ∧ xs.length = k := by
        by_cases hk : k = 0
        · subst hk
          have : parts.toList = [] := by
            cases hp : parts.toList with
            | nil => rfl
            | cons q r =>
              exfalso
              rw [hp] at hlit
              simp only [List.map_cons, List.replicate_zero] at hlit
              cases hq : opnd E q.2 with
              | a A => rw [hq] at hlit; simp [litA, Nat.blt] at hlit
              | tup _ => rw [hq] at hlit; cases hlit
              | fn _ _ => rw [hq] at hlit; cases hlit
          rw [this] at hlit ⊢
          cases hlit
          exact ⟨[], [], rfl, fun w => ⟨rfl, rfl⟩, rfl, rfl⟩
        · obtain ⟨css', bss', e1, e2, e3, e4⟩ := lit_fill (bor := !t.flat && !(Nat.beq k 0)) (fun hh => (hbor hh).resolve_right hk) hlit (partsRep hR parts.toList) (fun w => row_replicate t _ k) hb0
          exact ⟨css', bss', e1, e2, e3, by rw [e4]; simp⟩
      obtain ⟨css, bss, hf, hrow, hbn, hlen⟩ := hfill
      obtain ⟨l1, l2, l3⟩ := (hrow w).len
      have hent := ent_row (w := w) (ty := e) (rest := []) (cap := k) (hrow _) hbn (by omega) hkm (by simp [l3, hlen])
      rw [List.append_nil] at hent
      refine ⟨_, _, _, _, ?_, hR.freshN ((Kept.refl [] w).alloc _) hent (by simp) (by simp), repA_new (w0 := w0) (G := Good w0 O) (u := w0) (G' := Good w0 O) hent⟩
      have e1 : (parts.map fun p => (p.1, a.eval p.2)).toList = parts.toList.map fun p => (p.1, a.eval p.2) := by simp
      unfold Instr.buildSlice
      simp only [Sem.run_bind, run_underlying hu, Result.andThen_ok, he.size_run]
      rw [if_neg (by omega)]
      by_cases h0 : k * t.size = 0
      · have hz := zeros_list t k #[] (fun h => absurd h0 h)
        rw [if_pos h0]
        simp only [Sem.run_bind, Sem.run_pure, Result.andThen_ok, hz, e1, hf, newRow, run_newObj, hlen]
        rfl
      · have hz := zeros_list t k (dcells t).toArray (fun _ => rfl)
        rw [if_neg h0]
        simp only [Sem.run_bind, Sem.run_pure, Result.andThen_ok, he.zero_run, dcells_cells, hz, e1, hf, newRow, run_newObj, hlen]
        rfl
    · cases h
  · cases h
end
end Go.Am
