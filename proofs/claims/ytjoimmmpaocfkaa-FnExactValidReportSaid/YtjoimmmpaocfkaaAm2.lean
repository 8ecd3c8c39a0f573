/- The abstract machine, part 2: abstract values, the tables of types, contracts, and the relation to the model's state. -/
import Derived.Test.YtjoimmmpaocfkaaAm1
namespace Go.Am
set_option linter.unusedVariables false

structure Dyn where
  t : Ty
  x : t.den

inductive Atom where
  | val (v : Value)
  | sl (t : Ty) (xs : List t.den)
  | ptr (t : Ty) (x : t.den)
  | st (t : Ty) (x : t.den)
  | osl (r : Nat) (rg : Option (Nat × Nat))
  | optr (r i : Nat) (p : List Nat)
  | junk

inductive PV where
  | a (x : Atom)
  | tup (xs : List Atom)
  | fn (f : FuncId) (caps : List Atom)

/-- An owned array. 'bor': the slices inside are borrowed, not owned. -/
structure Arr where
  t : Ty
  xs : List t.den
  bor : Bool := false

/-- A list with its type. -/
structure Lst where
  t : Ty
  xs : List t.den

abbrev Env := List (Nat × PV)
abbrev Heap := List (Option Arr)

def Env.get : Env → Nat → PV
  | [], _ => .a .junk
  | (j, p) :: r, i => cond (Nat.beq j i) p (Env.get r i)

def Env.set (E : Env) (i : Nat) (p : PV) : Env := (i, p) :: E.filter fun q => !(Nat.beq q.1 i)

def hget : Heap → Nat → Option Arr
  | [], _ => none
  | a :: _, 0 => a
  | _ :: l, n + 1 => hget l n

def hset : Heap → Nat → Option Arr → Heap
  | [], _, _ => []
  | _ :: l, 0, a => a :: l
  | b :: l, n + 1, a => b :: hset l n a

theorem nbeq_false {i j : Nat} (h : ¬ i = j) : Nat.beq i j = false := Bool.eq_false_iff.2 fun hb => h (Nat.eq_of_beq_eq_true hb)

theorem Env.get_set (E : Env) (i j : Nat) (p : PV) : (E.set i p).get j = if i = j then p else E.get j := by
  unfold Env.set
  simp only [Env.get]
  by_cases h : i = j
  · subst h; simp
  · rw [if_neg h]
    have hb : Nat.beq i j = false := nbeq_false h
    rw [hb, cond_false]
    induction E with
    | nil => rfl
    | cons q r ih =>
      obtain ⟨k, u⟩ := q
      by_cases hk : k = i
      · subst hk
        have : Nat.beq k k = true := by simp
        simp only [List.filter_cons, this, Bool.not_true, Bool.false_eq_true, if_false, Env.get, hb, cond_false]
        exact ih
      · have : Nat.beq k i = false := nbeq_false hk
        simp only [List.filter_cons, this, Bool.not_false, if_true, Env.get]
        rw [ih]

theorem hget_hset (L : Heap) (r s : Nat) (a : Option Arr) : hget (hset L r a) s = if r = s ∧ r < L.length then a else hget L s := by
  induction L generalizing r s with
  | nil => simp [hset, hget]
  | cons b l ih =>
    cases r with
    | zero => cases s with
      | zero => simp [hset, hget]
      | succ s => simp [hset, hget]
    | succ r => cases s with
      | zero => simp [hset, hget]
      | succ s => simp only [hset, hget, ih, List.length_cons, Nat.add_lt_add_iff_right, Nat.add_right_cancel_iff]

theorem hget_lt {L : Heap} {r : Nat} {A : Arr} (h : hget L r = some A) : r < L.length := by
  induction L generalizing r with
  | nil => cases h
  | cons b l ih => cases r with
    | zero => simp
    | succ r => simp only [hget] at h; have := ih h; simp; omega

theorem hget_append (L M : Heap) (r : Nat) : hget (L ++ M) r = if r < L.length then hget L r else hget M (r - L.length) := by
  induction L generalizing r with
  | nil => simp
  | cons b l ih => cases r with
    | zero => simp [hget]
    | succ r => simp only [List.cons_append, hget, ih, List.length_cons, Nat.add_lt_add_iff_right, Nat.add_sub_add_right]

/-- The frame between two worlds: what was there stays, but for the blocks of O. -/
structure Kept (O : List Nat) (w w' : World) : Prop where
  os : w'.os = w.os
  tape : w'.tape = w.tape
  output : w'.output = w.output
  size : w.heap.size ≤ w'.heap.size
  block : ∀ k, k < w.heap.size → k ∉ O → w'.heap[k]? = w.heap[k]?

theorem Kept.refl (O : List Nat) (w : World) : Kept O w w := ⟨rfl, rfl, rfl, Nat.le_refl _, fun _ _ _ => rfl⟩
theorem Kept.trans {O : List Nat} {a b c : World} (h : Kept O a b) (k : Kept O b c) : Kept O a c :=
  ⟨k.os.trans h.os, k.tape.trans h.tape, k.output.trans h.output, Nat.le_trans h.size k.size, fun i hi ho => (k.block i (Nat.lt_of_lt_of_le hi h.size) ho).trans (h.block i hi ho)⟩
theorem Kept.mono {O O' : List Nat} {a b : World} (h : Kept O a b) (hO : ∀ k ∈ O, k ∈ O') : Kept O' a b :=
  ⟨h.os, h.tape, h.output, h.size, fun i hi ho => h.block i hi fun hk => ho (hO i hk)⟩
theorem Kept.of_nil {O : List Nat} {a b : World} (h : Kept [] a b) : Kept O a b := h.mono (fun _ h => by cases h)
theorem Kept.drew {O : List Nat} {a w : World} (h : Kept O a w) : Kept O a w.drew := ⟨h.os, h.tape, h.output, h.size, h.block⟩
theorem Kept.below {a b : World} (h : Kept [] a b) : Go.RowKit.Below a.heap.size a b := ⟨h.os, h.tape, h.output, h.size, fun k hk => h.block k hk (by simp)⟩
theorem Kept.of_below {a b : World} (h : Go.RowKit.Below a.heap.size a b) : Kept [] a b := ⟨h.os, h.tape, h.output, h.size, fun k hk _ => h.block k hk⟩
theorem Kept.alloc {O : List Nat} {a w : World} (h : Kept O a w) (o : Obj) : Kept O a (w.alloc o) :=
  h.trans ⟨rfl, rfl, rfl, by simp, fun k hk _ => Go.RowKit.Below.heap_alloc _ _ _ hk⟩

def Good (w0 : World) (O : List Nat) (b : Nat) : Prop := b < w0.heap.size ∧ b ∉ O

theorem Kept.good {O : List Nat} {w0 w : World} (h : Kept O w0 w) : ∀ b, Good w0 O b → w.heap[b]? = w0.heap[b]? := fun b hb => h.block b hb.1 hb.2

/-- What is known of a value that is its own abstraction. -/
def OkV : Value → Prop
  | .int k n => InR k n
  | .string s => s.size ≤ maxLen
  | .slice none n c => n = 0 ∧ c = 0
  | _ => True

/-! ### Fields -/

def fldD : (t : Ty) → t.den → Nat → Option Dyn
  | .cons a _, x, 0 => some ⟨a, x.1⟩
  | .cons _ b, x, n + 1 => fldD b x.2 n
  | _, _, _ => none

def pathD : List Nat → Dyn → Option Dyn
  | [], d => some d
  | f :: p, d => match fldD d.t d.x f with
    | some d' => pathD p d'
    | none => none

def fldOff : Ty → Nat → Option (Nat × Ty)
  | .cons a _, 0 => some (0, a)
  | .cons a b, n + 1 => match fldOff b n with
    | some (o, t) => some (a.size + o, t)
    | none => none
  | _, _ => none

def pathOff : List Nat → Ty → Option (Nat × Ty)
  | [], t => some (0, t)
  | f :: p, t => match fldOff t f with
    | some (o, t') => match pathOff p t' with
      | some (o', t'') => some (o + o', t'')
      | none => none
    | none => none

/-- Put a tree of the right type at a path. -/
def setD : (t : Ty) → t.den → List Nat → Dyn → Option t.den
  | t, _, [], d => if h : d.t = t then some (h ▸ d.x) else none
  | .cons a b, x, 0 :: p, d => match setD a x.1 p d with
    | some y => some (y, x.2)
    | none => none
  | .cons a b, x, (n + 1) :: p, d => match setD b x.2 (n :: p) d with
    | some y => some (x.1, y)
    | none => none
  | _, _, _, _ => none

def toAtom : (t : Ty) → t.den → Atom
  | .int k, n => .val (.int k n)
  | .bool, b => .val (.bool b)
  | .str, s => .val (.string s)
  | .sl e, xs => .sl e xs
  | .unit, x => .st .unit x
  | .cons a b, x => .st (.cons a b) x

def Dyn.atom (d : Dyn) : Atom := toAtom d.t d.x

/-! ### The relation -/

def rgLo : Option (Nat × Nat) → Nat
  | some (lo, _) => lo
  | none => 0
def rgHi (n : Nat) : Option (Nat × Nat) → Nat
  | some (_, hi) => hi
  | none => n

/-- The slice value v is the part lo .. hi of the slice value V of n elements. -/
def SubSl (sz n : Nat) (V : Value) (lo hi : Nat) (v : Value) : Prop :=
  lo ≤ hi ∧ hi ≤ n ∧ ((V = .slice none 0 0 ∧ v = .slice none 0 0 ∧ n = 0) ∨
    ∃ b off m cap o c, V = .slice (some ⟨b, off, none⟩) m cap ∧ v = .slice (some ⟨b, o, none⟩) (hi - lo) c ∧ hi - lo ≤ c ∧ ((o = off + lo * sz ∧ lo + c ≤ cap) ∨ (c = 0 ∧ o ≤ off + cap * sz)))

/-- The pointer value v points to a part of element i of the slice value V. -/
def SubPt (t : Ty) (n : Nat) (V : Value) (i : Nat) (p : List Nat) (v : Value) : Prop :=
  i < n ∧ ∃ b off m cap po t', V = .slice (some ⟨b, off, none⟩) m cap ∧ pathOff p t = some (po, t') ∧ v = .pointer (some ⟨b, off + i * t.size + po, none⟩)

/-- Cells of a block. -/
def CellsAt (w : World) (b off : Nat) (cs : List Value) : Prop := ∀ j c, cs[j]? = some c → w.cell? ⟨b, off + j, none⟩ = some c

def PtrAt (w : World) (G : Nat → Prop) (t : Ty) (x : t.den) (v : Value) : Prop :=
  ∃ b off cs, v = .pointer (some ⟨b, off, none⟩) ∧ G b ∧ CellsAt w b off cs ∧ RepC w G t x cs

/-- A borrowed atom. -/
def RepB (w : World) (G : Nat → Prop) : Atom → Value → Prop
  | .val u, v => v = u ∧ OkV u
  | .sl t xs, v => SlAt w G (RepC w G t) t.size xs v
  | .ptr t x, v => PtrAt w G t x v
  | .st t x, v => ∃ cs, v = .agg cs.toArray ∧ RepC w G t x cs
  | .junk, _ => True
  | _, _ => False

def RepA (w0 : World) (G : Nat → Prop) (L : Heap) (V : Nat → Value) : Atom → Value → Prop
  | .osl r rg, v => ∃ A, hget L r = some A ∧ (rg = none → v = V r) ∧ SubSl A.t.size A.xs.length (V r) (rgLo rg) (rgHi A.xs.length rg) v
  | .optr r i p, v => ∃ A, hget L r = some A ∧ SubPt A.t A.xs.length (V r) i p v
  | x, v => RepB w0 G x v

def RepAs (w0 : World) (G : Nat → Prop) (L : Heap) (V : Nat → Value) : List Atom → List Value → Prop
  | [], vs => vs = []
  | x :: xs, vs => ∃ v r, vs = v :: r ∧ RepA w0 G L V x v ∧ RepAs w0 G L V xs r

def RepP (w0 : World) (G : Nat → Prop) (L : Heap) (V : Nat → Value) : PV → Value → Prop
  | .a x, v => RepA w0 G L V x v
  | .tup xs, v => ∃ vs, v = .tuple vs.toArray ∧ RepAs w0 G L V xs vs
  | .fn f caps, v => ∃ vs, v = .func (.func f) #[] vs.toArray ∧ RepAs w0 G L V caps vs

def entR (w0 : World) (G : Nat → Prop) (w : World) (t : Ty) (bor : Bool) (x : t.den) (cs : List Value) (bi : List Nat) : Prop :=
  match bor with
  | true => RepC w0 G t x cs ∧ bi = []
  | false => OwnC w t x cs bi

/-- An owned array in memory. -/
def EntC (w0 : World) (G : Nat → Prop) (w : World) (A : Arr) (v : Value) (bs : List Nat) : Prop := OwnSl w (entR w0 G w A.t A.bor) A.t.size A.xs v bs

theorem EntC.keep {w0 w w' : World} {G : Nat → Prop} {A : Arr} {v : Value} {bs : List Nat} (hw : ∀ b ∈ bs, w'.heap[b]? = w.heap[b]?) (h : EntC w0 G w A v bs) : EntC w0 G w' A v bs := by
  refine OwnSl.keep (fun x cs bi hs hr => ?_) hw h
  revert hr
  unfold entR
  cases A.bor with
  | true => exact id
  | false => exact fun hr => OwnC.keep (fun b hb => hw b (hs b hb)) hr

theorem EntC.lt {w0 w : World} {G : Nat → Prop} {A : Arr} {v : Value} {bs : List Nat} (h : EntC w0 G w A v bs) : ∀ b ∈ bs, b < w.heap.size := by
  intro b hb
  rcases h.2 with ⟨_, _, h⟩ | ⟨b', off, cap, cur, ty, fz, bss, h1, h2, h3, h4, h5, h6, h7, h8, h9⟩
  · rw [h] at hb; cases hb
  · rw [h8] at hb
    rcases List.mem_cons.1 hb with rfl | hb
    · rcases Nat.lt_or_ge b w.heap.size with hlt | hge
      · exact hlt
      · rw [Array.getElem?_eq_none hge] at h5; cases h5
    · obtain ⟨bi, hm, hbi⟩ := List.mem_flatten.1 hb
      obtain ⟨i, hi⟩ := List.getElem?_of_mem hm
      have hlt : i < A.xs.length := by rw [← h7]; exact (List.getElem?_eq_some_iff.1 hi).1
      obtain ⟨cs, _, _, hr⟩ := h9 i _ bi (List.getElem?_eq_getElem hlt) hi
      unfold entR at hr
      cases hbor : A.bor with
      | true => rw [hbor] at hr; rw [hr.2] at hbi; cases hbi
      | false => rw [hbor] at hr; exact hr.lt b hbi

theorem EntC.len {w0 w : World} {G : Nat → Prop} {A : Arr} {v : Value} {bs : List Nat} (h : EntC w0 G w A v bs) : A.xs.length ≤ maxLen := h.1

theorem EntC.wf {w0 w : World} {G : Nat → Prop} {A : Arr} {v : Value} {bs : List Nat} (h : EntC w0 G w A v bs) : Wf (.sl A.t) A.xs := by
  refine ⟨h.1, fun x hx => ?_⟩
  rcases h.2 with ⟨_, h, _⟩ | ⟨b, off, cap, cur, ty, fz, bss, _, _, _, _, _, _, hl, _, hr⟩
  · rw [h] at hx; cases hx
  · obtain ⟨i, hi⟩ := List.getElem?_of_mem hx
    have hlt : i < bss.length := by rw [hl]; exact (List.getElem?_eq_some_iff.1 hi).1
    obtain ⟨cs, _, _, h⟩ := hr i x _ hi (List.getElem?_eq_getElem hlt)
    unfold entR at h
    cases hbor : A.bor with
    | true => rw [hbor] at h; exact h.1.wf
    | false => rw [hbor] at h; exact h.wf

theorem EntC.own {w0 w : World} {G : Nat → Prop} {t : Ty} {xs : List t.den} {v : Value} {bs : List Nat} : EntC w0 G w ⟨t, xs, false⟩ v bs ↔ OwnC w (.sl t) xs [v] bs :=
  ⟨fun h => ⟨v, rfl, h⟩, fun ⟨v', hv, h⟩ => by cases hv; exact h⟩

structure RelV (n : Nat) (w0 : World) (O : List Nat) (w : World) (a : Act) (E : Env) (L : Heap) (V : Nat → Value) (own : Nat → List Nat) : Prop where
  kept : Kept O w0 w
  size : a.tmps.size = n
  defers : a.defers = []
  heap : ∀ r A, hget L r = some A → EntC w0 (Good w0 O) w A (V r) (own r)
  good : ∀ r A, hget L r = some A → ∀ b ∈ own r, ¬ Good w0 O b
  nodup : ∀ r A, hget L r = some A → (own r).Nodup
  apart : ∀ r s A B, hget L r = some A → hget L s = some B → r ≠ s → ∀ b ∈ own r, b ∉ own s
  env : ∀ i, RepP w0 (Good w0 O) L V (E.get i) (a.tmps.getD i undef)

def Rel (n : Nat) (w0 : World) (O : List Nat) (w : World) (a : Act) (E : Env) (L : Heap) : Prop := ∃ V own, RelV n w0 O w a E L V own

theorem RelV.ext {n : Nat} {w0 : World} {O : List Nat} {w w' : World} {a : Act} {E : Env} {L : Heap} {V : Nat → Value} {own : Nat → List Nat}
    (h : RelV n w0 O w a E L V own) (k : Kept [] w w') : RelV n w0 O w' a E L V own where
  kept := h.kept.trans k.of_nil
  size := h.size
  defers := h.defers
  heap := fun r A hr => (h.heap r A hr).keep fun b hb => k.block b ((h.heap r A hr).lt b hb) (by simp)
  good := h.good
  nodup := h.nodup
  apart := h.apart
  env := h.env

theorem RelV.put {n : Nat} {w0 : World} {O : List Nat} {w : World} {a : Act} {E : Env} {L : Heap} {V : Nat → Value} {own : Nat → List Nat}
    (h : RelV n w0 O w a E L V own) {d : Nat} {p : PV} {v : Value} (hd : d < n) (hv : RepP w0 (Good w0 O) L V p v) : RelV n w0 O w (a.put (some d) v) (E.set d p) L V own where
  kept := h.kept
  size := by simp [Act.put, h.size]
  defers := h.defers
  heap := h.heap
  good := h.good
  nodup := h.nodup
  apart := h.apart
  env := fun i => by
    rw [Env.get_set]
    simp only [Act.put]
    by_cases hi : d = i
    · subst hi
      have hs : d < a.tmps.size := by rw [h.size]; exact hd
      simpa [Array.getD_eq_getD_getElem?, hs] using hv
    · rw [if_neg hi]
      have := h.env i
      simpa [Array.getD_eq_getD_getElem?, Array.getElem?_setIfInBounds_ne hi] using this

/-! ### Contracts -/

inductive AT where
  | v (t : Ty)
  | p (t : Ty)
  | own (t : Ty)
  | fn (f : FuncId) (caps : List (Bool × Ty))

@[reducible] def capsDen : List (Bool × Ty) → Type
  | [] => Unit
  | (_, t) :: r => t.den × capsDen r

@[reducible] def AT.den : AT → Type
  | .v t => t.den
  | .p t => t.den
  | .own t => List t.den
  | .fn _ caps => capsDen caps

@[reducible] def sigDen : List AT → Type
  | [] => Unit
  | a :: r => a.den × sigDen r

/-- A borrowed value, as a function sees it. -/
def RepV (w : World) (G : Nat → Prop) (t : Ty) (x : t.den) (v : Value) : Prop := ∃ cs, RepC w G t x cs ∧ cs.toArray = v.cells

def CapsRep (w : World) (G : Nat → Prop) : (caps : List (Bool × Ty)) → capsDen caps → List Value → Prop
  | [], _, vs => vs = []
  | (true, t) :: r, x, vs => ∃ v s, vs = v :: s ∧ PtrAt w G t x.1 v ∧ CapsRep w G r x.2 s
  | (false, t) :: r, x, vs => ∃ v s, vs = v :: s ∧ RepB w G (toAtom t x.1) v ∧ CapsRep w G r x.2 s

def ArgRep (w : World) (G : Nat → Prop) : (a : AT) → a.den → Value → List Nat → Prop
  | .v t, x, v, bs => bs = [] ∧ RepB w G (toAtom t x) v
  | .p t, x, v, bs => bs = [] ∧ PtrAt w G t x v
  | .own t, xs, v, bs => OwnC w (.sl t) xs [v] bs
  | .fn f caps, x, v, bs => bs = [] ∧ ∃ vs, v = .func (.func f) #[] vs.toArray ∧ CapsRep w G caps x vs

def ArgsRep (w : World) (G : Nat → Prop) : (sig : List AT) → sigDen sig → List Value → List (List Nat) → Prop
  | [], _, vs, bss => vs = [] ∧ bss = []
  | a :: r, x, vs, bss => ∃ v s b bs, vs = v :: s ∧ bss = b :: bs ∧ ArgRep w G a x.1 v b ∧ ArgsRep w G r x.2 s bs

structure Spec where
  sig : List AT
  pre : sigDen sig → Prop
  /-- what each owned argument holds behind the call; none: it is used up -/
  upd : sigDen sig → List (Option Lst) := fun _ => []
  res : sigDen sig → List Dyn

def IsVal (t : Ty) (cs : List Value) (v : Value) : Prop :=
  match t with
  | .unit | .cons _ _ => v = .agg cs.toArray
  | _ => cs = [v]

/-- Results: each owned by whoever called. -/
def ResRep (w : World) : List Dyn → List Value → List (List Nat) → Prop
  | [], vs, bss => vs = [] ∧ bss = []
  | d :: r, vs, bss => ∃ v s b bs cs, vs = v :: s ∧ bss = b :: bs ∧ OwnC w d.t d.x cs b ∧ IsVal d.t cs v ∧ ResRep w r s bs

/-- The owned arguments that are given back. -/
def UpdRep (w : World) : List (Option Lst) → List Value → List (List Nat) → Prop
  | [], vs, bss => vs = [] ∧ bss = []
  | none :: r, vs, bss => ∃ v s bs, vs = v :: s ∧ bss = [] :: bs ∧ UpdRep w r s bs
  | some A :: r, vs, bss => ∃ v s b bs, vs = v :: s ∧ bss = b :: bs ∧ OwnC w (.sl A.t) A.xs [v] b ∧ UpdRep w r s bs

/-- The values of the owned arguments. -/
def ownVals : List AT → List Value → List Value
  | .own _ :: r, v :: s => v :: ownVals r s
  | _ :: r, _ :: s => ownVals r s
  | _, _ => []

/-- How results are handed back: one as it is, others as a tuple. -/
def packV : List Value → Value
  | [v] => v
  | vs => .tuple vs.toArray

/-- **The contract of a function.** -/
def Contract (P : Program) (f : FuncId) (S : Spec) : Prop :=
  ∀ (w : World) (x : sigDen S.sig) (vs : List Value) (bss : List (List Nat)), S.pre x → ArgsRep w (Good w bss.flatten) S.sig x vs bss → bss.flatten.Nodup →
    Calls P f vs.toArray w fun e w' => ∃ rs ubs rbs, e = .returned (packV rs) ∧ Kept bss.flatten w w' ∧ ResRep w' (S.res x) rs rbs ∧ UpdRep w' (S.upd x) (ownVals S.sig vs) ubs ∧
      (ubs.flatten ++ rbs.flatten).Nodup ∧ ∀ b ∈ ubs.flatten ++ rbs.flatten, ¬ Good w bss.flatten b

end Go.Am
