/- Several texts in one: the functions that this law reaches, and their laws. -/
import Derived.Test.YtgbmdngcpcgaeaaZ3A
import Derived.OrdersHeld
import Derived.ProofKit
import Derived.Carry
import Derived.HandedShaped
import Derived.Stop.Joined
import Derived.Lib.Repeat
import Derived.Laws.AppendOwn
import Derived.Sort.Row
import Derived.Sort.Grow
import Derived.Lib.Strings
import Derived.Lib.ItoaLen
import Derived.Lib.SplitLaws
import Derived.Lib.Join
import Derived.Lib.LaidTab
import Derived.Stop.LaidErr

/- The abstract machine, part 16: append, bytes and strings, on the abstract state. -/
namespace Go.Am
set_option linter.unusedVariables false
set_option linter.unusedSimpArgs false

def srcS : (t : Ty) → ByteArray → Option (List t.den)
  | .int .u8, s => some (bytesOf s)
  | _, _ => none

def srcA (tab : List TI) (L : Heap) (T2 : TypeId) (t : Ty) : Atom → Option (List t.den)
  | .val (.string s) => match tabGet tab T2 with
    | .scal .str => srcS t s
    | _ => none
  | A => match tabGet tab T2 with
    | .slice _ _ _ => decV L (.sl t) A
    | _ => none

/-- 'append' -/
def appA (tab : List TI) (E : Env) (L : Heap) (T T2 : TypeId) : PV → PV → Option (List Prop × PV × Env × Heap)
  | .a S, .a X => match tabGet tab T with
    | .slice _ t by' => match Nat.ble 1 t.size && t.flat && Nat.ble 1 by', srcA tab L T2 t X with
      | true, some ys => match S with
        | .val (.slice none _ _) => some ([ys.length * by' ≤ 140737488355328], .a (.osl L.length none), E, L ++ [some ⟨t, ys, false⟩])
        | .osl r rg => match hget L r with
          | some A => if h : t = A.t then some ([((rgL rg A.xs).length + ys.length) * by' ≤ 140737488355328], .a (.osl r none), killE r E, hset L r (some ⟨A.t, rgL rg A.xs ++ castL h ys, A.bor⟩)) else none
          | none => none
        | _ => none
      | _, _ => none
    | _ => none
  | _, _ => none

section
variable {P : Program} {n : Nat} {w0 w : World} {O : List Nat} {a : Act} {E : Env} {L : Heap} {V : Nat → Value} {own : Nat → List Nat}

/-- **An owned array turns, and its value with it.** -/
theorem RelV.replace (hR : RelV n w0 O w a E L V own) {w' : World} (hk : Kept O w0 w') {r : Nat} {A A' : Arr} (hA : hget L r = some A) (hold : ∀ s C, hget L s = some C → s ≠ r → ∀ b ∈ own s, w'.heap[b]? = w.heap[b]?)
    {v' : Value} {bs' : List Nat} (hE : EntC w0 (Good w0 O) w' A' v' bs') (hn : bs'.Nodup) (hg : ∀ b ∈ bs', ¬ Good w0 O b) (hd : ∀ s C, hget L s = some C → s ≠ r → ∀ b ∈ own s, b ∉ bs') :
    RelV n w0 O w' a (killE r E) (hset L r (some A')) (upd1 V r v') (upd1 own r bs') := by
  have hsplit : ∀ s C, hget (hset L r (some A')) s = some C → (s ≠ r ∧ hget L s = some C) ∨ (s = r ∧ C = A') := by
    intro s C hs
    by_cases hsr : s = r
    · subst hsr; rw [hget_hset_same hA] at hs; cases hs; exact .inr ⟨rfl, rfl⟩
    · exact .inl ⟨hsr, by rwa [hget_hset_other (Ne.symm hsr)] at hs⟩
  refine ⟨hR.glob, hk, hR.size, hR.defers, ?_, ?_, ?_, ?_, fun i => ?_⟩
  · intro s C hs
    rcases hsplit s C hs with ⟨e1, e2⟩ | ⟨rfl, rfl⟩
    · rw [upd1_other _ _ e1, upd1_other _ _ e1]; exact (hR.heap s C e2).keep (hold s C e2 e1)
    · rw [upd1_same, upd1_same]; exact hE
  · intro s C hs
    rcases hsplit s C hs with ⟨e1, e2⟩ | ⟨rfl, rfl⟩
    · rw [upd1_other _ _ e1]; exact hR.good s C e2
    · rw [upd1_same]; exact hg
  · intro s C hs
    rcases hsplit s C hs with ⟨e1, e2⟩ | ⟨rfl, rfl⟩
    · rw [upd1_other _ _ e1]; exact hR.nodup s C e2
    · rw [upd1_same]; exact hn
  · intro s u C D hs hu hsu
    rcases hsplit s C hs with ⟨e1, e2⟩ | ⟨rfl, rfl⟩
    · rcases hsplit u D hu with ⟨e3, e4⟩ | ⟨rfl, rfl⟩
      · rw [upd1_other _ _ e1, upd1_other _ _ e3]; exact hR.apart s u C D e2 e4 hsu
      · rw [upd1_other _ _ e1, upd1_same]; exact hd s C e2 e1
    · rcases hsplit u D hu with ⟨e3, e4⟩ | ⟨rfl, rfl⟩
      · rw [upd1_same, upd1_other _ _ e3]; exact fun b hb hb' => hd u D e4 e3 b hb' hb
      · exact absurd rfl hsu
  · rw [get_killE]
    refine repP_agree (repP_kill r (hR.env i)) fun s hs => ?_
    have hsr : s ≠ r := fun e => killP_refs.1 (e ▸ hs)
    exact ⟨upd1_other _ _ hsr, fun C hC => ⟨C, by rw [hget_hset_other (Ne.symm hsr)]; exact hC, rfl, rfl⟩⟩

theorem rep_whole {r : Nat} {A : Arr} {v : Value} {bs : List Nat} {G G' : Nat → Prop} {u u' : World} {L : Heap} {V : Nat → Value} (hA : hget L r = some A) (hV : V r = v) (h : EntC u G' u' A v bs) : RepA w0 G L V (.osl r none) v := by
  refine ⟨A, hA, fun _ => hV.symm, ?_⟩
  rw [hV]
  refine ⟨Nat.zero_le _, Nat.le_refl _, ?_⟩
  rcases h.2 with ⟨ad, h1, h2, _⟩ | ⟨b, off, cap, cur, ty, fz, bss, h1, h2, h3, h4, h5, h6, h7, h8, h9⟩
  · exact .inl ⟨ad, ad, h1, h1, by rw [h2]; exact ⟨rfl, rfl⟩⟩
  · exact .inr ⟨b, off, A.xs.length, cap, off, cap, h1, by rw [h1]; rfl, by simpa [rgLo, rgHi] using h2, .inl ⟨by simp [rgLo], by simp [rgLo]⟩⟩

theorem repC_ent {w : World} {G G' : Nat → Prop} {t : Ty} {x : t.den} {cs : List Value} (h : RepC w G t x cs) (hf : t.flat = true) (bor : Bool) (u u' : World) : entR u G' u' t bor x cs [] := by
  unfold entR
  cases bor with
  | true => exact ⟨h.flat hf, rfl⟩
  | false => exact h.own hf

theorem firstCells_nil (sz : Nat) (ad : Option Addr) (w : World) : (Builtin.firstCells sz 0 (.slice ad 0 0)).run P w = .ok #[] w := by
  cases ad with
  | none => rfl
  | some ad =>
    have := run_loadCells_list (P := P) w ad [] (fun j v hj => by simp at hj)
    simpa [Builtin.firstCells] using this


/-- The source of an append: its cells. -/
theorem srcA_spec {tab : List TI} (hT : TabOk P tab) (hR : RelV n w0 O w a E L V own) {T2 : TypeId} {t : Ty} (hf : t.flat = true) {X : Atom} {x : Operand} (hx : opnd E x = .a X) {ys : List t.den} (h : srcA tab L T2 t X = some ys) :
    ∃ d css bss, P.underlying T2 = some d ∧ (∀ k, d ≠ .int k) ∧ bss.flatten = [] ∧ (∀ w1 bor, Row (entR w0 (Good w0 O) w1 t bor) t.size ys css bss) ∧ (∀ w' : World, w'.heap = w.heap → (Builtin.firstCells t.size ys.length (a.eval x)).run P w' = .ok css.flatten.toArray w') ∧ ∀ w', (Builtin.lenOf (a.eval x)).run P w' = .ok ys.length w' := by
  have slice : ∀ {e : TypeId} {t' : Ty} {b : Nat}, tabGet tab T2 = .slice e t' b → decV L (.sl t) X = some ys → ∃ d css bss, P.underlying T2 = some d ∧ (∀ k, d ≠ .int k) ∧ bss.flatten = [] ∧ (∀ w1 bor, Row (entR w0 (Good w0 O) w1 t bor) t.size ys css bss) ∧
      (∀ w' : World, w'.heap = w.heap → (Builtin.firstCells t.size ys.length (a.eval x)).run P w' = .ok css.flatten.toArray w') ∧ ∀ w', (Builtin.lenOf (a.eval x)).run P w' = .ok ys.length w' := by
    intro e t' b ht hd
    have hS := hT T2; rw [ht] at hS
    have hr := decV_rep hR (Kept.refl [] w) (H := []) (by simp) (hR.atom hx) hd (by simp)
    obtain ⟨css, bss, h1, h2, h3⟩ := SlAt.row hr
    refine ⟨_, css, bss, hS.2.1, (fun k h => by cases h), h2, fun w1 bor => h1.mono (fun y c b hb hh => by rw [hh.2]; exact repC_ent hh.1 hf bor _ _), ?_, ?_⟩
    · intro w' hw'
      rcases h3 with ⟨ad, e1, e2⟩ | ⟨b', off, cap, e1, e2, e3⟩
      · have : css = [] := by rw [e2] at h1; exact h1.1
        rw [e1, this, e2]; exact firstCells_nil _ _ _
      · rw [e1]
        exact run_firstCells_slice h1.len.2.2 (e3.keep (by rw [hw']))
    · intro w'
      rcases h3 with ⟨ad, e1, e2⟩ | ⟨b', off, cap, e1, e2, e3⟩
      · rw [e1, e2]; rfl
      · rw [e1]; rfl
  unfold srcA at h
  split at h
  · rename_i s
    split at h
    · rename_i ht
      have hS := hT T2; rw [ht] at hS
      obtain ⟨e1, e2⟩ := hR.valEq hx
      unfold srcS at h
      split at h
      · cases h
        have hrow : ∀ (l : List UInt8) (w1 : World) (bor : Bool), Row (entR w0 (Good w0 O) w1 (.int .u8) bor) (Ty.int IntKind.u8).size (l.map fun b => (b.toNat : Int)) (l.map fun b => [.int .u8 (b.toNat : Int)]) (l.map fun _ => []) := by
          intro l w1 bor
          induction l with
          | nil => exact ⟨rfl, rfl⟩
          | cons b l ih =>
            refine ⟨_, _, _, _, rfl, rfl, rfl, ?_, ih⟩
            refine repC_ent (w := w1) (G := fun _ => True) (t := .int .u8) (x := (b.toNat : Int)) (cs := [.int .u8 (b.toNat : Int)]) ⟨rfl, ?_⟩ rfl bor _ _
            have hb := b.toNat_lt
            simp [InR, IntKind.min, IntKind.max, IntKind.bits, IntKind.signed]; omega
        refine ⟨_, _, _, TyOk.str_und hS, (fun k h => by cases h), by simp, fun w1 bor => hrow s.data.toList w1 bor, fun w' _ => ?_, fun w' => ?_⟩
        · rw [e1]
          have hl : (bytesOf s).length = s.size := by simp [bytesOf]
          simp only [Builtin.firstCells, hl, Sem.run_pure]
          congr 1
          have hs : s.extract 0 s.size = s := by simp
          rw [hs]
          apply Array.toList_inj.1
          simp
          induction s.data.toList with
          | nil => rfl
          | cons b l ih => simp [ih]
        · rw [e1]
          have hl : (bytesOf s).length = s.size := by simp [bytesOf]
          simp [Builtin.lenOf, hl]
      · cases h
    · cases h
  · split at h
    · rename_i e t' b ht
      exact slice ht h
    · cases h

theorem castL_length {t t' : Ty} (h : t = t') (xs : List t.den) : (castL h xs).length = xs.length := by
  subst h; rfl

theorem drew_size (w : World) : w.drew.heap.size = w.heap.size := rfl

theorem append_nil {tab : List TI} (hT : TabOk P tab) (hR : RelV n w0 O w a E L V own) {T T2 ty e : TypeId} {t : Ty} {i : TypeInfo} {d : TypeDesc} {by' : Nat} {s x : Operand} {ys : List t.den} {css : List (List Value)} {bss : List (List Nat)}
    (hu : P.underlying T = some (.slice e)) (hd1 : P.underlying T2 = some d) (hd2 : ∀ k, d ≠ .int k) (hi : P.info? e = some i) (hbi : i.bytes = by') (he : TyOk P e t) (hsz : 1 ≤ t.size) (hby1 : 1 ≤ by') (hb0 : bss.flatten = [])
    (hrow : ∀ w1 bor, Row (entR w0 (Good w0 O) w1 t bor) t.size ys css bss) (hfc : ∀ w' : World, w'.heap = w.heap → (Builtin.firstCells t.size ys.length (a.eval x)).run P w' = .ok css.flatten.toArray w') (hlen : ∀ w', (Builtin.lenOf (a.eval x)).run P w' = .ok ys.length w')
    (l3 : css.flatten.length = ys.length * t.size) (hone : ∀ v ∈ css.flatten, v.oneCell' = true) (hc : ys.length * by' ≤ 140737488355328) (e1 : a.eval s = .slice none 0 0) :
    ∃ v w' V' own', (Builtin.append_ #[T, T2] ty #[a.eval s, a.eval x]).run P w = .ok v w' ∧ RelN n w0 O w w' a E L (L ++ [some ⟨t, ys, false⟩]) V V' own own' ∧ RepP w0 (Good w0 O) (L ++ [some ⟨t, ys, false⟩]) V' (.a (.osl L.length none)) v := by
  have hml : 0 + ys.length ≤ maxLen := by
    have : ys.length ≤ ys.length * by' := Nat.le_mul_of_pos_right _ hby1
    have := hc
    unfold maxLen; omega
  obtain ⟨v', w', hrun, hcase⟩ := append_run (P := P) (w := w) (T := T) (T2 := T2) (ty := ty) (adr := none) (len := 0) (cap := 0) (olds := []) hu hd1 hd2 hi he hsz hfc hlen (fun w' _ => rfl) (by simp) l3 hone (by rw [hbi, Nat.zero_add]; exact hc) hml (.inl rfl)
  rw [e1]
  rcases hcase with ⟨_, hcase⟩ | ⟨hlt, nc, rest, rfl, hnc1, hnc2, rfl, hlr⟩
  · rcases hcase with ⟨_, rfl, rfl, hm, _⟩ | ⟨hh, _⟩
    · have hys : ys = [] := List.eq_nil_of_length_eq_zero hm
      subst hys
      have hent : EntC w0 (Good w0 O) w' ⟨t, [], false⟩ (.slice none 0 0) [] := ⟨by simp, .inl ⟨_, rfl, rfl, rfl⟩⟩
      exact ⟨_, _, _, _, hrun, hR.freshN (Kept.refl _ _) hent (by simp) (by simp), repA_new (w0 := w0) (G := Good w0 O) (u := w0) (G' := Good w0 O) hent⟩
    · exact absurd rfl hh
  · simp only [List.nil_append, Nat.zero_add] at hrun hnc1 hlr hlt
    have hent := ent_row (w := w.drew) (ty := e) (cap := nc) (hrow _ false) hb0 hnc1 hnc2 (by rw [hlr]; exact Nat.le_refl _)
    exact ⟨_, _, _, _, hrun, hR.freshN ((Kept.refl [] w).drew.alloc _) hent (by simp) (by rw [drew_size]; simp), repA_new (w0 := w0) (G := Good w0 O) (u := w0) (G' := Good w0 O) hent⟩

set_option maxHeartbeats 800000 in
theorem append_osl {tab : List TI} (hT : TabOk P tab) (hR : RelV n w0 O w a E L V own) {T T2 ty e : TypeId} {i : TypeInfo} {d : TypeDesc} {by' : Nat} {s x : Operand} {r : Nat} {rg : Option (Nat × Nat)} {A : Arr} {ys : List A.t.den} {css : List (List Value)} {bss : List (List Nat)}
    (hu : P.underlying T = some (.slice e)) (hd1 : P.underlying T2 = some d) (hd2 : ∀ k, d ≠ .int k) (hi : P.info? e = some i) (hbi : i.bytes = by') (he : TyOk P e A.t) (hf : A.t.flat = true) (hsz : 1 ≤ A.t.size) (hby1 : 1 ≤ by') (hb0 : bss.flatten = [])
    (hrow : ∀ w1 bor, Row (entR w0 (Good w0 O) w1 A.t bor) A.t.size ys css bss) (hfc : ∀ w' : World, w'.heap = w.heap → (Builtin.firstCells A.t.size ys.length (a.eval x)).run P w' = .ok css.flatten.toArray w') (hlen : ∀ w', (Builtin.lenOf (a.eval x)).run P w' = .ok ys.length w')
    (l3 : css.flatten.length = ys.length * A.t.size) (hone : ∀ v ∈ css.flatten, v.oneCell' = true) (hA : hget L r = some A) (hs : opnd E s = .a (.osl r rg)) (hc : ((rgL rg A.xs).length + ys.length) * by' ≤ 140737488355328 ∧ True) :
    ∃ v w' V' own', (Builtin.append_ #[T, T2] ty #[a.eval s, a.eval x]).run P w = .ok v w' ∧ RelV n w0 O w' a (killE r E) (hset L r (some ⟨A.t, rgL rg A.xs ++ castL rfl ys, A.bor⟩)) V' own' ∧ RepP w0 (Good w0 O) (hset L r (some ⟨A.t, rgL rg A.xs ++ castL rfl ys, A.bor⟩)) V' (.a (.osl r none)) v := by
  obtain ⟨A', hA', hve, hs1, hs2, hs3⟩ := hR.atom hs
  rw [hA] at hA'; cases hA'
  have hent := hR.heap r A hA
  obtain ⟨ocss, obss, horow, hocase⟩ := OwnSl.row hent
  -- the base's own elements
  have hbrow : ∀ w1, ∃ ob, Row (entR w0 (Good w0 O) w1 A.t A.bor) A.t.size (rgL rg A.xs) (rgL rg ocss) ob ∧ ob.flatten = [] := by
    intro w1
    obtain ⟨ob, h1, h2⟩ := horow.nil (R' := entR w0 (Good w0 O) w1 A.t A.bor) (fun y c b hh => entR_flat hf hh)
    cases rg with
    | none => exact ⟨ob, h1, h2⟩
    | some q =>
      obtain ⟨lo, hi⟩ := q
      refine ⟨(ob.take hi).drop lo, (h1.take hi).drop lo, ?_⟩
      rw [List.flatten_eq_nil_iff] at h2 ⊢
      exact fun l hl => h2 l (List.mem_of_mem_take (List.mem_of_mem_drop hl))
  obtain ⟨ob, hbrow1, hbflat⟩ := hbrow w
  obtain ⟨m1, m2, m3⟩ := hbrow1.len
  have hlenrg : (rgL rg A.xs).length = rgHi A.xs.length rg - rgLo rg := by
    cases rg with
    | none => simp [rgL, rgHi, rgLo]
    | some q =>
      obtain ⟨lo, hi⟩ := q
      simp only [rgL, rgHi, rgLo, List.length_drop, List.length_take] at hs2 ⊢
      omega
  have hml : (rgL rg A.xs).length + ys.length ≤ maxLen := by
    have : (rgL rg A.xs).length + ys.length ≤ ((rgL rg A.xs).length + ys.length) * by' := Nat.le_mul_of_pos_right _ hby1
    have := hc.1
    unfold maxLen; omega
  have hcast : ∀ (w1 : World), ∃ nb, Row (entR w0 (Good w0 O) w1 A.t A.bor) A.t.size (rgL rg A.xs ++ castL rfl ys) (rgL rg ocss ++ css) nb ∧ nb.flatten = [] := by
    intro w1
    obtain ⟨ob, h1, h2⟩ := hbrow w1
    exact ⟨ob ++ bss, h1.append (hrow w1 A.bor), by simp [h2, hb0]⟩
  have hbnot : ∀ s C, hget L s = some C → s ≠ r → ∀ b ∈ own s, b ∉ own r := fun s C hs' hsr => hR.apart s r C A hs' hA hsr
  have hbg := hR.good r A hA
  have nothing : ∀ adr : Option Addr, a.eval s = .slice adr 0 0 → rgHi A.xs.length rg - rgLo rg = 0 →
      ∃ v w' V' own', (Builtin.append_ #[T, T2] ty #[a.eval s, a.eval x]).run P w = .ok v w' ∧ RelV n w0 O w' a (killE r E) (hset L r (some ⟨A.t, rgL rg A.xs ++ castL rfl ys, A.bor⟩)) V' own' ∧ RepP w0 (Good w0 O) (hset L r (some ⟨A.t, rgL rg A.xs ++ castL rfl ys, A.bor⟩)) V' (.a (.osl r none)) v := by
    intro adr hv e0
    have eo : rgL rg A.xs = [] := List.eq_nil_of_length_eq_zero (by omega)
    obtain ⟨v', w', hrun, hcase⟩ := append_run (P := P) (w := w) (T := T) (T2 := T2) (ty := ty) (adr := adr) (len := 0) (cap := 0) (olds := []) hu hd1 hd2 hi he hsz hfc hlen (fun w' _ => firstCells_nil _ _ _) (by simp) l3 hone
      (by rw [hbi]; have := hc.1; rw [eo] at this; simpa using this) (by rw [eo] at hml; simpa using hml) (.inl rfl)
    rw [hv]
    simp only [eo, List.nil_append] at *
    rcases hcase with ⟨_, hcase⟩ | ⟨hlt, nc, rest, rfl, hnc1, hnc2, rfl, hlr⟩
    · rcases hcase with ⟨_, rfl, rfl, hm, _⟩ | ⟨hh, _⟩
      · have hys : ys = [] := List.eq_nil_of_length_eq_zero hm
        subst hys
        have hent' : EntC w0 (Good w0 O) w' ⟨A.t, castL rfl [], A.bor⟩ (.slice adr 0 0) [] := ⟨by simp [castL], .inl ⟨_, rfl, rfl, rfl⟩⟩
        exact ⟨_, _, _, _, hrun, hR.replace hR.kept hA (fun _ _ _ _ _ _ => rfl) hent' (by simp) (by simp) (by simp), rep_whole (w0 := w0) (G := Good w0 O) (hget_hset_same hA) (upd1_same _ _ _) hent'⟩
      · exact absurd rfl hh
    · simp only [List.nil_append, Nat.zero_add] at hrun hnc1 hlr hlt
      have hent' := ent_row (w := w.drew) (ty := e) (cap := nc) (hrow _ A.bor) hb0 hnc1 hnc2 (by rw [hlr]; exact Nat.le_refl _)
      refine ⟨_, _, _, _, hrun, hR.replace (hR.kept.drew.alloc _) hA (fun s C hs' _ b hb => ?_) hent' (by simp) (by rw [drew_size]; intro b hb hg; simp at hb; subst hb; have := hg.1; have := hR.kept.size; omega) (fun s C hs' _ b hb => ?_), rep_whole (w0 := w0) (G := Good w0 O) (hget_hset_same hA) (upd1_same _ _ _) hent'⟩
      · exact Go.RowKit.Below.heap_alloc _ _ _ (hR.own_lt hs' b hb)
      · have := hR.own_lt hs' b hb
        rw [drew_size]; simp; omega
  rcases hs3 with ⟨ad, ad', hV, hv, hz⟩ | ⟨b0, off0, m0, cap0, o, c, hV, hv, hle, hcase⟩
  · exact nothing ad' hv (by omega)
  by_cases hc00 : c = 0
  · subst hc00
    have e0 : rgHi A.xs.length rg - rgLo rg = 0 := by omega
    exact nothing _ (by rw [hv, e0]) e0
  · rcases hocase with ⟨_, h1, _, _⟩ | ⟨b1, off1, cap1, cur, ct, fz, h1, h2, h3, h4, h5, h6, h7, h8⟩
    · rw [h1] at hV; cases hV
      have := (hcase.resolve_right (fun h => hc00 h.1)).2
      omega
    · rw [h1] at hV
      cases hV
      have hoc : o + c * A.t.size ≤ cur.size := by
        rcases hcase with ⟨ho, hcap⟩ | ⟨hc0, ho⟩
        · have : (rgLo rg + c) * A.t.size ≤ cap0 * A.t.size := Nat.mul_le_mul_right _ hcap
          rw [Nat.add_mul] at this
          omega
        · rw [hc0, Nat.zero_mul]; omega
      have hold : ∀ j v, (rgL rg ocss).flatten[j]? = some v → cur[o + j]? = some v := by
        intro j v hj
        have hjl : j < (rgL rg A.xs).length * A.t.size := by rw [← m3]; exact (List.getElem?_eq_some_iff.1 hj).1
        have hne : c ≠ 0 := by
          intro hc0
          rw [hlenrg] at hjl
          have : rgHi A.xs.length rg - rgLo rg = 0 := by omega
          rw [this, Nat.zero_mul] at hjl; omega
        obtain ⟨ho, hcap⟩ := hcase.resolve_right (fun h => hne h.1)
        cases rg with
        | none =>
          have := h8 j v hj
          rw [ho]; simpa [rgLo] using this
        | some q =>
          obtain ⟨lo, hi'⟩ := q
          have hl := horow.lens
          have hpre : (ocss.take lo).flatten.length = lo * A.t.size := by
            have := (horow.take lo).len.2.2
            rw [this, List.length_take]
            congr 1
            simp only [rgLo, rgHi] at hs1 hs2
            omega
          have hfl : ocss.flatten[lo * A.t.size + j]? = some v := by
            have hsplit : ocss = (ocss.take lo ++ (ocss.take hi').drop lo) ++ ocss.drop hi' := by
              have e1 : ocss.take lo = (ocss.take hi').take lo := by
                rw [List.take_take]; congr 1; simp only [rgLo, rgHi] at hs1; omega
              rw [e1, List.take_append_drop, List.take_append_drop]
            rw [hsplit, List.flatten_append, List.flatten_append, List.append_assoc, List.getElem?_append_right (by omega), hpre, Nat.add_sub_cancel_left]
            have hj' : ((ocss.take hi').drop lo).flatten[j]? = some v := hj
            rw [List.getElem?_append_left (List.getElem?_eq_some_iff.1 hj').1]
            exact hj'
          have := h8 _ v hfl
          rw [ho]
          simp only [rgLo]
          rwa [← Nat.add_assoc] at this
      have hblt : b0 < w.heap.size := hR.own_lt hA b0 (by rw [h7]; exact List.mem_cons_self ..)
      have hbown : b0 ∈ own r := by rw [h7]; exact List.mem_cons_self ..
      have hcells : ∀ w' : World, w'.heap = w.heap → CellsAt w' b0 o (rgL rg ocss).flatten := fun w' hw' j v hj => by
        simp only [World.cell?, hw', h5]
        exact hold j v hj
      obtain ⟨v', w', hrun, hcase'⟩ := append_run (P := P) (w := w) (T := T) (T2 := T2) (ty := ty) (adr := some ⟨b0, o, none⟩) (len := (rgL rg A.xs).length) (cap := c) (olds := (rgL rg ocss).flatten) hu hd1 hd2 hi he hsz hfc hlen
        (fun w' hw' => run_firstCells_slice m3 (hcells w' hw')) m3 l3 hone (by rw [hbi]; exact hc.1) hml (.inr ⟨b0, o, cur, ct, fz, rfl, h5, h6, hoc⟩)
      rw [hv, ← hlenrg]
      rcases hcase' with ⟨hroom, hcase'⟩ | ⟨hlt, nc, rest, rfl, hnc1, hnc2, rfl, hlr⟩
      · rcases hcase' with ⟨hh, _⟩ | ⟨_, b2, o2, cur2, ct2, fz2, cur', hh, g1, g2, g3, rfl, g4, g5, g6⟩
        · exact absurd hh hc00
        · cases hh
          rw [h5] at g1
          cases g1
          replace g5 : cur'.toList = splice cur.toList (o + (rgL rg A.xs).length * A.t.size) css.flatten := g5
          obtain ⟨nb, hnrow, hnflat⟩ := hcast w'
          have hnl : (rgL rg ocss).flatten.length + css.flatten.length ≤ c * A.t.size := by
            rw [m3, l3, ← Nat.add_mul]; exact Nat.mul_le_mul_right _ hroom
          have hcs : cur'.size = cur.size := by
            have hsl := splice_length (cs := cur.toList) (c := css.flatten) (o := o + (rgL rg A.xs).length * A.t.size) (by have hcl : cur.toList.length = cur.size := Array.length_toList; omega)
            have := congrArg List.length g5
            rw [hsl] at this
            simpa using this
          have hget' : ∀ j v, (rgL rg ocss ++ css).flatten[j]? = some v → cur'[o + j]? = some v := by
            intro j v hj
            rw [← Array.getElem?_toList, g5, splice]
            rw [List.flatten_append] at hj
            by_cases hjl : j < (rgL rg ocss).flatten.length
            · rw [List.getElem?_append_left hjl] at hj
              rw [List.append_assoc, List.getElem?_append_left (by simp only [List.length_take, Array.length_toList]; omega), List.getElem?_take, if_pos (by omega), Array.getElem?_toList]
              exact hold j v hj
            · rw [List.getElem?_append_right (by omega)] at hj
              have hj2 := (List.getElem?_eq_some_iff.1 hj).1
              rw [List.append_assoc, List.getElem?_append_right (by simp only [List.length_take, Array.length_toList]; omega)]
              have e9 : o + j - (cur.toList.take (o + (rgL rg A.xs).length * A.t.size)).length = j - (rgL rg ocss).flatten.length := by
                simp only [List.length_take, Array.length_toList]; omega
              rw [e9, List.getElem?_append_left hj2]
              exact hj
          have hnlen : (rgL rg A.xs ++ castL rfl ys).length = (rgL rg A.xs).length + ys.length := by rw [List.length_append]; rfl
          have hent' := ownSl_of_row hnrow (b := b0) (off := o) (cap := c) (cur := cur') (ty := ct) (fz := fz) (by rw [hnlen]; exact hml) (by rw [hnlen]; exact hroom) (by
            rcases hcase with ⟨ho, hcap⟩ | ⟨hc0, ho⟩
            · omega
            · omega) (by rw [hcs]; exact hoc) g4 (by rw [hcs]; exact h6) hget'
          rw [hnflat, hnlen] at hent'
          have hent'' : EntC w0 (Good w0 O) w' ⟨A.t, rgL rg A.xs ++ castL rfl ys, A.bor⟩ (.slice (some ⟨b0, o, none⟩) ((rgL rg A.xs).length + ys.length) c) [b0] := hent'
          refine ⟨_, _, _, _, hrun, hR.replace ?_ hA (fun s C hs' hsr b hb => g6.block b (hR.own_lt hs' b hb) ?_) hent'' (by simp) (by simp; exact hbg b0 hbown) (fun s C hs' hsr b hb => ?_), rep_whole (w0 := w0) (G := Good w0 O) (hget_hset_same hA) (upd1_same _ _ _) hent''⟩
          · refine ⟨g6.os.trans hR.kept.os, g6.tape.trans hR.kept.tape, g6.output.trans hR.kept.output, Nat.le_trans hR.kept.size g6.size, fun k hk hkO => ?_⟩
            rw [g6.block k (Nat.lt_of_lt_of_le hk hR.kept.size) (by simp; exact fun e => hbg b0 hbown (e ▸ ⟨hk, hkO⟩))]
            exact hR.kept.block k hk hkO
          · simp; exact fun e => hbnot s C hs' hsr b hb (e ▸ hbown)
          · simp; exact fun e => hbnot s C hs' hsr b hb (e ▸ hbown)
      · obtain ⟨nb, hnrow, hnflat⟩ := hcast (w.drew.alloc (.cells ((rgL rg ocss ++ css).flatten ++ rest).toArray e))
        rw [← List.flatten_append] at hrun hlr
        have hnlen : (rgL rg A.xs ++ castL rfl ys).length = (rgL rg A.xs).length + ys.length := by rw [List.length_append]; rfl
        have hent' := ent_row (w := w.drew) (ty := e) (cap := nc) hnrow hnflat (by rw [hnlen]; exact hnc1) hnc2 (by rw [hlr]; exact Nat.le_refl _)
        rw [hnlen] at hent'
        refine ⟨_, _, _, _, hrun, hR.replace (hR.kept.drew.alloc _) hA (fun s C hs' _ b hb => ?_) hent' (by simp) (by rw [drew_size]; intro b hb hg; simp at hb; subst hb; have := hg.1; have := hR.kept.size; omega) (fun s C hs' _ b hb => ?_), rep_whole (w0 := w0) (G := Good w0 O) (hget_hset_same hA) (upd1_same _ _ _) hent'⟩
        · exact Go.RowKit.Below.heap_alloc _ _ _ (hR.own_lt hs' b hb)
        · have := hR.own_lt hs' b hb
          rw [drew_size]; simp; omega

theorem append_spec {tab : List TI} (hT : TabOk P tab) (hR : RelV n w0 O w a E L V own) {T T2 ty : TypeId} {s x : Operand} {cs : List Prop} {pv : PV} {E' : Env} {L' : Heap} (h : appA tab E L T T2 (opnd E s) (opnd E x) = some (cs, pv, E', L')) (hc : All cs) :
    ∃ v w' V' own', (Builtin.append_ #[T, T2] ty #[a.eval s, a.eval x]).run P w = .ok v w' ∧ RelV n w0 O w' a E' L' V' own' ∧ RepP w0 (Good w0 O) L' V' pv v := by
  unfold appA at h
  split at h
  · rename_i S X hs hx
    split at h
    · rename_i e t by' ht
      split at h
      · rename_i ys hck hsrc
        simp only [Bool.and_eq_true, Nat.ble_eq] at hck
        obtain ⟨⟨hsz, hf⟩, hby1⟩ := hck
        have hS := hT T; rw [ht] at hS
        obtain ⟨_, hu, he, hby⟩ := hS
        obtain ⟨i, hi, hbi⟩ : ∃ i, P.info? e = some i ∧ i.bytes = by' := by
          cases hi : P.info? e with
          | none => rw [hi] at hby; cases hby
          | some i => rw [hi] at hby; simp at hby; exact ⟨i, rfl, hby⟩
        obtain ⟨d, css, bss, hd1, hd2, hb0, hrow, hfc, hlen⟩ := srcA_spec hT hR hf hx hsrc
        obtain ⟨l1, l2, l3⟩ := (hrow w false).len
        have hone := (hrow w false).one (fun y c b h => entR_one h)
        split at h
        · cases h
          obtain ⟨e1, e2⟩ := hR.valEq hs
          obtain ⟨e3, e4⟩ := e2
          subst e3 e4
          obtain ⟨v, w', V', own', g1, g2, g3⟩ := append_nil hT hR hu hd1 hd2 hi hbi he hsz hby1 hb0 hrow hfc hlen l3 hone hc.1 e1
          exact ⟨v, w', V', own', g1, g2.1, g3⟩
        · rename_i r rg
          split at h
          · rename_i A hA
            split at h
            · rename_i hte
              subst hte
              cases h
              exact append_osl hT hR hu hd1 hd2 hi hbi he hf hsz hby1 hb0 hrow hfc hlen l3 hone hA hs hc
            · cases h
          · cases h
        · cases h
      · cases h
    · cases h
  · cases h
end
end Go.Am

/- The abstract machine, part 42: 'clear' of a part of an owned array. -/
namespace Go.Am
set_option linter.unusedVariables false
set_option linter.unusedSimpArgs false

def clrL {α : Type} (rg : Option (Nat × Nat)) (d : α) (xs : List α) : List α :=
  match rg with
  | none => List.replicate xs.length d
  | some (lo, hi) => xs.take lo ++ List.replicate (hi - lo) d ++ xs.drop hi

/-- 'clear' -/
def clearA (tab : List TI) (L : Heap) (T : TypeId) : PV → Option Heap
  | .a (.osl r rg) => match hget L r, tabGet tab T with
    | some A, .slice _ t _ => match decide (t = A.t) && A.t.flat with
      | true => some (hset L r (some ⟨A.t, clrL rg A.t.dflt A.xs, A.bor⟩))
      | false => none
    | _, _ => none
  | _ => none

theorem get_splice {l c : List Value} {o : Nat} (h : o + c.length ≤ l.length) (j : Nat) : (splice l o c)[j]? = if j < o then l[j]? else if j < o + c.length then c[j - o]? else l[j]? := by
  have hto : (l.take o).length = o := by simp; omega
  unfold splice
  by_cases h1 : j < o
  · rw [if_pos h1, List.append_assoc, List.getElem?_append_left (by omega), List.getElem?_take, if_pos h1]
  · rw [if_neg h1]
    by_cases h2 : j < o + c.length
    · rw [if_pos h2, List.append_assoc, List.getElem?_append_right (by omega), List.getElem?_append_left (by omega), hto]
    · rw [if_neg h2, List.getElem?_append_right (by simp; omega), List.getElem?_drop]
      congr 1
      simp; omega

section
variable {P : Program} {n : Nat} {w0 w : World} {O : List Nat} {a : Act} {E : Env} {L : Heap} {V : Nat → Value} {own : Nat → List Nat}

theorem clear_zero {T ty e : TypeId} (hu : P.underlying T = some (.slice e)) (w : World) (ad : Option Addr) (c : Nat) : (Builtin.clear_ #[T] ty #[.slice ad 0 c]).run P w = .ok (.tuple #[]) w := by
  cases ad <;> simp [Builtin.clear_, run_underlying hu]

/-- The content of an owned array turns, its value does not. -/
theorem RelV.turn (hR : RelV n w0 O w a E L V own) {w' : World} {r b : Nat} {A A' : Arr} (hA : hget L r = some A) (hb : b ∈ own r) (hk : Kept [b] w w') (ht : A'.t = A.t) (hl : A'.xs.length = A.xs.length)
    (hE : EntC w0 (Good w0 O) w' A' (V r) (own r)) : RelV n w0 O w' a E (hset L r (some A')) V own := by
  have hnot : ∀ s C, hget L s = some C → s ≠ r → ∀ d ∈ own s, d ≠ b := fun s C hs hsr d hd e => by
    subst e
    exact hR.apart s r C A hs hA hsr d hd hb
  have hsplit : ∀ s C, hget (hset L r (some A')) s = some C → (s ≠ r ∧ hget L s = some C) ∨ (s = r ∧ C = A') := by
    intro s C hs
    by_cases hsr : s = r
    · subst hsr; rw [hget_hset_same hA] at hs; cases hs; exact .inr ⟨rfl, rfl⟩
    · exact .inl ⟨hsr, by rwa [hget_hset_other (Ne.symm hsr)] at hs⟩
  refine ⟨hR.glob, ?_, hR.size, hR.defers, ?_, ?_, ?_, ?_, fun i => ?_⟩
  · refine ⟨hk.os.trans hR.kept.os, hk.tape.trans hR.kept.tape, hk.output.trans hR.kept.output, Nat.le_trans hR.kept.size hk.size, fun k hk' hkO => ?_⟩
    rw [hk.block k (Nat.lt_of_lt_of_le hk' hR.kept.size) (by simp; exact fun e => hR.good r A hA b hb (e ▸ ⟨hk', hkO⟩))]
    exact hR.kept.block k hk' hkO
  · intro s C hs
    rcases hsplit s C hs with ⟨e1, e2⟩ | ⟨rfl, rfl⟩
    · exact (hR.heap s C e2).keep fun d hd => hk.block d (hR.own_lt e2 d hd) (by simp [hnot s C e2 e1 d hd])
    · exact hE
  · intro s C hs
    rcases hsplit s C hs with ⟨e1, e2⟩ | ⟨rfl, rfl⟩
    · exact hR.good s C e2
    · exact hR.good s A hA
  · intro s C hs
    rcases hsplit s C hs with ⟨e1, e2⟩ | ⟨rfl, rfl⟩
    · exact hR.nodup s C e2
    · exact hR.nodup s A hA
  · intro s u C D hs hu' hsu
    rcases hsplit s C hs with ⟨e1, e2⟩ | ⟨rfl, rfl⟩
    · rcases hsplit u D hu' with ⟨e3, e4⟩ | ⟨rfl, rfl⟩
      · exact hR.apart s u C D e2 e4 hsu
      · exact hR.apart s u C A e2 hA hsu
    · rcases hsplit u D hu' with ⟨e3, e4⟩ | ⟨rfl, rfl⟩
      · exact hR.apart s u A D hA e4 hsu
      · exact absurd rfl hsu
  · refine repP_agree (hR.env i) fun s hs => ⟨rfl, fun C hC => ?_⟩
    by_cases hsr : s = r
    · subst hsr
      rw [hA] at hC; cases hC
      exact ⟨_, hget_hset_same hA, ht, hl⟩
    · exact ⟨C, by rw [hget_hset_other (Ne.symm hsr)]; exact hC, rfl, rfl⟩

theorem hset_same {L : Heap} {r : Nat} {A : Arr} (h : hget L r = some A) : hset L r (some A) = L := by
  induction L generalizing r with
  | nil => cases h
  | cons b l ih => cases r with
    | zero => simp only [hget] at h; simp [hset, h]
    | succ r => simp only [hget] at h; simp [hset, ih h]

theorem clear_spec {tab : List TI} (hT : TabOk P tab) (hR : RelV n w0 O w a E L V own) {T ty : TypeId} {x : Operand} {L' : Heap} (h : clearA tab L T (opnd E x) = some L') :
    ∃ w', (Builtin.clear_ #[T] ty #[a.eval x]).run P w = .ok (.tuple #[]) w' ∧ RelV n w0 O w' a E L' V own := by
  unfold clearA at h
  split at h
  · rename_i r rg hx
    split at h
    · rename_i A e t by' hA ht
      split at h
      · rename_i hck
        simp only [Bool.and_eq_true, decide_eq_true_eq] at hck
        obtain ⟨hte, hf⟩ := hck
        subst hte
        cases h
        have hS := hT T; rw [ht] at hS
        obtain ⟨_, hu, he, _⟩ := hS
        obtain ⟨A', hA', hve, hs1, hs2, hs3⟩ := hR.atom hx
        rw [hA] at hA'; cases hA'
        have hlen : (clrL rg A.t.dflt A.xs).length = A.xs.length := by
          cases rg with
          | none => simp [clrL]
          | some q =>
            obtain ⟨lo, hi⟩ := q
            simp only [rgLo, rgHi] at hs1 hs2
            simp [clrL]; omega
        have nop : rgHi A.xs.length rg - rgLo rg = 0 → clrL rg A.t.dflt A.xs = A.xs := by
          intro h0
          cases rg with
          | none =>
            simp only [rgLo, rgHi] at h0
            have : A.xs = [] := List.eq_nil_of_length_eq_zero (by omega)
            simp [clrL, this]
          | some q =>
            obtain ⟨lo, hi⟩ := q
            simp only [rgLo, rgHi] at hs1 hs2 h0
            have : lo = hi := by omega
            subst this
            simp [clrL]
        have nothing : ∀ ad c, a.eval x = .slice ad 0 c → rgHi A.xs.length rg - rgLo rg = 0 → ∃ w', (Builtin.clear_ #[T] ty #[a.eval x]).run P w = .ok (.tuple #[]) w' ∧ RelV n w0 O w' a E (hset L r (some ⟨A.t, clrL rg A.t.dflt A.xs, A.bor⟩)) V own := by
          intro ad c hv h0
          refine ⟨w, by rw [hv]; exact clear_zero hu w ad c, ?_⟩
          rw [nop h0, hset_same hA]
          exact hR
        have hent := hR.heap r A hA
        obtain ⟨ocss, obss, horow, hocase⟩ := OwnSl.row hent
        rcases hs3 with ⟨ad, ad', hV, hv, hz⟩ | ⟨b0, off0, m0, cap0, o, c, hV, hv, hle, hcase⟩
        · exact nothing ad' 0 hv (by omega)
        by_cases h00 : rgHi A.xs.length rg - rgLo rg = 0
        · exact nothing _ c (by rw [hv, h00]) h00
        rcases hocase with ⟨_, h1, h2, _⟩ | ⟨b1, off1, cap1, cur, ct, fz, h1, h2, h3, h4, h5, h6, h7, h8⟩
        · have e0 : A.xs.length = 0 := by rw [h2]; rfl
          rw [e0] at hs2 h00; omega
        rw [h1] at hV
        cases hV
        obtain ⟨ho, hcap⟩ := hcase.resolve_right (by omega)
        subst ho
        have hdl : (dcells A.t).length = A.t.size := (dcells_rep default (Good default []) A.t).length
        let k := rgHi A.xs.length rg - rgLo rg
        let zs : List Value := (List.replicate k (dcells A.t)).flatten
        have hzl : zs.length = k * A.t.size := by simp [zs, hdl]
        have hmul : (rgLo rg + k) * A.t.size ≤ cap0 * A.t.size := Nat.mul_le_mul_right _ (by show rgLo rg + (rgHi A.xs.length rg - rgLo rg) ≤ cap0; omega)
        rw [Nat.add_mul] at hmul
        obtain ⟨w', cur', g1, g2, g3, g4, g5⟩ := storeCells_run (P := P) zs w b0 (off0 + rgLo rg * A.t.size) 0 cur ct fz h5 h6.1 (by omega) (by
          intro v hv
          obtain ⟨l, hl, hvl⟩ := List.mem_flatten.1 hv
          rw [(List.mem_replicate.1 hl).2] at hvl
          exact (dcells_rep default (Good default []) A.t).one v hvl)
        rw [Nat.add_zero] at g3
        have hbown : b0 ∈ own r := by rw [h7]; exact List.mem_cons_self ..
        have hcl : cur.toList.length = cur.size := Array.length_toList
        have hcs : cur'.size = cur.size := by
          have := congrArg List.length g3
          rw [splice_length (by omega)] at this
          simpa using this
        -- the new row
        have hrow : ∃ css' bss', Row (entR w0 (Good w0 O) w' A.t A.bor) A.t.size (clrL rg A.t.dflt A.xs) css' bss' ∧ bss'.flatten = [] ∧ css' = ocss.take (rgLo rg) ++ List.replicate k (dcells A.t) ++ ocss.drop (rgHi A.xs.length rg) := by
          obtain ⟨ob, hb1, hb2⟩ := horow.nil (R' := entR w0 (Good w0 O) w' A.t A.bor) (fun y c b hh => entR_flat hf hh)
          have hr := ((hb1.take (rgLo rg)).append (row_replicate (w0 := w0) (w := w') (G := Good w0 O) A.t A.bor k)).append (hb1.drop (rgHi A.xs.length rg))
          refine ⟨_, (ob.take (rgLo rg) ++ List.replicate k []) ++ ob.drop (rgHi A.xs.length rg), ?_, ?_, rfl⟩
          rotate_left
          · rw [List.flatten_eq_nil_iff] at hb2 ⊢
            intro l hl
            rcases List.mem_append.1 hl with hl | hl
            · rcases List.mem_append.1 hl with hl | hl
              · exact hb2 l (List.mem_of_mem_take hl)
              · exact (List.mem_replicate.1 hl).2
            · exact hb2 l (List.mem_of_mem_drop hl)
          · have e : clrL rg A.t.dflt A.xs = A.xs.take (rgLo rg) ++ List.replicate k A.t.dflt ++ A.xs.drop (rgHi A.xs.length rg) := by
              cases rg with
              | none => simp [clrL, k, rgLo, rgHi]
              | some q => rfl
            rw [e]
            exact hr
        obtain ⟨css', bss', hr1, hr2, rfl⟩ := hrow
        have hpre : (ocss.take (rgLo rg)).flatten.length = rgLo rg * A.t.size := by
          rw [(horow.take (rgLo rg)).len.2.2, List.length_take]
          congr 1; omega
        have hpre2 : (ocss.take (rgHi A.xs.length rg)).flatten.length = rgHi A.xs.length rg * A.t.size := by
          rw [(horow.take (rgHi A.xs.length rg)).len.2.2, List.length_take]
          congr 1; omega
        have hsum : rgHi A.xs.length rg * A.t.size = rgLo rg * A.t.size + k * A.t.size := by
          rw [← Nat.add_mul]; congr 1; show _ = rgLo rg + (rgHi A.xs.length rg - rgLo rg); omega
        have hget : ∀ j v, (ocss.take (rgLo rg) ++ List.replicate k (dcells A.t) ++ ocss.drop (rgHi A.xs.length rg)).flatten[j]? = some v → cur'[off0 + j]? = some v := by
          intro j v hj
          rw [← Array.getElem?_toList, g3, get_splice (by omega), hzl]
          rw [List.flatten_append, List.flatten_append] at hj
          have hzz : ((List.replicate k (dcells A.t)).flatten).length = k * A.t.size := hzl
          by_cases j1 : j < rgLo rg * A.t.size
          · rw [if_pos (by omega), Array.getElem?_toList]
            rw [List.append_assoc, List.getElem?_append_left (by omega)] at hj
            refine h8 j v ?_
            rw [← List.take_append_drop (rgLo rg) ocss, List.flatten_append, List.getElem?_append_left (by omega)]
            exact hj
          · rw [if_neg (by omega)]
            by_cases j2 : j < rgLo rg * A.t.size + k * A.t.size
            · rw [if_pos (by omega)]
              rw [List.getElem?_append_left (by rw [List.length_append]; omega), List.getElem?_append_right (by omega), hpre] at hj
              rw [show off0 + j - (off0 + rgLo rg * A.t.size) = j - rgLo rg * A.t.size from by omega]
              exact hj
            · rw [if_neg (by omega), Array.getElem?_toList]
              rw [List.getElem?_append_right (by rw [List.length_append]; omega), List.length_append, hpre, hzz] at hj
              refine h8 j v ?_
              rw [← List.take_append_drop (rgHi A.xs.length rg) ocss, List.flatten_append, List.getElem?_append_right (by omega), hpre2, hsum]
              exact hj
        have hent' := ownSl_of_row hr1 (b := b0) (off := off0) (cap := cap0) (cur := cur') (ty := ct) (fz := fz) (by rw [hlen]; exact hent.1) (by rw [hlen]; exact h2) h3 (by rw [hcs]; exact h4) g2 (by rw [hcs]; exact h6) hget
        have hob : obss.flatten = [] := by
          have hb := (horow.nil (R' := entR w0 (Good w0 O) w' A.t A.bor) (fun y c b hh => entR_flat hf hh))
          rw [List.flatten_eq_nil_iff]
          intro l hl
          obtain ⟨i, hi⟩ := List.getElem?_of_mem hl
          have hlt := (List.getElem?_eq_some_iff.1 hi).1
          obtain ⟨c, _, hh, _⟩ := horow.get i _ l (getD_of_lt A.xs i A.t.dflt (by rw [← horow.len.2.1]; exact hlt)) hi
          revert hh
          unfold entR
          cases A.bor with
          | true => exact fun hh => hh.2
          | false => exact fun hh => (hh.flat (w' := w) (G := fun _ => True) hf).2
        have e7 : own r = [b0] := by rw [h7, hob]
        rw [hr2, hlen, ← h1, ← e7] at hent'
        refine ⟨w', ?_, hR.turn hA hbown g4 rfl hlen hent'⟩
        have hzc : Builtin.zeroCells (valOf A.t (dcells A.t)).cells k = zs.toArray := by
          have hzl2 := zeros_list A.t k (dcells A.t).toArray (fun _ => rfl)
          rw [dcells_cells, ← hzl2]
          simp only [Builtin.zeroCells, List.size_toArray, hdl]
        rw [hv]
        obtain ⟨k', hk'⟩ : ∃ k', k = k' + 1 := ⟨k - 1, by omega⟩
        show (Builtin.clear_ #[T] ty #[.slice (some ⟨b0, off0 + rgLo rg * A.t.size, none⟩) k c]).run P w = _
        rw [hk'] at hzc ⊢
        simp only [Builtin.clear_]
        simp [run_underlying hu, he.zero_run, hzc, g1]
      · cases h
    · cases h
  · cases h
end
end Go.Am

/- The abstract machine, part 17: one operation. -/
namespace Go.Am
set_option linter.unusedVariables false
set_option linter.unusedSimpArgs false

/-- The cells of a flat tree. -/
def fcells : (t : Ty) → t.den → List Value
  | .int k, n => [.int k n]
  | .bool, b => [.bool b]
  | .str, s => [.string s]
  | .sl _, _ => []
  | .unit, _ => []
  | .cons a b, x => fcells a x.1 ++ fcells b x.2

theorem own_fcells {w : World} : ∀ {t : Ty} {x : t.den} {cs : List Value} {bs : List Nat}, t.flat = true → OwnC w t x cs bs → cs = fcells t x
  | .int _, _, _, _, _, h => h.1
  | .bool, _, _, _, _, h => h.1
  | .str, _, _, _, _, h => h.1
  | .unit, _, _, _, _, h => h.1
  | .cons _ _, _, _, _, hf, ⟨c1, c2, b1, b2, h, _, h1, h2⟩ => by
    simp only [Ty.flat, Bool.and_eq_true] at hf
    rw [h, own_fcells hf.1 h1, own_fcells hf.2 h2]
    rfl

def scals : List Dyn → Option (List (Atom × Value))
  | [] => some []
  | d :: r => match d.t.flat, scals r with
    | true, some s => some ((toAtom d.t d.x, valOf d.t (fcells d.t d.x)) :: s)
    | _, _ => none

/-- A call that makes nothing that is kept. -/
def callQ (ext : Ext) (L : Heap) (f : FuncId) (ps : List PV) : Option (List Prop × PV) :=
  match ext with
  | [] => none
  | (g, S) :: r => match Nat.beq f g with
    | true => match decArgs L S.sig ps with
      | some (x, os, us) => match os.flatten, scals (S.res x) with
        | [], some vs => some ([S.pre x], packA (vs.map Prod.fst))
        | _, _ => callQ r L f ps
      | none => callQ r L f ps
    | false => callQ r L f ps

/-- The function that is called, and what it is handed. -/
def calleeA (E : Env) (f : Operand) (args : List Operand) : Option (FuncId × List PV) :=
  match opnd E f with
  | .fn g caps => some (g, args.map (opnd E) ++ caps.map PV.a)
  | _ => none

/-- An operation that is quiet. -/
def opQ (tab : List TI) (ext : Ext) (wr : Bool) (E : Env) (L : Heap) : Op → Option (List Prop × PV)
  | .call { callee := .value f, args, argTypes } => match calleeA E f args.toList with
    | some (g, ps) => callQ ext L g ps
    | none => none
  | .convert s d x => match b2sA tab L s d (opnd E x) with
    | some r => some ([], .a (.val (.string r)))
    | none => absQ tab wr E L (.convert s d x)
  | op => absQ tab wr E L op

/-- Any operation. -/
def opM (tab : List TI) (ext : Ext) (wr : Bool) (E : Env) (L : Heap) : Op → Option (List Prop × PV × Env × Heap)
  | .box T x => match boxA tab T (opnd E x) with
    | some A => some ([], .a (.optr L.length 0 []), E, L ++ [some A])
    | none => none
  | .alloc T => match allocA tab T with
    | some A => some ([], .a (.optr L.length 0 []), E, L ++ [some A])
    | none => none
  | .buildSlice T n parts => match sliceLitA tab T n (parts.toList.map fun p => (p.1, opnd E p.2)) with
    | some A => some ([], .a (.osl L.length none), E, L ++ [some A])
    | none => none
  | .makeSlice T l c => match makeA tab T (opnd E l) (opnd E c) with
    | some (cs, A) => some (cs, .a (.osl L.length none), E, L ++ [some A])
    | none => none
  | .store T x y => match storeA tab L T (opnd E x) (opnd E y) with
    | some L' => some ([], .a .junk, E, L')
    | none => none
  | .call { callee := .value f, args, argTypes } => match calleeA E f args.toList with
    | some (g, ps) => callA ext E L g ps
    | none => none
  | .call { callee := .builtin .append, args, argTypes } => match args.toList, argTypes.toList with
    | [s, x], [T, T2] => appA tab E L T T2 (opnd E s) (opnd E x)
    | _, _ => none
  | .call { callee := .builtin .clear, args, argTypes } => match args.toList, argTypes.toList with
    | [x], [T] => match clearA tab L T (opnd E x) with
      | some L' => some ([], .a .junk, E, L')
      | none => none
    | _, _ => none
  | .convert s d x => match s2bA tab s d (opnd E x) with
    | some A => some ([], .a (.osl L.length none), E, L ++ [some A])
    | none => match opQ tab ext wr E L (.convert s d x) with
      | some (cs, pv) => some (cs, pv, E, L)
      | none => none
  | op => match opQ tab ext wr E L op with
    | some (cs, pv) => some (cs, pv, E, L)
    | none => none

section
variable {P : Program} {n : Nat} {w0 w : World} {O : List Nat} {a : Act} {E : Env} {L : Heap} {V : Nat → Value} {own : Nat → List Nat}

theorem callFunc_run {g : FuncId} (h : Callable P g) (args : Array Value) (w : World) : (callFunc g args).run P w = .ok (.enter g args) w := by
  obtain ⟨fn, h1, h2, h3⟩ := h
  unfold callFunc
  simp only [Sem.run_bind, run_program, Result.andThen_ok, h1, h2, h3, Bool.false_eq_true, if_false, Sem.run_pure]

theorem call_run {g : FuncId} (h : Callable P g) {ρ : Operand → Value} {o : Oper} {f : Operand} {args : Array Operand} {ts : Array TypeId} (ho : o.op = .call { callee := .value f, args, argTypes := ts }) {vs : List Value} (hf : ρ f = .func (.func g) #[] vs.toArray) (w : World) :
    (execOp ρ o).run P w = .ok (.enter g ((args.toList.map ρ) ++ vs).toArray) w := by
  simp only [execOp, ho, resolve, Sem.run_bind, hf, Deferred.ofValue, Sem.run_pure, Result.andThen_ok, invoke]
  rw [callFunc_run h]
  congr 2
  apply Array.toList_inj.1
  simp

theorem calleeA_spec (hR : RelV n w0 O w a E L V own) {f : Operand} {args : List Operand} {g : FuncId} {ps : List PV} (h : calleeA E f args = some (g, ps)) :
    ∃ vs, a.eval f = .func (.func g) #[] vs.toArray ∧ RepPs w0 (Good w0 O) L V ps (args.map a.eval ++ vs) := by
  unfold calleeA at h
  split at h
  · rename_i g' caps hf
    cases h
    have hx := hR.opnd f
    rw [hf] at hx
    obtain ⟨vs, hv, hr⟩ := hx
    exact ⟨vs, hv, repPs_append (hR.opnds args) (repPs_atoms hr)⟩
  · cases h

theorem scals_spec : ∀ {ds : List Dyn} {vs : List (Atom × Value)} {rs : List Value} {rbs : List (List Nat)} {w : World}, scals ds = some vs → ResRep w ds rs rbs → rs = vs.map Prod.snd ∧ RepAs w0 (Good w0 O) L V (vs.map Prod.fst) rs
  | [], vs, rs, rbs, w, h, hr => by cases h; exact ⟨hr.1, hr.1⟩
  | d :: r, vs, rs, rbs, w, h, ⟨v, s, b, bs, cs, h1, h2, h3, h4, h5⟩ => by
    simp only [scals] at h
    split at h
    · rename_i s' hf hs
      cases h
      obtain ⟨e1, e2⟩ := scals_spec hs h5
      subst h1
      have hc := own_fcells hf h3
      have hv : v = valOf d.t (fcells d.t d.x) := by
        rw [← hc]
        obtain ⟨t, x⟩ := d
        cases t <;> simp only [IsVal] at h4 <;> subst h4 <;> rfl
      obtain ⟨ha, _⟩ := own_toAtom (w0 := w0) (L := L) (V := V) hf h3 h4 (Good w0 O)
      exact ⟨by rw [List.map_cons, ← e1, ← hv], ⟨v, s, rfl, ha, e2⟩⟩
    · cases h

theorem ownOf_nil {own : Nat → List Nat} {os : List (List Nat)} (h : os.flatten = []) : (ownOf own os).flatten = [] := by
  rw [ownOf_flatten, h]; rfl

theorem callQ_spec : ∀ {ext : Ext} (hX : ExtOk P ext) (hR : RelV n w0 O w a E L V own) {f : FuncId} {ps : List PV} {vs : List Value} {cs : List Prop} {pv : PV}
    (hps : RepPs w0 (Good w0 O) L V ps vs) (h : callQ ext L f ps = some (cs, pv)) (hc : All cs),
    Callable P f ∧ ∃ v, RepP w0 (Good w0 O) L V pv v ∧ ∀ w', Kept [] w w' → Calls P f vs.toArray w' fun e w'' => e = .returned v ∧ Kept [] w' w''
  | [], _, _, _, _, _, _, _, _, h, _ => by cases h
  | (g, S) :: r, hX, hR, f, ps, vs, cs, pv, hps, h, hc => by
    obtain ⟨⟨hcall, hcon⟩, hX'⟩ := hX
    simp only [callQ] at h
    split at h
    · rename_i hfg
      obtain rfl := Nat.eq_of_beq_eq_true hfg
      split at h
      · rename_i x os us hd
        split at h
        · rename_i vals hos hsc
          cases h
          simp only [All] at hc
          have hall : ∀ w', Kept [] w w' → Calls P f vs.toArray w' fun e w'' => e = .returned (packV (vals.map Prod.snd)) ∧ Kept [] w' w'' ∧ RepAs w0 (Good w0 O) L V (vals.map Prod.fst) (vals.map Prod.snd) := by
            intro w' k
            have hargs := decArgs_rep hR k (H := (ownOf own os).flatten) (by rw [ownOf_nil hos]; simp) hps hd (by rw [ownOf_nil hos]; simp)
            refine (hcon w' x _ _ (hR.gok k (by rw [ownOf_nil hos]; simp)) hc.1 hargs (by rw [ownOf_nil hos]; exact List.nodup_nil)).mono ?_
            rintro e w'' ⟨rs, ubs, rbs, rfl, hk, hrr, _⟩
            obtain ⟨rfl, ho⟩ := scals_spec (w0 := w0) (O := O) (L := L) (V := V) hsc hrr
            rw [ownOf_nil hos] at hk
            exact ⟨rfl, hk, ho⟩
          obtain ⟨_, _, _, ⟨_, _, hok⟩, _⟩ := hall w (Kept.refl _ _) []
          exact ⟨hcall, packV (vals.map Prod.snd), packV_rep hok, fun w' k => (hall w' k).mono fun e w'' hh => ⟨hh.1, hh.2.1⟩⟩
        · exact callQ_spec hX' hR hps h hc
      · exact callQ_spec hX' hR hps h hc
    · exact callQ_spec hX' hR hps h hc

theorem bytesStr_size (xs : List Int) : (bytesStr xs).size = xs.length := by
  have key : ∀ (xs : List Int) (s : ByteArray), (xs.foldl (fun r n => r.push (UInt8.ofNat n.toNat)) s).size = s.size + xs.length := by
    intro xs
    induction xs with
    | nil => intro s; rfl
    | cons x r ih => intro s; simp only [List.foldl_cons, ih, ByteArray.size_push, List.length_cons]; omega
  simpa [bytesStr] using key xs ByteArray.empty

theorem b2s_spec {tab : List TI} (hT : TabOk P tab) (hR : RelV n w0 O w a E L V own) {s d : TypeId} {x : Operand} {r : ByteArray} (h : b2sA tab L s d (opnd E x) = some r) :
    OkV (.string r) ∧ ∀ w', Kept [] w w' → (convert s d (a.eval x)).run P w' = .ok (.string r) w' := by
  unfold b2sA at h
  split at h
  · rename_i A hA
    split at h
    · rename_i e b xs hs hd hdec
      cases h
      have hS := hT s; rw [hs] at hS
      have hD := hT d; rw [hd] at hD
      have hrep := fun w' k => decV_rep hR (w' := w') k (H := []) (by simp) (hR.atom hA) hdec (by simp)
      have hlen := (hrep w (Kept.refl _ _)).1
      refine ⟨?_, fun w' k => ?_⟩
      · show (bytesStr xs).size ≤ maxLen
        rw [bytesStr_size]; exact hlen
      · have hr := hrep w' k
        rcases hr.2 with ⟨ad, e1, e2⟩ | ⟨b', off, cap, e1, e2, e3, e4, e5⟩
        · have : xs = [] := e2
          subst this
          rw [e1, run_convert_bytes_string w' s d e ad 0 0 hS.2.1 hS.2.2.1.int_und hD.str_und]
          cases ad with
          | none => rfl
          | some ad =>
            refine run_bytesToString w' _ _ _ [] ?_
            have := run_loadCells_list (P := P) w' ad [] (fun j v hj => by simp at hj)
            simpa using this
        · rw [e1, run_convert_bytes_string w' s d e _ _ _ hS.2.1 hS.2.2.1.int_und hD.str_und]
          refine run_bytesToString w' _ _ _ xs ?_
          have := run_loadCells_list (P := P) w' ⟨b', off, none⟩ (xs.map (Value.int .u8)) (fun j v hj => by
            rw [List.getElem?_map] at hj
            cases hx : xs[j]? with
            | none => rw [hx] at hj; cases hj
            | some y =>
              rw [hx] at hj
              cases hj
              obtain ⟨cs, g1, g2, g3⟩ := e5 j y hx
              obtain ⟨g3, _⟩ := g3
              subst g3
              have := g2 0 _ rfl
              rw [Addr.add_lit]
              simpa [Ty.size] using this)
          simp only [List.length_map] at this
          exact this
    · cases h
  · cases h

/-- **A quiet operation is sound.** -/
theorem opQ_spec {tab : List TI} {ext : Ext} (hT : TabOk P tab) (hX : ExtOk P ext) (hR : RelV n w0 O w a E L V own) {wr : Bool} {o : Oper} {cs : List Prop} {pv : PV}
    (h : opQ tab ext wr E L o.op = some (cs, pv)) (hc : All cs) :
    ∃ v, RepP w0 (Good w0 O) L V pv v ∧ ∀ w', Kept [] w w' → o.quietAt P a (Kept [] w') w' v := by
  have plain : ∀ {op : Op} (ho : o.op = op), absQ tab wr E L op = some (cs, pv) → ∃ v, RepP w0 (Good w0 O) L V pv v ∧ ∀ w', Kept [] w w' → o.quietAt P a (Kept [] w') w' v := by
    intro op ho h
    rw [← ho] at h
    obtain ⟨v, hv, hr⟩ := absQ_spec hT hR h hc
    refine ⟨v, hv, fun w' k => ?_⟩
    unfold Oper.quietAt
    rw [hr w' k]
    exact ⟨rfl, rfl⟩
  unfold opQ at h
  split at h
  · rename_i f args ts ho
    split at h
    · rename_i g ps hg
      obtain ⟨vs, hv, hps⟩ := calleeA_spec hR hg
      obtain ⟨hcall, v, hrep, hcalls⟩ := callQ_spec hX hR hps h hc
      refine ⟨v, hrep, fun w' k => ?_⟩
      unfold Oper.quietAt
      rw [call_run hcall ho hv]
      exact ⟨rfl, hcalls w' k⟩
    · cases h
  · rename_i s d x ho
    split at h
    · rename_i r hr
      cases h
      obtain ⟨h1, h2⟩ := b2s_spec hT hR hr
      refine ⟨_, ⟨rfl, h1⟩, fun w' k => ?_⟩
      unfold Oper.quietAt
      simp only [execOp, ho]
      rw [run_value _ _ _ _ (h2 w' k)]
      exact ⟨rfl, rfl⟩
    · exact plain ho h
  · exact plain rfl h

theorem s2b_spec {tab : List TI} (hT : TabOk P tab) (hR : RelV n w0 O w a E L V own) {s d : TypeId} {x : Operand} {A : Arr} (h : s2bA tab s d (opnd E x) = some A) :
    ∃ v w' V' own', (convert s d (a.eval x)).run P w = .ok v w' ∧ RelN n w0 O w w' a E L (L ++ [some A]) V V' own own' ∧ RepP w0 (Good w0 O) (L ++ [some A]) V' (.a (.osl L.length none)) v := by
  unfold s2bA at h
  split at h
  · rename_i b hx
    split at h
    · rename_i e by' hs hd
      cases h
      obtain ⟨e1, e2⟩ := hR.valEq hx
      have hS := hT s; rw [hs] at hS
      have hD := hT d; rw [hd] at hD
      have hcapg := grownCap_ge w b.size 0 e
      have hcapm := grownCap_le_maxLen w b.size 0 e e2
      have hrow : ∀ (l : List UInt8) (w1 : World) (bor : Bool), Row (entR w0 (Good w0 O) w1 (.int .u8) bor) (Ty.int IntKind.u8).size (l.map fun b => (b.toNat : Int)) (l.map fun b => [.int .u8 (b.toNat : Int)]) (l.map fun _ => []) := by
        intro l w1 bor
        induction l with
        | nil => exact ⟨rfl, rfl⟩
        | cons b l ih =>
          refine ⟨_, _, _, _, rfl, rfl, rfl, ?_, ih⟩
          refine repC_ent (w := w1) (G := fun _ => True) (t := .int .u8) (x := (b.toNat : Int)) (cs := [.int .u8 (b.toNat : Int)]) ⟨rfl, ?_⟩ rfl bor _ _
          have hb := b.toNat_lt
          simp [InR, IntKind.min, IntKind.max, IntKind.bits, IntKind.signed]; omega
      let cells : Array Value := (b.data.map fun x => .int .u8 x.toNat) ++ Array.replicate (grownCap w b.size 0 e - b.size) (.int .u8 0)
      have hcs : cells.size = grownCap w b.size 0 e := by
        simp only [cells, Array.size_append, Array.size_map, Array.size_replicate]
        have : b.data.size = b.size := rfl
        omega
      let w2 : World := (w.drew.alloc (.cells cells e)).freeze ⟨w.heap.size, cells.size, none⟩ 1
      have hk : Kept [] w w2 := by
        refine ⟨rfl, rfl, rfl, by simp [w2, World.freeze], fun k hk _ => ?_⟩
        have h1 : (w.drew.alloc (.cells cells e)).heap[k]? = w.heap[k]? := Go.RowKit.Below.heap_alloc w.drew _ k hk
        simp only [w2, World.freeze, Nat.one_ne_zero, if_false, Array.getElem?_modify]
        rw [if_neg (by omega)]
        exact h1
      have hb2 : w2.heap[w.heap.size]? = some (.cells cells e (cells.size, cells.size + 1)) := by
        have h1 := heap_new w.drew (.cells cells e)
        have hsz : w.drew.heap.size = w.heap.size := rfl
        rw [hsz] at h1
        have hlt : w.heap.size < (w.drew.alloc (.cells cells e)).heap.size := by simp [World.alloc, hsz]
        have h2 : (w.drew.alloc (.cells cells e)).heap[w.heap.size] = .cells cells e := by
          rw [Array.getElem?_eq_getElem hlt] at h1; exact Option.some.inj h1
        simp only [w2, World.freeze, Nat.one_ne_zero, if_false, Array.getElem?_modify, if_pos, h1]
        simp
      have hent := ownSl_of_row (hrow b.data.toList w2 false) (b := w.heap.size) (off := 0) (cap := grownCap w b.size 0 e) (cur := cells) (ty := e) (fz := (cells.size, cells.size + 1)) (by rw [List.length_map]; exact e2) (by rw [List.length_map]; exact hcapg) hcapm (by rw [hcs, Nat.zero_add, show (Ty.int IntKind.u8).size = 1 from rfl, Nat.mul_one]; exact Nat.le_refl _) hb2 ⟨free_of _, .inl rfl⟩ (fun j c hj => by
        have hfl : ∀ l : List UInt8, (l.map fun b => [Value.int .u8 (b.toNat : Int)]).flatten = l.map fun b => Value.int .u8 (b.toNat : Int) := by
          intro l
          induction l with
          | nil => rfl
          | cons x l ih => simp only [List.map_cons, List.flatten_cons, ih]; rfl
        rw [hfl] at hj
        have hlt := (List.getElem?_eq_some_iff.1 hj).1
        rw [Nat.zero_add, ← Array.getElem?_toList]
        simp only [cells, Array.toList_append, Array.toList_map]
        rw [List.getElem?_append_left hlt]
        exact hj)
      have hnil : ((b.data.toList.map fun _ => ([] : List Nat))).flatten = [] := by simp
      rw [hnil] at hent
      have hent' : EntC w0 (Good w0 O) w2 ⟨.int .u8, bytesOf b, false⟩ (.slice (some ⟨w.heap.size, 0, none⟩) (bytesOf b).length (grownCap w b.size 0 e)) [w.heap.size] := hent
      refine ⟨_, _, _, _, ?_, hR.freshN hk hent' (by simp) (by simp), repA_new (w0 := w0) (G := Good w0 O) (u := w0) (G' := Good w0 O) hent'⟩
      have hlen : (bytesOf b).length = b.size := by simp [bytesOf]
      rw [e1, hlen]
      have hsz : w.drew.heap.size = w.heap.size := rfl
      have hsh : (w.drew.alloc (.cells cells e)).shape? w.heap.size = some (e, cells.size) := by
        have h1 := heap_new w.drew (.cells cells e)
        rw [hsz] at h1
        simp only [World.shape?, h1]
      have hforced : (Question.appendCap b.size 0 e).forced = false := rfl
      have hgc : (Question.appendCap b.size 0 e).cut (w.tape w.drawn (.appendCap b.size 0 e)) = grownCap w b.size 0 e := rfl
      have hdr : ({ w with drawn := w.drawn + 1 } : World) = w.drew := rfl
      unfold convert
      simp only [Sem.run_bind, run_underlying hS.str_und, run_underlying hD.2.1, Result.andThen_ok, run_underlying hD.2.2.1.int_und]
      unfold Conv.stringToBytes
      simp only [Sem.run_bind, run_choose, hforced, Bool.false_eq_true, if_false, Result.andThen_ok, hgc, hdr, newRow, run_newObj, Sem.run_pure]
      show ((markStringish ⟨w.drew.heap.size, 0, none⟩).run P (w.drew.alloc (.cells cells e))).andThen _ = _
      unfold markStringish
      rw [hsz]
      simp only [Sem.run_bind, run_shape, hsh, Result.andThen_ok, run_freeze]
      rfl
    · cases h
  · cases h
end
end Go.Am

/- The abstract machine, part 18: regions and code without loops. -/
namespace Go.Am
set_option linter.unusedVariables false
set_option linter.unusedSimpArgs false

section
variable {P : Program} {n : Nat} {w0 w : World} {O : List Nat} {a : Act} {E : Env} {L : Heap} {V : Nat → Value} {own : Nat → List Nat}

theorem wp_of_value {o : Oper} {next : Act → World → Prop} {Q : Exit → Act → World → Prop} {v : Value} {w w' : World} (h : (execOp a.eval o).run P w = .ok (.value v) w') (hn : next (a.put o.dst v) w') : o.wp P a w next Q := by
  unfold Oper.wp
  rw [h]
  exact hn

theorem wp_of_quietAt (hR : RelV n w0 O w a E L V own) {o : Oper} {next : Act → World → Prop} {Q : Exit → Act → World → Prop} {v : Value} (h : o.quietAt P a (Kept [] w) w v)
    (hn : ∀ w', RelV n w0 O w' a E L V own → next (a.put o.dst v) w') : o.wp P a w next Q := by
  unfold Oper.quietAt at h
  unfold Oper.wp
  generalize (execOp a.eval o).run P w = r at *
  cases r with
  | ok nx w' =>
    cases nx <;> simp only [Oper.quietUpon] at h <;> simp only [Oper.upon]
    case value u => obtain ⟨rfl, rfl⟩ := h; exact hn _ hR
    case skip => obtain ⟨rfl, rfl⟩ := h; exact hn _ hR
    case enter f args =>
      obtain ⟨rfl, hc⟩ := h
      refine hc.mono ?_
      rintro e w'' ⟨rfl, hk⟩
      exact hn _ (hR.ext hk)
  | halt x w' => simp only [Oper.quietUpon] at h

/-- **An operation is sound.** -/
theorem opM_spec {tab : List TI} {ext : Ext} (hT : TabOk P tab) (hX : ExtOk P ext) (hR : RelV n w0 O w a E L V own) {wr : Bool} {o : Oper} {cs : List Prop} {pv : PV} {E' : Env} {L' : Heap}
    (h : opM tab ext wr E L o.op = some (cs, pv, E', L')) (hc : All cs) {next : Act → World → Prop} {Q : Exit → Act → World → Prop}
    (hn : ∀ v w' V' own', RelV n w0 O w' a E' L' V' own' → RepP w0 (Good w0 O) L' V' pv v → next (a.put o.dst v) w') : o.wp P a w next Q := by
  have quiet : ∀ {op : Op} (ho : o.op = op) {r : Option (List Prop × PV × Env × Heap)}, (match opQ tab ext wr E L op with | some (cs, pv) => some (cs, pv, E, L) | none => none) = some (cs, pv, E', L') → o.wp P a w next Q := by
    intro op ho r h
    split at h
    · rename_i cs1 pv1 hq
      cases h
      rw [← ho] at hq
      obtain ⟨v, hv, hqa⟩ := opQ_spec hT hX hR hq hc
      exact wp_of_quietAt hR (hqa w (Kept.refl _ _)) fun w' hR' => hn v w' V own hR' hv
    · cases h
  unfold opM at h
  split at h
  · rename_i T x ho
    split at h
    · rename_i A hA
      cases h
      obtain ⟨v, w', V', own', h1, h2, h3⟩ := box_spec hT hR hA
      exact wp_of_value (w' := w') (by simp only [execOp, ho]; exact run_value _ _ _ _ h1) (hn _ _ _ _ h2.1 h3)
    · cases h
  · rename_i T ho
    split at h
    · rename_i A hA
      cases h
      obtain ⟨v, w', V', own', h1, h2, h3⟩ := alloc_spec hT hR hA
      exact wp_of_value (w' := w') (by simp only [execOp, ho]; exact run_value _ _ _ _ h1) (hn _ _ _ _ h2.1 h3)
    · cases h
  · rename_i T k parts ho
    split at h
    · rename_i A hA
      cases h
      obtain ⟨v, w', V', own', h1, h2, h3⟩ := sliceLit_spec hT hR hA
      exact wp_of_value (w' := w') (by simp only [execOp, ho]; exact run_value _ _ _ _ h1) (hn _ _ _ _ h2.1 h3)
    · cases h
  · rename_i T l c ho
    split at h
    · rename_i cs1 A hA
      cases h
      obtain ⟨v, w', V', own', h1, h2, h3⟩ := make_spec hT hR hA hc
      exact wp_of_value (w' := w') (by simp only [execOp, ho]; exact run_value _ _ _ _ h1) (hn _ _ _ _ h2.1 h3)
    · cases h
  · rename_i T x y ho
    split at h
    · rename_i L1 hL
      cases h
      obtain ⟨w', h1, h2⟩ := store_spec hT hR hL
      unfold Oper.wp
      have : (execOp a.eval o).run P w = .ok .skip w' := by simp [execOp, ho, h1]
      rw [this]
      exact hn _ _ _ _ h2 trivial
    · cases h
  · rename_i f args ts ho
    split at h
    · rename_i g ps hg
      obtain ⟨vs, hv, hps⟩ := calleeA_spec hR hg
      obtain ⟨hcall, hcalls⟩ := callA_spec hX hR hps h hc
      unfold Oper.wp
      rw [call_run hcall ho hv]
      refine hcalls.mono ?_
      rintro e w' ⟨v, V', own', rfl, h1, h2⟩
      exact hn _ _ _ _ h1 h2
    · cases h
  · rename_i args ts ho
    split at h
    · rename_i s x T T2 hargs hts
      obtain ⟨v, w', V', own', h1, h2, h3⟩ := append_spec (ty := o.type) hT hR h hc
      refine wp_of_value (w' := w') ?_ (hn _ _ _ _ h2 h3)
      have ea : args = #[s, x] := by cases args; simp_all
      have et : ts = #[T, T2] := by cases ts; simp_all
      subst ea et
      simp only [execOp, ho, resolve, Sem.run_bind, Sem.run_pure, Result.andThen_ok, invoke]
      have : (builtin .append #[T, T2] o.type (#[s, x].map fun | .const _ => true | _ => false) (#[s, x].map a.eval)).run P w = .ok (.value v) w' := by
        simp only [builtin]
        refine run_value _ _ _ _ ?_
        simpa using h1
      exact this
    · cases h
  · rename_i args ts ho
    split at h
    · rename_i x T hargs hts
      split at h
      · rename_i L1 hL
        cases h
        obtain ⟨w', h1, h2⟩ := clear_spec (ty := o.type) hT hR hL
        refine wp_of_value (v := .tuple #[]) (w' := w') ?_ (hn _ _ _ _ h2 trivial)
        have ea : args = #[x] := by cases args; simp_all
        have et : ts = #[T] := by cases ts; simp_all
        subst ea et
        simp only [execOp, ho, resolve, Sem.run_bind, Sem.run_pure, Result.andThen_ok, invoke]
        have : (builtin .clear #[T] o.type (#[x].map fun | .const _ => true | _ => false) (#[x].map a.eval)).run P w = .ok (.value (.tuple #[])) w' := by
          simp only [builtin]
          refine run_value _ _ _ _ ?_
          simpa using h1
        exact this
      · cases h
    · cases h
  · rename_i s d x ho
    split at h
    · rename_i A hA
      cases h
      obtain ⟨v, w', V', own', h1, h2, h3⟩ := s2b_spec hT hR hA
      exact wp_of_value (w' := w') (by simp only [execOp, ho]; exact run_value _ _ _ _ h1) (hn _ _ _ _ h2.1 h3)
    · exact quiet (r := none) ho h
  · exact quiet (r := none) rfl h
end

/-! ### The state of the evaluator -/

structure St where
  path : List Bool
  dec : List (Nat × Bool)
  E : Env
  L : Heap
  cs : List Prop
  /-- slots that nobody writes -/
  pins : List Nat

def nthO : List Oper → Nat → Option Oper
  | [], _ => none
  | o :: _, 0 => some o
  | _ :: r, n + 1 => nthO r n

def lookB : List (Nat × Bool) → Nat → Option Bool
  | [], _ => none
  | (t, d) :: r, n => match Nat.beq t n with | true => some d | false => lookB r n

def dropB (t : Nat) : List (Nat × Bool) → List (Nat × Bool)
  | [] => []
  | (s, d) :: r => match Nat.beq s t with | true => dropB t r | false => (s, d) :: dropB t r

def eqBB : Bool → Bool → Bool
  | true, b => b
  | false, b => !b

/-- A test: what the path says. -/
def decideS (S : St) (t : Nat) : Option (Bool × St) :=
  match lookB S.dec t with
  | some d => some (d, S)
  | none => match S.E.get t, S.path with
    | .a (.val (.bool b)), d :: p => some (d, ⟨p, (t, d) :: S.dec, S.E, S.L, S.cs ++ [b = d], S.pins⟩)
    | _, _ => none

def guardS (all : List Oper) (S : St) : Option (Nat × Bool) → Option (Bool × St)
  | none => some (true, S)
  | some (j, want) => match nthO all j with
    | some o => match o.dst with
      | some t => match S.E.get t with
        | .a (.val (.tuple _)) => some (false, S)
        | _ => match decideS S t with
          | some (d, S') => some (eqBB d want, S')
          | none => none
      | none => none
    | none => none

def putS (n : Nat) (S : St) (E : Env) (L : Heap) (cs : List Prop) : Option Nat → PV → Option St
  | none, _ => some ⟨S.path, S.dec, E, L, S.cs ++ cs, S.pins⟩
  | some d, pv => match Nat.blt d n && !memB d S.pins with
    | true => some ⟨S.path, dropB d S.dec, E.set d pv, L, S.cs ++ cs, S.pins⟩
    | false => none

/-- One operation of a region. -/
def stepO (tab : List TI) (ext : Ext) (wr : Bool) (n : Nat) (quiet : Bool) (all : List Oper) (S : St) (o : Oper) : Option St :=
  match guardS all S o.guard with
  | none => none
  | some (false, S) => putS n S S.E S.L [] o.dst (.a (.val undef))
  | some (true, S) => match o.op with
    | .pick (.tmp c) x y => match decideS S c with
      | some (d, S) => putS n S S.E S.L [] o.dst (cond d (opnd S.E x) (opnd S.E y))
      | none => none
    | op => match quiet with
      | true => match opQ tab ext wr S.E S.L op with
        | some (cs, pv) => putS n S S.E S.L cs o.dst pv
        | none => none
      | false => match opM tab ext wr S.E S.L op with
        | some (cs, pv, E, L) => putS n S E L cs o.dst pv
        | none => none

def stepsO (tab : List TI) (ext : Ext) (wr : Bool) (n : Nat) (quiet : Bool) (all : List Oper) : List Oper → St → Option St
  | [], S => some S
  | o :: r, S => match stepO tab ext wr n quiet all S o with
    | some S' => stepsO tab ext wr n quiet all r S'
    | none => none

section
variable {P : Program} {n : Nat} {w0 w : World} {O : List Nat} {a : Act} {E : Env} {L : Heap} {V : Nat → Value} {own : Nat → List Nat}

theorem nthO_eq : ∀ (l : List Oper) (j : Nat), nthO l j = l[j]?
  | [], j => rfl
  | o :: r, 0 => rfl
  | o :: r, j + 1 => by simp [nthO, nthO_eq r j]

def DecOk (q : Nat → Value) (a : Act) (S : St) : Prop := (∀ t d, lookB S.dec t = some d → a.tmps.getD t undef = .bool d) ∧ ∀ t ∈ S.pins, a.tmps.getD t undef = q t

theorem lookB_drop : ∀ (dec : List (Nat × Bool)) (s t : Nat), lookB (dropB s dec) t = if s = t then none else lookB dec t
  | [], s, t => by simp [dropB, lookB]
  | (u, d) :: r, s, t => by
    simp only [dropB]
    cases h : Nat.beq u s with
    | true =>
      obtain rfl := Nat.eq_of_beq_eq_true h
      rw [lookB_drop r u t]
      by_cases ht : u = t
      · simp [ht]
      · simp only [if_neg ht, lookB, nbeq_false ht]
    | false =>
      have hne : u ≠ s := fun e => by subst e; simp at h
      simp only [lookB, lookB_drop r s t]
      cases ht : Nat.beq u t with
      | true =>
        obtain rfl := Nat.eq_of_beq_eq_true ht
        simp only [ht, if_neg (Ne.symm hne)]
      | false => rfl

theorem DecOk.put {q : Nat → Value} {S S' : St} (h : DecOk q a S) (d : Nat) (v : Value) (hp : d ∉ S.pins) (e1 : S'.dec = dropB d S.dec) (e2 : S'.pins = S.pins) : DecOk q (a.put (some d) v) S' := by
  have other : ∀ t, d ≠ t → (a.put (some d) v).tmps.getD t undef = a.tmps.getD t undef := fun t hne => by
    simp only [Act.put]
    simp [Array.getD_eq_getD_getElem?, Array.getElem?_setIfInBounds_ne hne]
  constructor
  · intro t b hb
    rw [e1, lookB_drop] at hb
    split at hb
    · cases hb
    · rename_i hne
      rw [other t hne]
      exact h.1 t b hb
  · intro t ht
    rw [e2] at ht
    rw [other t (fun e => hp (by rw [e]; exact ht))]
    exact h.2 t ht

theorem decideS_spec {q : Nat → Value} {S S' : St} {t : Nat} {d : Bool} (hR : RelV n w0 O w a S.E S.L V own) (hd : DecOk q a S) (h : decideS S t = some (d, S')) (hc : All S'.cs) :
    a.tmps.getD t undef = .bool d ∧ S'.E = S.E ∧ S'.L = S.L ∧ DecOk q a S' ∧ All S.cs := by
  unfold decideS at h
  split at h
  · rename_i d' hl
    cases h
    exact ⟨hd.1 _ _ hl, rfl, rfl, hd, hc⟩
  · split at h
    · rename_i b d' p hg hp
      cases h
      obtain ⟨h1, h2⟩ := All.append.1 hc
      have hv := hR.valEq (x := .tmp t) (v := .bool b) (by simp only [opnd]; rw [hg])
      have hb : b = d := h2.1
      subst hb
      refine ⟨hv.1, rfl, rfl, ⟨?_, hd.2⟩, h1⟩
      intro s c hs
      simp only [lookB] at hs
      split at hs
      · rename_i hst
        obtain rfl := Nat.eq_of_beq_eq_true hst
        cases hs
        exact hv.1
      · exact hd.1 s c hs
    · cases h
end
end Go.Am

/- The abstract machine, part 27: operations that leave memory alone but for new blocks, and regions whose order is drawn. -/
namespace Go.Am
set_option linter.unusedVariables false
set_option linter.unusedSimpArgs false

/-- The call of a function that takes nothing over. -/
def callK (ext : Ext) (L : Heap) (f : FuncId) (ps : List PV) : Option (List Prop × PV × Heap) :=
  match ext with
  | [] => none
  | (g, S) :: r => match Nat.beq f g with
    | true => match decArgs L S.sig ps with
      | some (x, os, us) => match os.flatten, resA L.length (S.res x) with
        | [], some (ats, es) => some ([S.pre x], packA ats, L ++ es)
        | _, _ => callK r L f ps
      | none => callK r L f ps
    | false => callK r L f ps

/-- An operation that writes nothing that was there. -/
def opK (tab : List TI) (ext : Ext) (E : Env) (L : Heap) : Op → Option (List Prop × PV × Heap)
  | .box T x => match boxA tab T (opnd E x) with
    | some A => some ([], .a (.optr L.length 0 []), L ++ [some A])
    | none => none
  | .alloc T => match allocA tab T with
    | some A => some ([], .a (.optr L.length 0 []), L ++ [some A])
    | none => none
  | .buildSlice T n parts => match sliceLitA tab T n (parts.toList.map fun p => (p.1, opnd E p.2)) with
    | some A => some ([], .a (.osl L.length none), L ++ [some A])
    | none => none
  | .makeSlice T l c => match makeA tab T (opnd E l) (opnd E c) with
    | some (cs, A) => some (cs, .a (.osl L.length none), L ++ [some A])
    | none => none
  | .call { callee := .value f, args, argTypes } => match calleeA E f args.toList with
    | some (g, ps) => callK ext L g ps
    | none => none
  | .convert s d x => match s2bA tab s d (opnd E x) with
    | some A => some ([], .a (.osl L.length none), L ++ [some A])
    | none => none
  | _ => none

section
variable {P : Program} {n : Nat} {w0 w : World} {O : List Nat} {a : Act} {E : Env} {L : Heap} {V : Nat → Value} {own : Nat → List Nat}

theorem callK_spec : ∀ {ext : Ext} (hX : ExtOk P ext) (hR : RelV n w0 O w a E L V own) {f : FuncId} {ps : List PV} {vs : List Value} {cs : List Prop} {pv : PV} {L' : Heap}
    (hps : RepPs w0 (Good w0 O) L V ps vs) (h : callK ext L f ps = some (cs, pv, L')) (hc : All cs),
    Callable P f ∧ Calls P f vs.toArray w fun e w' => ∃ v V' own', e = .returned v ∧ Kept [] w w' ∧ RelV n w0 O w' a E L' V' own' ∧ RepP w0 (Good w0 O) L' V' pv v
  | [], _, _, _, _, _, _, _, _, _, h, _ => by cases h
  | (g, S) :: r, hX, hR, f, ps, vs, cs, pv, L', hps, h, hc => by
    obtain ⟨⟨hcall, hcon⟩, hX'⟩ := hX
    simp only [callK] at h
    split at h
    · rename_i hfg
      obtain rfl := Nat.eq_of_beq_eq_true hfg
      split at h
      · rename_i x os us hd
        split at h
        · rename_i ats es hos hres
          cases h
          obtain ⟨hpre, _⟩ := hc
          have hargs := decArgs_rep hR (Kept.refl [] w) (H := (ownOf own os).flatten) (by rw [ownOf_nil hos]; simp) hps hd (by rw [ownOf_nil hos]; simp)
          refine ⟨hcall, (hcon w x _ _ (hR.gok (Kept.refl _ _) (by rw [ownOf_nil hos]; simp)) hpre hargs (by rw [ownOf_nil hos]; exact List.nodup_nil)).mono ?_⟩
          rintro e w' ⟨rs, ubs, rbs, rfl, hk, hrr, hur, hnn, hgg⟩
          rw [ownOf_nil hos] at hk hgg
          rw [List.nodup_append] at hnn
          have hnew : ∀ b ∈ rbs.flatten, w.heap.size ≤ b := fun b hb => by
            have h1 := hgg b (List.mem_append_right _ hb)
            rcases Nat.lt_or_ge b w.heap.size with hlt | hge
            · exact absurd ⟨hlt, by simp⟩ h1
            · exact hge
          obtain ⟨V', own', h4, h5, h6, h7, _⟩ := res_spec (hR.ext hk) hres hrr hnn.2.1 (fun b hb hg => by have := hnew b hb; have := hg.1; have := hR.kept.size; omega) (fun r A hA b hb hm => by have := hnew b hm; have := hR.own_lt hA b hb; omega)
          exact ⟨_, V', own', rfl, hk, h4, packV_rep h5⟩
        · exact callK_spec hX' hR hps h hc
      · exact callK_spec hX' hR hps h hc
    · exact callK_spec hX' hR hps h hc

/-- **Such an operation is sound.** -/
theorem opK_spec {tab : List TI} {ext : Ext} (hT : TabOk P tab) (hX : ExtOk P ext) (hR : RelV n w0 O w a E L V own) {o : Oper} {cs : List Prop} {pv : PV} {L' : Heap}
    (h : opK tab ext E L o.op = some (cs, pv, L')) (hc : All cs) {next : Act → World → Prop} {Q : Exit → Act → World → Prop}
    (hn : ∀ v w' V' own', Kept [] w w' → RelV n w0 O w' a E L' V' own' → RepP w0 (Good w0 O) L' V' pv v → next (a.put o.dst v) w') : o.wp P a w next Q := by
  unfold opK at h
  split at h
  · rename_i T x ho
    split at h
    · rename_i A hA
      cases h
      obtain ⟨v, w', V', own', h1, h2, h3⟩ := box_spec hT hR hA
      exact wp_of_value (w' := w') (by simp only [execOp, ho]; exact run_value _ _ _ _ h1) (hn _ _ _ _ h2.2.kept h2.1 h3)
    · cases h
  · rename_i T ho
    split at h
    · rename_i A hA
      cases h
      obtain ⟨v, w', V', own', h1, h2, h3⟩ := alloc_spec hT hR hA
      exact wp_of_value (w' := w') (by simp only [execOp, ho]; exact run_value _ _ _ _ h1) (hn _ _ _ _ h2.2.kept h2.1 h3)
    · cases h
  · rename_i T k parts ho
    split at h
    · rename_i A hA
      cases h
      obtain ⟨v, w', V', own', h1, h2, h3⟩ := sliceLit_spec hT hR hA
      exact wp_of_value (w' := w') (by simp only [execOp, ho]; exact run_value _ _ _ _ h1) (hn _ _ _ _ h2.2.kept h2.1 h3)
    · cases h
  · rename_i T l c ho
    split at h
    · rename_i cs1 A hA
      cases h
      obtain ⟨v, w', V', own', h1, h2, h3⟩ := make_spec hT hR hA hc
      exact wp_of_value (w' := w') (by simp only [execOp, ho]; exact run_value _ _ _ _ h1) (hn _ _ _ _ h2.2.kept h2.1 h3)
    · cases h
  · rename_i f args ts ho
    split at h
    · rename_i g ps hg
      obtain ⟨vs, hv, hps⟩ := calleeA_spec hR hg
      obtain ⟨hcall, hcalls⟩ := callK_spec hX hR hps h hc
      unfold Oper.wp
      rw [call_run hcall ho hv]
      refine hcalls.mono ?_
      rintro e w' ⟨v, V', own', rfl, h0, h1, h2⟩
      exact hn _ _ _ _ h0 h1 h2
    · cases h
  · rename_i s d x ho
    split at h
    · rename_i A hA
      cases h
      obtain ⟨v, w', V', own', h1, h2, h3⟩ := s2b_spec hT hR hA
      exact wp_of_value (w' := w') (by simp only [execOp, ho]; exact run_value _ _ _ _ h1) (hn _ _ _ _ h2.2.kept h2.1 h3)
    · cases h
  · cases h
end

/-! ### Orders -/

/-- What must be done ahead of the operations js. -/
def ancs (ops : Array Oper) : Nat → List Nat → List Nat
  | 0, _ => []
  | m + 1, js =>
    let d := js.flatMap fun j => match ops[j]? with
      | some o => (o.after.toList.filter fun e => Region.binds .any e).map fun e => e.on
      | none => []
    d ++ ancs ops m d

/-- All that is listed must be done ahead of i. -/
def barB (ops : Array Oper) (listed : Array Bool) (i : Nat) : Bool :=
  (List.range ops.size).all fun k => !listed.getD k true || memB k (ancs ops ops.size [i])

/-- What is listed is closed. -/
def Down (ops : Array Oper) (listed : Array Bool) : Prop :=
  ∀ k o, listed.getD k false = true → ops[k]? = some o → ∀ e ∈ o.after, Region.binds .any e = true → listed.getD e.on false = true

section
variable {P : Program} {ops : Array Oper} {Q : Exit → Act → World → Prop}

theorem Down.start (ops : Array Oper) (m : Nat) : Down ops (Array.replicate m false) := fun k o h => by
  exfalso
  rw [Array.getD_eq_getD_getElem?, Array.getElem?_replicate] at h
  split at h <;> simp at h

theorem Down.set {listed : Array Bool} (h : Down ops listed) {i : Nat} (hi : i ∈ Region.ready .any ops listed) : Down ops (listed.setIfInBounds i true) := by
  intro k o hk ho e he hb
  by_cases hki : i = k
  · subst hki
    obtain ⟨_, o', ho', hall⟩ := mem_ready.1 hi
    rw [ho] at ho'
    cases ho'
    exact getD_set_true (hall e he hb)
  · rw [getD_set_ne false hki] at hk
    exact getD_set_true (h k o hk ho e he hb)

theorem mem_ancs {listed : Array Bool} (hD : Down ops listed) : ∀ {m : Nat} {js : List Nat}, (∀ j ∈ js, ∀ o, ops[j]? = some o → ∀ e ∈ o.after, Region.binds .any e = true → listed.getD e.on false = true) →
    ∀ k ∈ ancs ops m js, listed.getD k false = true
  | 0, _, _, k, hk => by cases hk
  | m + 1, js, h, k, hk => by
    simp only [ancs] at hk
    have hd : ∀ k ∈ (js.flatMap fun j => match ops[j]? with
        | some o => (o.after.toList.filter fun e => Region.binds .any e).map fun e => e.on
        | none => []), listed.getD k false = true := by
      intro k hk
      obtain ⟨j, hj, hk⟩ := List.mem_flatMap.1 hk
      split at hk
      · rename_i o ho
        obtain ⟨e, he, rfl⟩ := List.mem_map.1 hk
        obtain ⟨he, hb⟩ := List.mem_filter.1 he
        exact h j hj o ho e (by simpa using he) hb
      · cases hk
    rcases List.mem_append.1 hk with hk | hk
    · exact hd k hk
    · exact mem_ancs hD (fun j hj o ho e he hb => hD j o (hd j hj) ho e he hb) k hk

/-- Whatever comes up from here on, in whatever world above this one. -/
def wpAnyK (P : Program) (ops : Array Oper) (Q : Exit → Act → World → Prop) : Nat → Array Bool → Act → World → Prop
  | 0, listed, a, w => ∀ w1, Kept [] w w1 → Region.ready .any ops listed = [] ∧ Q .normal a w1
  | fuel + 1, listed, a, w => ∀ w1, Kept [] w w1 → (Region.ready .any ops listed = [] → Q .normal a w1) ∧
    ∀ i ∈ Region.ready .any ops listed, wpOp P ops Q i (fun a' w' => (barB ops listed i = true ∨ Kept [] w1 w') ∧ wpAnyK P ops Q fuel (listed.setIfInBounds i true) a' w') a w1

theorem wpAnyK.up : ∀ {fuel : Nat} {listed : Array Bool} {a : Act} {w w1 : World}, wpAnyK P ops Q fuel listed a w → Kept [] w w1 → wpAnyK P ops Q fuel listed a w1
  | 0, _, _, _, _, h, k => fun w2 k2 => h w2 (k.trans k2)
  | _ + 1, _, _, _, _, h, k => fun w2 k2 => h w2 (k.trans k2)

theorem wpAny_of_K : ∀ (fuel : Nat) (listed : Array Bool) (a : Act) (w : World), wpAnyK P ops Q fuel listed a w → wpAny P .any ops Q fuel listed a w
  | 0, _, _, w, h => h w (Kept.refl _ _)
  | fuel + 1, _, _, w, h => ⟨(h w (Kept.refl _ _)).1, fun i hi => wpOp_mono (fun a' w' h' => wpAny_of_K fuel _ a' w' h'.2) ((h w (Kept.refl _ _)).2 i hi)⟩

/-- In every world above w the operation yields v, and keeps what was there. -/
def YieldsK (P : Program) (ops : Array Oper) (o : Oper) (v : Value) (a : Act) (w : World) : Prop :=
  (Region.wanted o (yielded ops a.tmps) = true ∧ ∀ w', Kept [] w w' → o.quietAt P a (Kept [] w') w' v) ∨
  (Region.wanted o (yielded ops a.tmps) = false ∧ v = undef)

theorem YieldsK.up {o : Oper} {v : Value} {a : Act} {w w1 : World} (h : YieldsK P ops o v a w) (k : Kept [] w w1) : YieldsK P ops o v a w1 :=
  h.imp (fun ⟨h1, h2⟩ => ⟨h1, fun w' k' => h2 w' (k.trans k')⟩) id

theorem YieldsK.of_same {o : Oper} {v : Value} {a a' : Act} {w : World} (hy : YieldsK P ops o v a w) (he : execOp a'.eval o = execOp a.eval o)
    (hw : Region.wanted o (yielded ops a'.tmps) = Region.wanted o (yielded ops a.tmps)) : YieldsK P ops o v a' w := by
  unfold YieldsK Oper.quietAt at *
  rw [he, hw]
  exact hy

theorem YieldsK.wpOp {i : Nat} {o : Oper} {v : Value} {a : Act} {w : World} (hi : ops[i]? = some o) (hy : YieldsK P ops o v a w)
    {K : Act → World → Prop} (h : ∀ w', Kept [] w w' → K (a.put o.dst v) w') : wpOp P ops Q i K a w := by
  unfold Go.wpOp
  simp only [hi]
  rcases hy with ⟨hw, hv⟩ | ⟨hw, rfl⟩
  · simp only [hw, if_true]
    refine .inl (Oper.wp_of_quiet (C := Kept [] w) (K := fun a' => a' = a.put o.dst v) (Kept.refl _ _) (fun a' w' k e => by subst e; exact h w' k) ⟨v, fun w' k => ?_, rfl⟩)
    have := hv w' k
    unfold Oper.quietAt at this ⊢
    generalize (execOp a.eval o).run P w' = r at *
    cases r with
    | ok nx w2 =>
      cases nx <;> simp only [Oper.quietUpon] at this ⊢
      case value u => exact this
      case skip => exact this
      case enter f args => exact ⟨this.1, this.2.mono fun e w3 hh => ⟨hh.1, k.trans hh.2⟩⟩
    | halt x w2 => simp only [Oper.quietUpon] at this
  · simp only [hw, Bool.false_eq_true, if_false]; exact h w (Kept.refl _ _)

theorem wpOp_putK {j : Nat} {oi oj : Oper} {v : Value} (hj : ops[j]? = some oj) (hap : oi.apart ops oj = true)
    (hsi : ∀ cs b, oi.op ≠ .select cs b) (hsj : ∀ cs b, oj.op ≠ .select cs b)
    (hQ : ∀ c a w, ¬ Q (.panic c) a w) {K : Act → World → Prop} {a : Act} {w wb : World}
    (hy : YieldsK P ops oi v a wb) (h : wpOp P ops Q j K (a.put oi.dst v) w) :
    wpOp P ops Q j (fun a' w' => YieldsK P ops oi v a' wb ∧ K (a'.put oi.dst v) w') a w := by
  obtain ⟨h1, h2, h3⟩ := Oper.apart_spec hap
  have keep : ∀ (a : Act), YieldsK P ops oi v a wb → ∀ u, YieldsK P ops oi v (a.put oj.dst u) wb := fun a hy u =>
    hy.of_same (execOp_put oi hsi a oj.dst u h3) (wanted_put oi a oj.dst u h3)
  have keepD : ∀ d, YieldsK P ops oi v { a with defers := d :: a.defers } wb := fun d => hy.of_same rfl rfl
  unfold wpOp at *
  simp only [hj] at *
  rw [wanted_put oj a oi.dst v h1] at h
  split
  · rename_i hw
    simp only [hw, if_true] at h
    rcases h with h | ⟨hasks, hlets⟩
    case inr => exact .inr ⟨by unfold Oper.asks at *; rw [execOp_put oj hsj a oi.dst v h1] at hasks; exact hasks, hlets⟩
    refine .inl ?_
    unfold Oper.wp at *
    rw [execOp_put oj hsj a oi.dst v h1] at h
    generalize (execOp a.eval oj).run P w = r at *
    cases r with
    | ok n w' =>
      cases n <;> simp only [Oper.upon] at h ⊢
      case value u => exact ⟨keep a hy u, by rw [← Act.put_comm a v u h2]; exact h⟩
      case skip => exact ⟨keep a hy _, by rw [← Act.put_comm a v undef h2]; exact h⟩
      case defer d =>
        refine ⟨keep _ (keepD d) _, ?_⟩
        rw [← Act.put_comm _ v undef h2, ← Act.put_defers]
        exact h
      case enter f args =>
        refine Calls.mono h fun e w'' he => ?_
        cases e with
        | returned u => exact ⟨keep a hy u, by rw [← Act.put_comm a v u h2]; exact he⟩
        | panicked c => exact absurd he (hQ _ _ _)
        | outgrown => exact he
      case row row args => exact Rows.mono h fun u w'' he => ⟨keep a hy u, by rw [← Act.put_comm a v u h2]; exact he⟩
    | halt x w' =>
      cases x <;> simp only [Oper.upon] at h ⊢
      case panic u => exact absurd h (hQ _ _ _)
  · rename_i hw
    simp only [hw] at h
    exact ⟨keep a hy _, by rw [← Act.put_comm a v undef h2]; exact h⟩

/-- What is ready is ready behind its forerunners alone: what is not listed is no forerunner. -/
theorem barB_ready {listed : Array Bool} (hD : Down ops listed) {i j : Nat} (hi : i ∈ Region.ready .any ops listed) (hj : j ∈ Region.ready .any ops listed) : barB ops (listed.setIfInBounds i true) j = false := by
  obtain ⟨h0, oi, hoi, _⟩ := mem_ready.1 hi
  obtain ⟨_, oj, hoj, hallj⟩ := mem_ready.1 hj
  have hilt : i < ops.size := (Array.getElem?_eq_some_iff.1 hoi).1
  have hlt : i < listed.size := by
    rcases Nat.lt_or_ge i listed.size with h | h
    · exact h
    · rw [Array.getD_eq_getD_getElem?, Array.getElem?_eq_none h] at h0; simp at h0
  rw [Bool.eq_false_iff]
  intro hb
  simp only [barB, List.all_eq_true, List.mem_range] at hb
  have h1 := hb i hilt
  have h2 : (listed.setIfInBounds i true).getD i true = true := by simp [hlt]
  rw [h2] at h1
  simp only [Bool.not_true, Bool.false_or] at h1
  have h3 := mem_ancs hD (m := ops.size) (js := [j]) (fun k hk o ho e he hbd => by
    rw [List.mem_singleton] at hk
    subst hk
    rw [hoj] at ho
    cases ho
    exact hallj e he hbd) i (memB_iff.1 h1)
  rw [Array.getD_eq_getD_getElem?, Array.getElem?_eq_getElem hlt] at h0 h3
  simp at h0 h3
  rw [h0] at h3
  cases h3

/-- **A quiet operation may be taken first.** -/
theorem wpAnyK_first {i : Nat} {oi : Oper} {v : Value} (hi : ops[i]? = some oi) (hsel : ∀ (j : Nat) (o : Oper) cs b, ops[j]? = some o → o.op ≠ .select cs b)
    (hQ : ∀ c a w, ¬ Q (.panic c) a w) :
    ∀ (fuel : Nat) (listed : Array Bool) (a : Act) (w : World), Down ops listed →
      (∀ j oj, ops[j]? = some oj → j ≠ i → listed.getD j true = false → (∀ e ∈ oj.after, Region.binds .any e = true → e.on ≠ i) → oi.apart ops oj = true) →
      i ∈ Region.ready .any ops listed → YieldsK P ops oi v a w →
      wpAnyK P ops Q fuel (listed.setIfInBounds i true) (a.put oi.dst v) w → wpAnyK P ops Q (fuel + 1) listed a w := by
  intro fuel
  induction fuel with
  | zero =>
    intro listed a w hD _ hr hy H w1 k
    refine ⟨fun h => (by rw [h] at hr; cases hr), fun j hj => ?_⟩
    by_cases hji : j = i
    · subst hji
      exact (hy.up k).wpOp hi fun w' k' => ⟨.inr k', H.up (k.trans k')⟩
    · have := ready_mono hj hji
      rw [(H w1 k).1] at this
      cases this
  | succ fuel ih =>
    intro listed a w hD hfree hr hy H w1 k
    refine ⟨fun h => (by rw [h] at hr; cases hr), fun j hj => ?_⟩
    by_cases hji : j = i
    · subst hji
      exact (hy.up k).wpOp hi fun w' k' => ⟨.inr k', H.up (k.trans k')⟩
    · have h1 := (H w1 k).2 j (ready_mono hj hji)
      obtain ⟨hjun, oj, hoj, hall⟩ := mem_ready.1 hj
      have hnot : ∀ e ∈ oj.after, Region.binds .any e = true → e.on ≠ i := fun e he hb heq => by
        have h1 := hall e he hb
        have h0 := (mem_ready.1 hr).1
        rw [heq] at h1
        rcases Nat.lt_or_ge i listed.size with h' | h'
        · simp [h'] at h0 h1; rw [h0] at h1; cases h1
        · simp [Array.getElem?_eq_none h'] at h1
      have hbar := barB_ready hD hr hj
      have h2 := wpOp_putK hoj (hfree j oj hoj hji hjun hnot) (fun cs b => hsel i oi cs b hi) (fun cs b => hsel j oj cs b hoj) hQ (hy.up k) h1
      have hfree' : ∀ k ok, ops[k]? = some ok → k ≠ i → (listed.setIfInBounds j true).getD k true = false →
          (∀ e ∈ ok.after, Region.binds .any e = true → e.on ≠ i) → oi.apart ops ok = true := fun k ok hk hki hun hno => by
        refine hfree k ok hk hki ?_ hno
        by_cases hjk : j = k
        · subst hjk; exact hjun
        · rw [getD_set_ne true hjk] at hun; exact hun
      refine wpOp_mono (fun a' w' h3 => ?_) h2
      obtain ⟨hy', hkk, H'⟩ := h3
      rw [hbar] at hkk
      have hkk : Kept [] w1 w' := hkk.resolve_left (by simp)
      refine ⟨.inr hkk, ih (listed.setIfInBounds j true) a' w' (hD.set hj) hfree' (ready_mono hr (Ne.symm hji)) (hy'.up hkk) ?_⟩
      rw [Array.setIfInBounds_comm _ _ hji]
      exact H'
end
end Go.Am

/- The abstract machine, part 19: regions are sound. -/
namespace Go.Am
set_option linter.unusedVariables false
set_option linter.unusedSimpArgs false

section
variable {P : Program} {n : Nat} {q : Nat → Value} {w0 w : World} {O : List Nat} {a : Act} {V : Nat → Value} {own : Nat → List Nat}

theorem getD_some {tm : Array Value} {t : Nat} {v : Value} (h : tm.getD t undef = v) (hv : v ≠ undef) : tm[t]? = some v := by
  rw [Array.getD_eq_getD_getElem?] at h
  cases h1 : tm[t]? with
  | none => rw [h1] at h; exact absurd h.symm hv
  | some u => rw [h1] at h; simpa using h

theorem yield_bool {ops : Array Oper} {j : Nat} {o : Oper} {t : Nat} {d : Bool} (ho : ops[j]? = some o) (hd : o.dst = some t) (ht : a.tmps.getD t undef = .bool d) : yielded ops a.tmps j = some d := by
  unfold yielded
  have := getD_some ht (by intro h; cases h)
  simp [ho, hd, this]

theorem yield_none {ops : Array Oper} {j : Nat} {o : Oper} {t : Nat} {x : Array Value} (ho : ops[j]? = some o) (hd : o.dst = some t) (ht : a.tmps.getD t undef = .tuple x) : yielded ops a.tmps j = none := by
  unfold yielded
  rw [Array.getD_eq_getD_getElem?] at ht
  cases h1 : a.tmps[t]? with
  | none => simp [ho, hd, h1]
  | some u => rw [h1] at ht; simp at ht; subst ht; simp [ho, hd, h1]

theorem guardS_spec {ops : Array Oper} {S S' : St} {o : Oper} {b : Bool} (hR : RelV n w0 O w a S.E S.L V own) (hd : DecOk q a S) (h : guardS ops.toList S o.guard = some (b, S')) (hc : All S'.cs) :
    Region.wanted o (yielded ops a.tmps) = b ∧ S'.E = S.E ∧ S'.L = S.L ∧ DecOk q a S' ∧ All S.cs := by
  unfold guardS at h
  split at h
  · rename_i hg
    cases h
    exact ⟨by simp [Region.wanted, hg], rfl, rfl, hd, hc⟩
  · rename_i j want hg
    split at h
    · rename_i p hp
      rw [nthO_eq] at hp
      have hp' : ops[j]? = some p := by simpa using hp
      split at h
      · rename_i t ht
        split at h
        · rename_i x hx
          cases h
          have hv := hR.valEq (x := .tmp t) (v := .tuple x) (by simp only [opnd]; rw [hx])
          refine ⟨?_, rfl, rfl, hd, hc⟩
          simp [Region.wanted, hg, yield_none hp' ht hv.1]
        · split at h
          · rename_i d S1 hdec
            cases h
            obtain ⟨h1, h2, h3, h4, h5⟩ := decideS_spec hR hd hdec hc
            refine ⟨?_, h2, h3, h4, h5⟩
            simp only [Region.wanted, hg, yield_bool hp' ht h1]
            cases d <;> cases want <;> rfl
          · cases h
      · cases h
    · cases h

theorem putS_spec {S S' : St} {E : Env} {L : Heap} {cs : List Prop} {d : Option Nat} {pv : PV} {v : Value} {w' : World} {V' : Nat → Value} {own' : Nat → List Nat}
    (h : putS n S E L cs d pv = some S') (hR : RelV n w0 O w' a E L V' own') (hd : DecOk q a S) (hv : RepP w0 (Good w0 O) L V' pv v) :
    RelV n w0 O w' (a.put d v) S'.E S'.L V' own' ∧ DecOk q (a.put d v) S' ∧ S'.cs = S.cs ++ cs := by
  cases d with
  | none =>
    cases h
    exact ⟨hR, hd, rfl⟩
  | some d =>
    simp only [putS] at h
    split at h
    · rename_i hlt
      cases h
      simp only [Bool.and_eq_true, Bool.not_eq_true'] at hlt
      exact ⟨hR.put (Nat.le_of_ble_eq_true hlt.1) hv, hd.put d v (fun hm => by rw [memB_iff.2 hm] at hlt; cases hlt.2) rfl rfl, rfl⟩
    · cases h

theorem putS_cs {S S' : St} {E : Env} {L : Heap} {cs : List Prop} {d : Option Nat} {pv : PV} (h : putS n S E L cs d pv = some S') : S'.cs = S.cs ++ cs := by
  cases d with
  | none => cases h; rfl
  | some d =>
    simp only [putS] at h
    split at h
    · cases h; rfl
    · cases h

theorem decideS_cs {S S' : St} {t : Nat} {d : Bool} (h : decideS S t = some (d, S')) (hc : All S'.cs) : All S.cs := by
  unfold decideS at h
  split at h
  · cases h; exact hc
  · split at h
    · cases h; exact (All.append.1 hc).1
    · cases h

theorem guardS_cs {all : List Oper} {S S' : St} {g : Option (Nat × Bool)} {b : Bool} (h : guardS all S g = some (b, S')) (hc : All S'.cs) : All S.cs := by
  unfold guardS at h
  split at h
  · cases h; exact hc
  · split at h
    · split at h
      · split at h
        · cases h; exact hc
        · split at h
          · rename_i hdec; cases h; exact decideS_cs hdec hc
          · cases h
      · cases h
    · cases h

theorem stepO_cs {tab : List TI} {ext : Ext} {wr q : Bool} {all : List Oper} {S S' : St} {o : Oper} (h : stepO tab ext wr n q all S o = some S') (hc : All S'.cs) : All S.cs := by
  unfold stepO at h
  split at h
  · cases h
  · rename_i S1 hg
    have := putS_cs h
    rw [this] at hc
    exact guardS_cs hg (All.append.1 hc).1
  · rename_i S1 hg
    refine guardS_cs hg ?_
    split at h
    · split at h
      · rename_i d S2 hdec
        have := putS_cs h
        rw [this] at hc
        exact decideS_cs hdec (All.append.1 hc).1
      · cases h
    · split at h
      · split at h
        · have := putS_cs h
          rw [this] at hc
          exact (All.append.1 hc).1
        · cases h
      · split at h
        · have := putS_cs h
          rw [this] at hc
          exact (All.append.1 hc).1
        · cases h

theorem stepsO_cs {tab : List TI} {ext : Ext} {wr q : Bool} {all : List Oper} : ∀ {l : List Oper} {S S' : St} (h : stepsO tab ext wr n q all l S = some S') (hc : All S'.cs), All S.cs
  | [], S, S', h, hc => by cases h; exact hc
  | o :: r, S, S', h, hc => by
    simp only [stepsO] at h
    split at h
    · rename_i S1 h1
      exact stepO_cs h1 (stepsO_cs h hc)
    · cases h

theorem pick_run {ρ : Operand → Value} {o : Oper} {c x y : Operand} {d : Bool} (ho : o.op = .pick c x y) (hc : ρ c = .bool d) (w : World) : (execOp ρ o).run P w = .ok (.value (if d then ρ x else ρ y)) w := by
  simp only [execOp, ho, hc]
  simp [asBool]

theorem cond_rep {L : Heap} {p q : PV} {u v : Value} {d : Bool} (hp : RepP w0 (Good w0 O) L V p u) (hq : RepP w0 (Good w0 O) L V q v) : RepP w0 (Good w0 O) L V (cond d p q) (if d then u else v) := by
  cases d
  · exact hq
  · exact hp

/-- One operation, in a region in lexical order. -/
theorem stepO_wp {tab : List TI} {ext : Ext} (hT : TabOk P tab) (hX : ExtOk P ext) {wr : Bool} {ops : Array Oper} {S S' : St} {o : Oper} (hR : RelV n w0 O w a S.E S.L V own) (hd : DecOk q a S)
    (h : stepO tab ext wr n false ops.toList S o = some S') (hc : All S'.cs) {K : Act → World → Prop} {Q : Exit → Act → World → Prop}
    (hK : ∀ a' w' V' own', RelV n w0 O w' a' S'.E S'.L V' own' → DecOk q a' S' → K a' w') :
    if Region.wanted o (yielded ops a.tmps) then o.wp P a w K Q else K (a.put o.dst undef) w := by
  unfold stepO at h
  split at h
  · cases h
  · rename_i S1 hg
    have hcs := putS_cs h
    rw [hcs] at hc
    obtain ⟨h1, h2, h3, h4, h5⟩ := guardS_spec hR hd hg (All.append.1 hc).1
    rw [h1, if_neg (by simp)]
    have hR1 : RelV n w0 O w a S1.E S1.L V own := by rw [h2, h3]; exact hR
    obtain ⟨g1, g2, _⟩ := putS_spec (v := undef) h hR1 h4 ⟨rfl, trivial⟩
    exact hK _ _ _ _ g1 g2
  · rename_i S1 hg
    have hc1 : All S1.cs := by
      split at h
      · split at h
        · rename_i d S2 hdec
          have hcs := putS_cs h
          rw [hcs] at hc
          exact decideS_cs hdec (All.append.1 hc).1
        · cases h
      · dsimp only at h
        split at h
        · have hcs := putS_cs h
          rw [hcs] at hc
          exact (All.append.1 hc).1
        · cases h
    obtain ⟨h1, h2, h3, h4, h5⟩ := guardS_spec hR hd hg hc1
    rw [h1, if_pos rfl]
    have hR1 : RelV n w0 O w a S1.E S1.L V own := by rw [h2, h3]; exact hR
    split at h
    · rename_i c x y ho
      split at h
      · rename_i d S2 hdec
        have hcs := putS_cs h
        rw [hcs] at hc
        obtain ⟨k1, k2, k3, k4, k5⟩ := decideS_spec hR1 h4 hdec (All.append.1 hc).1
        have hR2 : RelV n w0 O w a S2.E S2.L V own := by rw [k2, k3]; exact hR1
        obtain ⟨g1, g2, _⟩ := putS_spec h hR2 k4 (cond_rep (d := d) (hR2.opnd x) (hR2.opnd y))
        exact wp_of_value (w' := w) (pick_run ho k1 w) (hK _ _ _ _ g1 g2)
      · cases h
    · dsimp only at h
      split at h
      · rename_i cs pv E L hop
        have hcs := putS_cs h
        rw [hcs] at hc
        refine opM_spec hT hX hR1 hop (All.append.1 hc).2 fun v w' V' own' hR' hv => ?_
        obtain ⟨g1, g2, _⟩ := putS_spec h hR' h4 hv
        exact hK _ _ _ _ g1 g2
      · cases h

theorem stepsO_wp {tab : List TI} {ext : Ext} (hT : TabOk P tab) (hX : ExtOk P ext) {wr : Bool} {ops : Array Oper} {Q : Exit → Act → World → Prop} : ∀ {l : List Oper} {S S' : St} {a : Act} {w : World} {V : Nat → Value} {own : Nat → List Nat} (hR : RelV n w0 O w a S.E S.L V own) (hd : DecOk q a S)
    (h : stepsO tab ext wr n false ops.toList l S = some S') (hc : All S'.cs) (hK : ∀ a' w' V' own', RelV n w0 O w' a' S'.E S'.L V' own' → DecOk q a' S' → Q .normal a' w'), wpList P ops Q l a w
  | [], S, S', a, w, V, own, hR, hd, h, hc, hK => by
    cases h
    exact hK _ _ _ _ hR hd
  | o :: r, S, S', a, w, V, own, hR, hd, h, hc, hK => by
    simp only [stepsO] at h
    split at h
    · rename_i S1 h1
      refine wpList_step fun K hKK => ?_
      exact stepO_wp hT hX hR hd h1 (stepsO_cs h hc) fun a' w' V' own' hR' hd' => hKK _ _ (stepsO_wp hT hX hR' hd' h hc hK)
    · cases h

/-- One operation, in a region whose order is drawn. -/
theorem stepO_quiet {tab : List TI} {ext : Ext} (hT : TabOk P tab) (hX : ExtOk P ext) {wr : Bool} {ops : Array Oper} {S S' : St} {o : Oper} (hR : RelV n w0 O w a S.E S.L V own) (hd : DecOk q a S)
    (h : stepO tab ext wr n true ops.toList S o = some S') (hc : All S'.cs) :
    ∃ v, YieldsK P ops o v a w ∧ RelV n w0 O w (a.put o.dst v) S'.E S'.L V own ∧ DecOk q (a.put o.dst v) S' := by
  unfold stepO at h
  split at h
  · cases h
  · rename_i S1 hg
    have hcs := putS_cs h
    rw [hcs] at hc
    obtain ⟨h1, h2, h3, h4, h5⟩ := guardS_spec hR hd hg (All.append.1 hc).1
    have hR1 : RelV n w0 O w a S1.E S1.L V own := by rw [h2, h3]; exact hR
    obtain ⟨g1, g2, _⟩ := putS_spec (v := undef) h hR1 h4 ⟨rfl, trivial⟩
    exact ⟨undef, .inr ⟨h1, rfl⟩, g1, g2⟩
  · rename_i S1 hg
    have hc1 : All S1.cs := by
      split at h
      · split at h
        · rename_i d S2 hdec
          have hcs := putS_cs h
          rw [hcs] at hc
          exact decideS_cs hdec (All.append.1 hc).1
        · cases h
      · dsimp only at h
        split at h
        · have hcs := putS_cs h
          rw [hcs] at hc
          exact (All.append.1 hc).1
        · cases h
    obtain ⟨h1, h2, h3, h4, h5⟩ := guardS_spec hR hd hg hc1
    have hR1 : RelV n w0 O w a S1.E S1.L V own := by rw [h2, h3]; exact hR
    split at h
    · rename_i c x y ho
      split at h
      · rename_i d S2 hdec
        have hcs := putS_cs h
        rw [hcs] at hc
        obtain ⟨k1, k2, k3, k4, k5⟩ := decideS_spec hR1 h4 hdec (All.append.1 hc).1
        have hR2 : RelV n w0 O w a S2.E S2.L V own := by rw [k2, k3]; exact hR1
        obtain ⟨g1, g2, _⟩ := putS_spec h hR2 k4 (cond_rep (d := d) (hR2.opnd x) (hR2.opnd y))
        refine ⟨_, .inl ⟨h1, fun w' k => ?_⟩, g1, g2⟩
        unfold Oper.quietAt
        rw [pick_run ho k1 w']
        exact ⟨rfl, rfl⟩
      · cases h
    · dsimp only at h
      split at h
      · rename_i cs pv hop
        have hcs := putS_cs h
        rw [hcs] at hc
        obtain ⟨v, hv, hq⟩ := opQ_spec hT hX hR1 hop (All.append.1 hc).2
        obtain ⟨g1, g2, _⟩ := putS_spec h hR1 h4 hv
        exact ⟨v, .inl ⟨h1, hq⟩, g1, g2⟩
      · cases h

/-- The tests of an operation, ahead of it. -/
def decO1 (all : List Oper) (S : St) (o : Oper) : Option St :=
  match guardS all S o.guard with
  | none => none
  | some (false, S) => some S
  | some (true, S) => match o.op with
    | .pick (.tmp c) _ _ => match decideS S c with
      | some (_, S) => some S
      | none => none
    | _ => some S

def decOs (all : List Oper) : List Nat → St → Option St
  | [], S => some S
  | i :: r, S => match nthO all i with
    | some o => match decO1 all S o with
      | some S => decOs all r S
      | none => none
    | none => none

/-- The first quiet operation that may be taken. -/
def firstQ (tab : List TI) (ext : Ext) (wr : Bool) (n : Nat) (ops : Array Oper) (listed : Array Bool) (S : St) : List Nat → Option (Nat × St)
  | [] => none
  | i :: r => match nthO ops.toList i, Region.free .any ops listed i with
    | some o, true => match stepO tab ext wr n true ops.toList S o with
      | some S' => some (i, S')
      | none => firstQ tab ext wr n ops listed S r
    | _, _ => firstQ tab ext wr n ops listed S r

/-- An operation that makes memory. -/
def stepK (tab : List TI) (ext : Ext) (n : Nat) (all : List Oper) (S : St) (o : Oper) : Option St :=
  match guardS all S o.guard with
  | some (true, S) => match opK tab ext S.E S.L o.op with
    | some (cs, pv, L) => putS n S S.E L cs o.dst pv
    | none => none
  | _ => none

/-- The only operation that may come up. -/
def stepB (tab : List TI) (ext : Ext) (wr : Bool) (n : Nat) (ops : Array Oper) (listed : Array Bool) (i : Nat) (S : St) (o : Oper) : Option St :=
  match stepK tab ext n ops.toList S o with
  | some S' => some S'
  | none => match barB ops listed i with
    | true => stepO tab ext wr n false ops.toList S o
    | false => none

def schedS (tab : List TI) (ext : Ext) (wr : Bool) (n : Nat) (ops : Array Oper) : Nat → Array Bool → St → Option St
  | 0, listed, S => match Region.ready .any ops listed with
    | [] => some S
    | _ => none
  | m + 1, listed, S => match Region.ready .any ops listed with
    | [] => some S
    | i :: r => match decOs ops.toList (i :: r) S with
      | none => none
      | some S => match firstQ tab ext wr n ops listed S (i :: r) with
        | some (j, S') => schedS tab ext wr n ops m (listed.setIfInBounds j true) S'
        | none => match r, nthO ops.toList i with
          | [], some o => match stepB tab ext wr n ops listed i S o with
            | some S' => schedS tab ext wr n ops m (listed.setIfInBounds i true) S'
            | none => none
          | _, _ => none

theorem decO1_cs {all : List Oper} {S S' : St} {o : Oper} (h : decO1 all S o = some S') (hc : All S'.cs) : All S.cs := by
  unfold decO1 at h
  split at h
  · cases h
  · rename_i hg; cases h; exact guardS_cs hg hc
  · rename_i hg
    refine guardS_cs hg ?_
    split at h
    · split at h
      · rename_i hd; cases h; exact decideS_cs hd hc
      · cases h
    · cases h; exact hc

theorem decO1_spec {ops : Array Oper} {S S' : St} {o : Oper} (hR : RelV n w0 O w a S.E S.L V own) (hd : DecOk q a S) (h : decO1 ops.toList S o = some S') (hc : All S'.cs) :
    S'.E = S.E ∧ S'.L = S.L ∧ DecOk q a S' := by
  unfold decO1 at h
  split at h
  · cases h
  · rename_i S1 hg
    cases h
    obtain ⟨_, h2, h3, h4, _⟩ := guardS_spec hR hd hg hc
    exact ⟨h2, h3, h4⟩
  · rename_i S1 hg
    split at h
    · split at h
      · rename_i hdec
        cases h
        obtain ⟨_, h2, h3, h4, _⟩ := guardS_spec hR hd hg (decideS_cs hdec hc)
        have hR1 : RelV n w0 O w a S1.E S1.L V own := by rw [h2, h3]; exact hR
        obtain ⟨_, k2, k3, k4, _⟩ := decideS_spec hR1 h4 hdec hc
        exact ⟨k2.trans h2, k3.trans h3, k4⟩
      · cases h
    · cases h
      obtain ⟨_, h2, h3, h4, _⟩ := guardS_spec hR hd hg hc
      exact ⟨h2, h3, h4⟩

theorem decOs_cs {all : List Oper} : ∀ {is : List Nat} {S S' : St}, decOs all is S = some S' → All S'.cs → All S.cs
  | [], _, _, h, hc => by cases h; exact hc
  | i :: r, S, S', h, hc => by
    simp only [decOs] at h
    split at h
    · split at h
      · rename_i h1
        exact decO1_cs h1 (decOs_cs h hc)
      · cases h
    · cases h

theorem decOs_spec {ops : Array Oper} : ∀ {is : List Nat} {S S' : St}, RelV n w0 O w a S.E S.L V own → DecOk q a S → decOs ops.toList is S = some S' → All S'.cs → S'.E = S.E ∧ S'.L = S.L ∧ DecOk q a S'
  | [], _, _, _, hd, h, hc => by cases h; exact ⟨rfl, rfl, hd⟩
  | i :: r, S, S', hR, hd, h, hc => by
    simp only [decOs] at h
    split at h
    · split at h
      · rename_i S1 h1
        obtain ⟨e1, e2, e3⟩ := decO1_spec hR hd h1 (decOs_cs h hc)
        obtain ⟨f1, f2, f3⟩ := decOs_spec (S := S1) (by rw [e1, e2]; exact hR) e3 h hc
        exact ⟨f1.trans e1, f2.trans e2, f3⟩
      · cases h
    · cases h

theorem firstQ_spec {tab : List TI} {ext : Ext} {wr : Bool} {ops : Array Oper} {listed : Array Bool} {S : St} {j : Nat} {S' : St} : ∀ {rs : List Nat}, firstQ tab ext wr n ops listed S rs = some (j, S') →
    j ∈ rs ∧ ∃ o, ops[j]? = some o ∧ Region.free .any ops listed j = true ∧ stepO tab ext wr n true ops.toList S o = some S'
  | [], h => by cases h
  | i :: r, h => by
    simp only [firstQ] at h
    have rest : firstQ tab ext wr n ops listed S r = some (j, S') → j ∈ i :: r ∧ ∃ o, ops[j]? = some o ∧ Region.free .any ops listed j = true ∧ stepO tab ext wr n true ops.toList S o = some S' := fun h => by
      obtain ⟨h1, h2⟩ := firstQ_spec h
      exact ⟨List.mem_cons_of_mem _ h1, h2⟩
    split at h
    · rename_i o ho hf
      split at h
      · rename_i S1 h1
        cases h
        rw [nthO_eq] at ho
        exact ⟨List.mem_cons_self .., o, by simpa using ho, hf, h1⟩
      · exact rest h
    · exact rest h

theorem stepK_cs {tab : List TI} {ext : Ext} {all : List Oper} {S S' : St} {o : Oper} (h : stepK tab ext n all S o = some S') (hc : All S'.cs) : All S.cs := by
  unfold stepK at h
  split at h
  · rename_i hg
    split at h
    · have := putS_cs h
      rw [this] at hc
      exact guardS_cs hg (All.append.1 hc).1
    · cases h
  · cases h

theorem stepB_cs {tab : List TI} {ext : Ext} {wr : Bool} {ops : Array Oper} {listed : Array Bool} {i : Nat} {S S' : St} {o : Oper} (h : stepB tab ext wr n ops listed i S o = some S') (hc : All S'.cs) : All S.cs := by
  unfold stepB at h
  split at h
  · rename_i h1; cases h; exact stepK_cs h1 hc
  · split at h
    · exact stepO_cs h hc
    · cases h

theorem stepK_wp {tab : List TI} {ext : Ext} (hT : TabOk P tab) (hX : ExtOk P ext) {ops : Array Oper} {S S' : St} {o : Oper} (hR : RelV n w0 O w a S.E S.L V own) (hd : DecOk q a S)
    (h : stepK tab ext n ops.toList S o = some S') (hc : All S'.cs) {K : Act → World → Prop} {Q : Exit → Act → World → Prop}
    (hK : ∀ a' w' V' own', Kept [] w w' → RelV n w0 O w' a' S'.E S'.L V' own' → DecOk q a' S' → K a' w') :
    if Region.wanted o (yielded ops a.tmps) then o.wp P a w K Q else K (a.put o.dst undef) w := by
  unfold stepK at h
  split at h
  · rename_i S1 hg
    split at h
    · rename_i cs pv L hop
      have hcs := putS_cs h
      rw [hcs] at hc
      obtain ⟨h1, h2, h3, h4, h5⟩ := guardS_spec hR hd hg (All.append.1 hc).1
      rw [h1, if_pos rfl]
      have hR1 : RelV n w0 O w a S1.E S1.L V own := by rw [h2, h3]; exact hR
      refine opK_spec hT hX hR1 hop (All.append.1 hc).2 fun v w' V' own' k hR' hv => ?_
      obtain ⟨g1, g2, _⟩ := putS_spec h hR' h4 hv
      exact hK _ _ _ _ k g1 g2
    · cases h
  · cases h

theorem stepB_wp {tab : List TI} {ext : Ext} (hT : TabOk P tab) (hX : ExtOk P ext) {wr : Bool} {ops : Array Oper} {listed : Array Bool} {i : Nat} {S S' : St} {o : Oper} (hR : RelV n w0 O w a S.E S.L V own) (hd : DecOk q a S)
    (h : stepB tab ext wr n ops listed i S o = some S') (hc : All S'.cs) {K : Act → World → Prop} {Q : Exit → Act → World → Prop}
    (hK : ∀ a' w' V' own', (barB ops listed i = true ∨ Kept [] w w') → RelV n w0 O w' a' S'.E S'.L V' own' → DecOk q a' S' → K a' w') :
    if Region.wanted o (yielded ops a.tmps) then o.wp P a w K Q else K (a.put o.dst undef) w := by
  unfold stepB at h
  split at h
  · rename_i h1
    cases h
    exact stepK_wp hT hX hR hd h1 hc fun a' w' V' own' k => hK a' w' V' own' (.inr k)
  · split at h
    · rename_i hb
      exact stepO_wp hT hX hR hd h hc fun a' w' V' own' => hK a' w' V' own' (.inl hb)
    · cases h

theorem schedS_cs {tab : List TI} {ext : Ext} {wr : Bool} {ops : Array Oper} {S' : St} : ∀ {m : Nat} {listed : Array Bool} {S : St}, schedS tab ext wr n ops m listed S = some S' → All S'.cs → All S.cs
  | 0, listed, S, h, hc => by
    simp only [schedS] at h
    split at h
    · cases h; exact hc
    · cases h
  | m + 1, listed, S, h, hc => by
    simp only [schedS] at h
    split at h
    · cases h; exact hc
    · split at h
      · cases h
      · rename_i S1 hdec
        refine decOs_cs hdec ?_
        split at h
        · rename_i j S2 hq
          obtain ⟨_, o, _, _, hst⟩ := firstQ_spec hq
          exact stepO_cs hst (schedS_cs h hc)
        · split at h
          · split at h
            · rename_i S2 hB
              exact stepB_cs hB (schedS_cs h hc)
            · cases h
          · cases h

/-- **The walk in one order serves every order.** -/
theorem schedS_spec {tab : List TI} {ext : Ext} (hT : TabOk P tab) (hX : ExtOk P ext) {wr : Bool} {ops : Array Oper} {Q : Exit → Act → World → Prop} (hs : Region.noSelect ops = true) (hQ : ∀ c a w, ¬ Q (.panic c) a w) {S' : St}
    (hc : All S'.cs) (hK : ∀ a' w' V' own', RelV n w0 O w' a' S'.E S'.L V' own' → DecOk q a' S' → Q .normal a' w') : ∀ {m : Nat} {listed : Array Bool} {S : St} {a : Act} {w : World} {V : Nat → Value} {own : Nat → List Nat},
    RelV n w0 O w a S.E S.L V own → DecOk q a S → Down ops listed → schedS tab ext wr n ops m listed S = some S' → wpAnyK P ops Q m listed a w
  | 0, listed, S, a, w, V, own, hR, hd, hD, h => by
    simp only [schedS] at h
    split at h
    · rename_i hr
      cases h
      exact fun w1 k => ⟨hr, hK _ _ _ _ (hR.ext k) hd⟩
    · cases h
  | m + 1, listed, S, a, w, V, own, hR, hd, hD, h => by
    simp only [schedS] at h
    split at h
    · rename_i hr
      cases h
      exact fun w1 k => ⟨fun _ => hK _ _ _ _ (hR.ext k) hd, by rw [hr]; simp⟩
    · rename_i i r hr
      split at h
      · cases h
      · rename_i S1 hdec
        split at h
        · rename_i j S2 hq
          obtain ⟨hjr, o, ho, hf, hst⟩ := firstQ_spec hq
          rw [← hr] at hjr
          have hc2 : All S2.cs := schedS_cs h hc
          have hc1 : All S1.cs := stepO_cs hst hc2
          obtain ⟨e1, e2, e3⟩ := decOs_spec hR hd hdec hc1
          have hR1 : RelV n w0 O w a S1.E S1.L V own := by rw [e1, e2]; exact hR
          obtain ⟨v, hy, g1, g2⟩ := stepO_quiet hT hX hR1 e3 hst hc2
          refine wpAnyK_first ho (Region.noSelect_spec hs) hQ m listed a w hD (Region.free_spec ho hf) hjr hy ?_
          exact schedS_spec hT hX hs hQ hc hK g1 g2 (hD.set hjr) h
        · split at h
          · rename_i o hno _
            rw [nthO_eq] at hno
            have ho : ops[i]? = some o := by simpa using hno
            split at h
            · rename_i S2 hB
              have hc2 : All S2.cs := schedS_cs h hc
              have hc1 : All S1.cs := stepB_cs hB hc2
              obtain ⟨e1, e2, e3⟩ := decOs_spec hR hd hdec hc1
              have hir : i ∈ Region.ready .any ops listed := by rw [hr]; simp
              refine fun w1 k => ⟨fun h0 => by (rw [hr] at h0; cases h0), fun j hj => ?_⟩
              have hji : j = i := by rw [hr] at hj; simpa using hj
              subst hji
              have hR1 : RelV n w0 O w1 a S1.E S1.L V own := by rw [e1, e2]; exact hR.ext k
              unfold wpOp
              simp only [ho]
              have := stepB_wp (K := fun a' w' => (barB ops listed j = true ∨ Kept [] w1 w') ∧ wpAnyK P ops Q m (listed.setIfInBounds j true) a' w') (Q := Q) hT hX hR1 e3 hB hc2 (fun a' w' V' own' hb hR' hd' => ⟨hb, schedS_spec hT hX hs hQ hc hK hR' hd' (hD.set hir) h⟩)
              split
              · rename_i hw; rw [if_pos hw] at this; exact .inl this
              · rename_i hw; rw [if_neg hw] at this; exact this
            · cases h
          · cases h

/-- A region. -/
def regionS (tab : List TI) (ext : Ext) (wr : Bool) (n : Nat) (ops : Array Oper) (draw : Bool) (S : St) : Option St :=
  match draw with
  | false => stepsO tab ext wr n false ops.toList ops.toList S
  | true => match Region.noSelect ops with
    | true => schedS tab ext wr n ops ops.size (Array.replicate ops.size false) S
    | false => none

theorem regionS_cs {tab : List TI} {ext : Ext} {wr : Bool} {ops : Array Oper} {draw : Bool} {S S' : St} (h : regionS tab ext wr n ops draw S = some S') (hc : All S'.cs) : All S.cs := by
  unfold regionS at h
  split at h
  · exact stepsO_cs h hc
  · split at h
    · exact schedS_cs h hc
    · cases h

/-- **A region is sound.** -/
theorem regionS_wp {tab : List TI} {ext : Ext} (hT : TabOk P tab) (hX : ExtOk P ext) (hm : P.follows .mixedOrders = true) {wr : Bool} {id : Nat} {ops : Array Oper} {draw : Bool} {Q : Exit → Act → World → Prop} (hQ : ∀ c a w, ¬ Q (.panic c) a w) {S S' : St}
    (hR : RelV n w0 O w a S.E S.L V own) (hd : DecOk q a S)
    (h : regionS tab ext wr n ops draw S = some S') (hc : All S'.cs) (hK : ∀ a' w' V' own', RelV n w0 O w' a' S'.E S'.L V' own' → DecOk q a' S' → Q .normal a' w') : (Code.region id ops draw).wp P Q a w := by
  unfold regionS at h
  split at h
  · exact wp_region_list (stepsO_wp hT hX hR hd h hc hK)
  · split at h
    · rename_i hs
      refine wp_region_any hm (wpAny_of_K _ _ _ _ ?_)
      exact schedS_spec hT hX hs hQ hc hK (hR.ext (Kept.refl _ _).drew) hd (Down.start ops _) h
    · cases h
end
end Go.Am

/- The abstract machine, part 20: runs between cut points. -/
namespace Go.Am
set_option linter.unusedVariables false
set_option linter.unusedSimpArgs false

/-- From this list of things to do the function comes to its end. -/
def RunK (P : Program) (f : FuncId) (R : Ending → World → Prop) (k : List Item) (a : Act) (w : World) : Prop :=
  ∀ (b : Frame) cs, b.fn = f → b.kind = .normal → ∃ e w' fr, R e w' ∧ Comes P (lone (b.at a k) cs w) (lone fr cs w') e ∧ fr.fn = f ∧ fr.leaving P w' e

section
variable {P : Program} {f : FuncId} {R : Ending → World → Prop} {k k' : List Item} {a a' : Act} {w w' : World}

theorem RunK.step (h : ∀ (b : Frame) cs, step P (lone (b.at a k) cs w) = .next (lone (b.at a' k') cs w')) (hr : RunK P f R k' a' w') : RunK P f R k a w := fun b cs hb hk => by
  obtain ⟨e, w2, fr, h1, h2, h3, h4⟩ := hr b cs hb hk
  exact ⟨e, w2, fr, h1, Comes.of_steps (.one (h b cs)) h2, h3, h4⟩

theorem RunK.of_wp {c : Code} (h : c.wp P (fun e a' w' => e = .normal ∧ RunK P f R k a' w') a w) : RunK P f R (.code c :: k) a w := fun b cs hb hk => by
  obtain ⟨e, a', w', ⟨rfl, hr⟩, harr⟩ := h b k cs
  obtain ⟨e, w2, fr, h1, h2, h3, h4⟩ := hr b cs hb hk
  exact ⟨e, w2, fr, h1, Comes.of_steps harr h2, h3, h4⟩

/-- What is asked at the end. -/
def FinK (P : Program) (f : FuncId) (R : Ending → World → Prop) (a : Act) (w : World) : Prop :=
  a.defers = [] ∧ ∃ fn v, P.funcs[f]? = some fn ∧ (results fn a.tmps).run P w = .ok v w ∧ R (.returned v) w

theorem RunK.nil (h : FinK P f R a w) : RunK P f R [] a w := fun b cs hb hk => by
  obtain ⟨hd, fn, v, hf, hr, hR⟩ := h
  exact ⟨.returned v, w, _, hR, Steps.one step_end, hb, rfl, hd, hk, fn, by rw [show (b.at a []).fn = f from hb]; exact hf, hr⟩

theorem RunK.ret (h : FinK P f R a w) : RunK P f R (.code .ret :: k) a w := fun b cs hb hk => by
  obtain ⟨hd, fn, v, hf, hr, hR⟩ := h
  exact ⟨.returned v, w, _, hR, Steps.one step_ret, hb, rfl, hd, hk, fn, by rw [show (b.at a (.code .ret :: k)).fn = f from hb]; exact hf, hr⟩

theorem calls_of_run {fn : Func} {c : Code} {args : Array Value} (hf : P.funcs[f]? = some fn) (hb : fn.body = some c)
    (h : RunK P f R [.code c] { tmps := args ++ Array.replicate (fn.ntmps - args.size) undef, defers := [] } w) : Calls P f args w R := by
  intro cs
  let b : Frame := { (default : Frame) with fn := f, kind := .normal }
  have henter : Frame.enter P f args .normal =
      b.at { tmps := args ++ Array.replicate (fn.ntmps - args.size) undef, defers := [] } [.code c] := by
    simp [Frame.enter, Frame.at, hf, hb, b]
  rw [henter]
  exact h b cs rfl rfl
end

/-! ### The evaluator -/

inductive Out where
  | stop (k : List Item) (S : St)
  | fin (S : St)

def Out.st : Out → St
  | .stop _ S => S
  | .fin S => S

/-- A test of code. -/
def decideO (S : St) : Operand → Option (Bool × St)
  | .tmp t => decideS S t
  | .const (.bool b) => some (b, S)
  | _ => none

def runA (tab : List TI) (ext : Ext) (wr : Bool) (n : Nat) (stops : List Nat) : Nat → Bool → List Item → St → Option Out
  | 0, _, _, _ => none
  | _ + 1, _, [], S => some (.fin S)
  | m + 1, first, .inBlock _ :: k, S => runA tab ext wr n stops m first k S
  | m + 1, first, .inLoop c :: k, S => some (.stop (.code c :: .inLoop c :: k) S)
  | m + 1, first, .code c :: k, S => match c with
    | .skip => runA tab ext wr n stops m first k S
    | .label _ => runA tab ext wr n stops m first k S
    | .seq x y => runA tab ext wr n stops m first (.code x :: .code y :: k) S
    | .block id c => runA tab ext wr n stops m first (.code c :: .inBlock id :: k) S
    | .loop c => some (.stop (.code c :: .inLoop c :: k) S)
    | .exit id => match exitTo id k with
      | some k' => runA tab ext wr n stops m first k' S
      | none => none
    | .ret => some (.fin S)
    | .cond c x y => match decideO S c with
      | some (d, S') => runA tab ext wr n stops m false (.code (cond d x y) :: k) S'
      | none => none
    | .region id ops draw => match !first && memB id stops with
      | true => some (.stop (.code (.region id ops draw) :: k) S)
      | false => match regionS tab ext wr n ops draw S with
        | some S' => runA tab ext wr n stops m false k S'
        | none => none
    | _ => none
  | _ + 1, _, _, _ => none

section
variable {P : Program} {n : Nat} {q : Nat → Value} {w0 w : World} {O : List Nat} {a : Act} {V : Nat → Value} {own : Nat → List Nat} {f : FuncId} {R : Ending → World → Prop}

def AtV (P : Program) (f : FuncId) (R : Ending → World → Prop) (n : Nat) (w0 : World) (O : List Nat) (q : Nat → Value) (ps : List Nat) (k : List Item) (E : Env) (L : Heap) : Prop :=
  ∀ a w V own, RelV n w0 O w a E L V own → (∀ t ∈ ps, a.tmps.getD t undef = q t) → RunK P f R k a w

def FinV (P : Program) (f : FuncId) (R : Ending → World → Prop) (n : Nat) (w0 : World) (O : List Nat) (q : Nat → Value) (ps : List Nat) (E : Env) (L : Heap) : Prop :=
  ∀ a w V own, RelV n w0 O w a E L V own → (∀ t ∈ ps, a.tmps.getD t undef = q t) → FinK P f R a w

def OutOk (P : Program) (f : FuncId) (R : Ending → World → Prop) (n : Nat) (w0 : World) (O : List Nat) (q : Nat → Value) : Out → Prop
  | .stop k S => AtV P f R n w0 O q S.pins k S.E S.L
  | .fin S => FinV P f R n w0 O q S.pins S.E S.L

theorem decideO_spec {S S' : St} {x : Operand} {d : Bool} (hR : RelV n w0 O w a S.E S.L V own) (hd : DecOk q a S) (h : decideO S x = some (d, S')) (hc : All S'.cs) :
    a.eval x = .bool d ∧ S'.E = S.E ∧ S'.L = S.L ∧ DecOk q a S' ∧ All S.cs := by
  unfold decideO at h
  split at h
  · exact decideS_spec hR hd h hc
  · cases h; exact ⟨rfl, rfl, rfl, hd, hc⟩
  · cases h

theorem decideO_cs {S S' : St} {x : Operand} {d : Bool} (h : decideO S x = some (d, S')) (hc : All S'.cs) : All S.cs := by
  unfold decideO at h
  split at h
  · exact decideS_cs h hc
  · cases h; exact hc
  · cases h

theorem runA_cs {tab : List TI} {ext : Ext} {wr : Bool} {stops : List Nat} : ∀ {m : Nat} {first : Bool} {k : List Item} {S : St} {out : Out}, runA tab ext wr n stops m first k S = some out → All out.st.cs → All S.cs := by
  intro m
  induction m with
  | zero => intro first k S out h; cases h
  | succ m ih =>
    intro first k S out h hc
    match k, h with
    | [], h => cases h; exact hc
    | .inBlock _ :: k, h => simp only [runA] at h; exact ih h hc
    | .inLoop c :: k, h => cases h; exact hc
    | .code c :: k, h =>
      cases c with
      | skip => simp only [runA] at h; exact ih h hc
      | label _ => simp only [runA] at h; exact ih h hc
      | seq x y => simp only [runA] at h; exact ih h hc
      | block id c => simp only [runA] at h; exact ih h hc
      | loop c => cases h; exact hc
      | exit id =>
        simp only [runA] at h
        split at h
        · exact ih h hc
        · cases h
      | ret => cases h; exact hc
      | cond c x y =>
        simp only [runA] at h
        split at h
        · rename_i hd; exact decideO_cs hd (ih h hc)
        · cases h
      | region id ops draw =>
        simp only [runA] at h
        split at h
        · cases h; exact hc
        · split at h
          · rename_i hr; exact regionS_cs hr (ih h hc)
          · cases h
      | _ => cases h

/-- **A run is sound.** -/
theorem runA_run {tab : List TI} {ext : Ext} (hT : TabOk P tab) (hX : ExtOk P ext) (hm : P.follows .mixedOrders = true) {wr : Bool} {stops : List Nat} : ∀ {m : Nat} {first : Bool} {k : List Item} {S : St} {out : Out} {a : Act} {w : World} {V : Nat → Value} {own : Nat → List Nat},
    runA tab ext wr n stops m first k S = some out → All out.st.cs → RelV n w0 O w a S.E S.L V own → DecOk q a S → OutOk P f R n w0 O q out → RunK P f R k a w := by
  intro m
  induction m with
  | zero => intro first k S out a w V own h; cases h
  | succ m ih =>
    intro first k S out a w V own h hc hR hd ho
    match k, h with
    | [], h => cases h; exact RunK.nil (ho _ _ _ _ hR hd.2)
    | .inBlock _ :: k, h => simp only [runA] at h; exact RunK.step (fun b cs => step_inBlock) (ih h hc hR hd ho)
    | .inLoop c :: k, h => cases h; exact RunK.step (fun b cs => step_inLoop) (ho _ _ _ _ hR hd.2)
    | .code c :: k, h =>
      cases c with
      | skip => simp only [runA] at h; exact RunK.step (fun b cs => step_skip) (ih h hc hR hd ho)
      | label _ => simp only [runA] at h; exact RunK.step (fun b cs => step_label) (ih h hc hR hd ho)
      | seq x y => simp only [runA] at h; exact RunK.step (fun b cs => step_seq) (ih h hc hR hd ho)
      | block id c => simp only [runA] at h; exact RunK.step (fun b cs => step_block) (ih h hc hR hd ho)
      | loop c => cases h; exact RunK.step (fun b cs => step_loop) (ho _ _ _ _ hR hd.2)
      | exit id =>
        simp only [runA] at h
        split at h
        · rename_i k' he; exact RunK.step (fun b cs => step_exit he) (ih h hc hR hd ho)
        · cases h
      | ret => cases h; exact RunK.ret (ho _ _ _ _ hR hd.2)
      | cond c x y =>
        simp only [runA] at h
        split at h
        · rename_i d S' hdec
          obtain ⟨h1, h2, h3, h4, h5⟩ := decideO_spec hR hd hdec (runA_cs h hc)
          refine RunK.step (fun b cs => step_cond h1) ?_
          have := ih h hc (by rw [h2, h3]; exact hR) h4 ho
          cases d <;> exact this
        · cases h
      | region id ops draw =>
        simp only [runA] at h
        split at h
        · cases h; exact ho _ _ _ _ hR hd.2
        · split at h
          · rename_i S' hr
            refine RunK.of_wp (regionS_wp hT hX hm (fun c a w hh => by cases hh.1) hR hd hr (runA_cs h hc) fun a' w' V' own' hR' hd' => ⟨rfl, ih h hc hR' hd' ho⟩)
          · cases h
      | _ => cases h
end

/-! ### Weakening the state -/

def keepE (E : Env) : List Nat → Env
  | [] => []
  | i :: r => (i, E.get i) :: keepE E r

def keepL : List Bool → Heap → Heap
  | true :: bs, a :: l => a :: keepL bs l
  | false :: bs, _ :: l => none :: keepL bs l
  | _, _ => []

def nthB : List Bool → Nat → Bool
  | [], _ => false
  | b :: _, 0 => b
  | _ :: r, n + 1 => nthB r n

def refsOk (bs : List Bool) : List Nat → Bool
  | [] => true
  | r :: s => nthB bs r && refsOk bs s

def envOk (bs : List Bool) : Env → Bool
  | [] => true
  | (_, p) :: r => refsOk bs (refsP p) && envOk bs r

theorem hget_keepL : ∀ (bs : List Bool) (L : Heap) (r : Nat), hget (keepL bs L) r = if nthB bs r = true then hget L r else none
  | [], L, r => by cases L <;> simp [keepL, hget, nthB]
  | b :: bs, [], r => by cases b <;> simp [keepL, hget]
  | true :: bs, a :: l, 0 => by simp [keepL, hget, nthB]
  | false :: bs, a :: l, 0 => by simp [keepL, hget, nthB]
  | true :: bs, a :: l, r + 1 => by simp only [keepL, hget, nthB]; exact hget_keepL bs l r
  | false :: bs, a :: l, r + 1 => by simp only [keepL, hget, nthB]; exact hget_keepL bs l r

theorem get_keepE (E : Env) : ∀ (ks : List Nat) (i : Nat), (keepE E ks).get i = if memB i ks = true then E.get i else .a .junk
  | [], i => rfl
  | j :: r, i => by
    simp only [keepE, Env.get, memB]
    cases h : Nat.beq j i with
    | true =>
      obtain rfl := Nat.eq_of_beq_eq_true h
      simp
    | false =>
      have : Nat.beq i j = false := nbeq_false (fun e => by subst e; simp at h)
      simp [this, get_keepE E r i]

theorem refsOk_spec {bs : List Bool} : ∀ {l : List Nat}, refsOk bs l = true → ∀ r ∈ l, nthB bs r = true
  | [], _, r, h => by cases h
  | a :: s, h, r, hr => by
    simp only [refsOk, Bool.and_eq_true] at h
    rcases List.mem_cons.1 hr with rfl | hr
    · exact h.1
    · exact refsOk_spec h.2 r hr

theorem envOk_spec {bs : List Bool} : ∀ {E : Env}, envOk bs E = true → ∀ i, ∀ r ∈ refsP (E.get i), nthB bs r = true
  | [], _, i, r, h => by simp [Env.get, refsP, refA] at h
  | (j, p) :: E, h, i, r, hr => by
    simp only [envOk, Bool.and_eq_true] at h
    simp only [Env.get] at hr
    cases hj : Nat.beq j i with
    | true => rw [hj] at hr; exact refsOk_spec h.1 r hr
    | false => rw [hj] at hr; exact envOk_spec h.2 i r hr

section
variable {P : Program} {n : Nat} {q : Nat → Value} {w0 w : World} {O : List Nat} {a : Act} {V : Nat → Value} {own : Nat → List Nat} {f : FuncId} {R : Ending → World → Prop} {E : Env} {L : Heap}

theorem RelV.keepE (hR : RelV n w0 O w a E L V own) (ks : List Nat) : RelV n w0 O w a (Am.keepE E ks) L V own :=
  ⟨hR.glob, hR.kept, hR.size, hR.defers, hR.heap, hR.good, hR.nodup, hR.apart, fun i => by
    rw [get_keepE]
    split
    · exact hR.env i
    · trivial⟩

theorem RelV.keepL (hR : RelV n w0 O w a E L V own) {bs : List Bool} (h : envOk bs E = true) : RelV n w0 O w a E (Am.keepL bs L) V own where
  glob := hR.glob
  kept := hR.kept
  size := hR.size
  defers := hR.defers
  heap := fun r A hr => by
    rw [hget_keepL] at hr
    split at hr
    · exact hR.heap r A hr
    · cases hr
  good := fun r A hr => by
    rw [hget_keepL] at hr
    split at hr
    · exact hR.good r A hr
    · cases hr
  nodup := fun r A hr => by
    rw [hget_keepL] at hr
    split at hr
    · exact hR.nodup r A hr
    · cases hr
  apart := fun r s A B hr hs => by
    rw [hget_keepL] at hr hs
    split at hr
    · split at hs
      · exact hR.apart r s A B hr hs
      · cases hs
    · cases hr
  env := fun i => by
    refine repP_agree (hR.env i) fun r hr => ⟨rfl, fun A hA => ⟨A, ?_, rfl, rfl⟩⟩
    rw [hget_keepL, if_pos (envOk_spec h i r hr)]
    exact hA

/-! ### The heap's entries, renumbered -/

def idxN (r : Nat) : List Nat → Nat
  | [] => 0
  | x :: l => cond (Nat.beq x r) 0 (idxN r l + 1)

def getN : List Nat → Nat → Nat
  | [], _ => 0
  | x :: _, 0 => x
  | _ :: l, n + 1 => getN l n

def renA (rs : List Nat) : Atom → Atom
  | .osl r rg => .osl (idxN r rs) rg
  | .optr r i p => .optr (idxN r rs) i p
  | A => A

def renP (rs : List Nat) : PV → PV
  | .a A => .a (renA rs A)
  | .tup xs => .tup (xs.map (renA rs))
  | .fn f xs => .fn f (xs.map (renA rs))

def renE (rs : List Nat) (E : Env) : Env := E.map fun q => (q.1, renP rs q.2)

def pickL (rs : List Nat) (L : Heap) : Heap := rs.map fun r => hget L r

def inAll (rs : List Nat) : List Nat → Bool
  | [] => true
  | r :: s => memB r rs && inAll rs s

def envIn (rs : List Nat) : Env → Bool
  | [] => true
  | (_, p) :: r => inAll rs (refsP p) && envIn rs r

theorem hget_pickL : ∀ (rs : List Nat) (L : Heap) (s : Nat) {A : Arr}, hget (pickL rs L) s = some A → s < rs.length ∧ hget L (getN rs s) = some A
  | [], L, s, A, h => by cases s <;> cases h
  | r :: rs, L, 0, A, h => ⟨by simp, h⟩
  | r :: rs, L, s + 1, A, h => by
    obtain ⟨h1, h2⟩ := hget_pickL rs L s h
    exact ⟨by simp; omega, h2⟩

theorem pick_idx : ∀ (rs : List Nat) (L : Heap) (r : Nat), memB r rs = true → hget (pickL rs L) (idxN r rs) = hget L r ∧ getN rs (idxN r rs) = r
  | [], L, r, h => by cases h
  | x :: rs, L, r, h => by
    simp only [memB, Bool.or_eq_true] at h
    simp only [idxN]
    cases hb : Nat.beq x r with
    | true =>
      obtain rfl := Nat.eq_of_beq_eq_true hb
      exact ⟨rfl, rfl⟩
    | false =>
      have : memB r rs = true := by
        rcases h with h | h
        · have := Nat.eq_of_beq_eq_true h
          subst this
          simp at hb
        · exact h
      exact pick_idx rs L r this

theorem getN_mem : ∀ (rs : List Nat) (s : Nat), s < rs.length → getN rs s ∈ rs
  | [], s, h => by simp at h
  | x :: rs, 0, _ => by simp [getN]
  | x :: rs, s + 1, h => List.mem_cons_of_mem _ (getN_mem rs s (by simpa using h))

theorem getN_inj : ∀ (rs : List Nat), nodupB rs = true → ∀ s u, s < rs.length → u < rs.length → getN rs s = getN rs u → s = u
  | [], _, s, u, h, _, _ => by simp at h
  | x :: rs, hn, s, u, h1, h2, he => by
    simp only [nodupB, Bool.and_eq_true, Bool.not_eq_true'] at hn
    have hx : ∀ s, s < rs.length → getN rs s ≠ x := fun s hs e => by
      have := getN_mem rs s hs
      rw [e] at this
      have := memB_iff.2 this
      rw [hn.1] at this
      cases this
    cases s with
    | zero =>
      cases u with
      | zero => rfl
      | succ u => exact absurd he.symm (hx u (by simpa using h2))
    | succ s =>
      cases u with
      | zero => exact absurd he (hx s (by simpa using h1))
      | succ u => rw [getN_inj rs hn.2 s u (by simpa using h1) (by simpa using h2) he]

theorem inAll_spec {rs : List Nat} : ∀ {l : List Nat}, inAll rs l = true → ∀ r ∈ l, memB r rs = true
  | [], _, r, h => by cases h
  | a :: s, h, r, hr => by
    simp only [inAll, Bool.and_eq_true] at h
    rcases List.mem_cons.1 hr with rfl | hr
    · exact h.1
    · exact inAll_spec h.2 r hr

theorem envIn_spec {rs : List Nat} : ∀ {E : Env}, envIn rs E = true → ∀ i, ∀ r ∈ refsP (E.get i), memB r rs = true
  | [], _, i, r, h => by simp [Env.get, refsP, refA] at h
  | (j, p) :: E, h, i, r, hr => by
    simp only [envIn, Bool.and_eq_true] at h
    simp only [Env.get] at hr
    cases hj : Nat.beq j i with
    | true => rw [hj] at hr; exact inAll_spec h.1 r hr
    | false => rw [hj] at hr; exact envIn_spec h.2 i r hr

theorem get_renE (rs : List Nat) : ∀ (E : Env) (i : Nat), (renE rs E).get i = renP rs (E.get i)
  | [], i => rfl
  | (j, p) :: s, i => by
    simp only [renE, List.map_cons, Env.get]
    cases h : Nat.beq j i with
    | true => rfl
    | false => exact get_renE rs s i

theorem renA_rep {w0 : World} {G : Nat → Prop} {rs : List Nat} {A : Atom} {v : Value} (h : RepA w0 G L V A v) (hm : ∀ r ∈ refA A, memB r rs = true) : RepA w0 G (pickL rs L) (fun s => V (getN rs s)) (renA rs A) v := by
  cases A with
  | osl r rg =>
    obtain ⟨B, hB, h1, h2⟩ := h
    obtain ⟨e1, e2⟩ := pick_idx rs L r (hm r (by simp [refA]))
    exact ⟨B, e1.trans hB, fun hr => by show v = V (getN rs (idxN r rs)); rw [e2]; exact h1 hr, by show SubSl _ _ (V (getN rs (idxN r rs))) _ _ _; rw [e2]; exact h2⟩
  | optr r i p =>
    obtain ⟨B, hB, h2⟩ := h
    obtain ⟨e1, e2⟩ := pick_idx rs L r (hm r (by simp [refA]))
    exact ⟨B, e1.trans hB, by show SubPt _ _ (V (getN rs (idxN r rs))) _ _ _; rw [e2]; exact h2⟩
  | _ => exact h

theorem renAs_rep {w0 : World} {G : Nat → Prop} {rs : List Nat} : ∀ {ats : List Atom} {vs : List Value}, RepAs w0 G L V ats vs → (∀ r ∈ ats.flatMap refA, memB r rs = true) → RepAs w0 G (pickL rs L) (fun s => V (getN rs s)) (ats.map (renA rs)) vs
  | [], _, h, _ => h
  | A :: s, vs, ⟨v, r, h, h1, h2⟩, ha => ⟨v, r, h, renA_rep h1 (fun r hr => ha r (by simp [hr])), renAs_rep h2 (fun r hr => ha r (by simp only [List.flatMap_cons, List.mem_append]; exact .inr hr))⟩

theorem RelV.renum (hR : RelV n w0 O w a E L V own) {rs : List Nat} (hn : nodupB rs = true) (h : envIn rs E = true) : RelV n w0 O w a (renE rs E) (pickL rs L) (fun s => V (getN rs s)) (fun s => own (getN rs s)) where
  glob := hR.glob
  kept := hR.kept
  size := hR.size
  defers := hR.defers
  heap := fun r A hr => hR.heap _ A (hget_pickL rs L r hr).2
  good := fun r A hr => hR.good _ A (hget_pickL rs L r hr).2
  nodup := fun r A hr => hR.nodup _ A (hget_pickL rs L r hr).2
  apart := fun r s A B hr hs hrs => by
    obtain ⟨l1, g1⟩ := hget_pickL rs L r hr
    obtain ⟨l2, g2⟩ := hget_pickL rs L s hs
    exact hR.apart _ _ A B g1 g2 fun e => hrs (getN_inj rs hn r s l1 l2 e)
  env := fun i => by
    rw [get_renE]
    have hi := hR.env i
    have hm := envIn_spec h i
    generalize E.get i = p at hi hm
    cases p with
    | a A => exact renA_rep hi hm
    | tup xs => obtain ⟨vs, hv, hr⟩ := hi; exact ⟨vs, hv, renAs_rep hr hm⟩
    | fn f xs => obtain ⟨vs, hv, hr⟩ := hi; exact ⟨vs, hv, renAs_rep hr hm⟩

end
end Go.Am

/- The abstract machine, part 21: how a function is entered and left. -/
namespace Go.Am
set_option linter.unusedVariables false
set_option linter.unusedSimpArgs false

/-! ### Entry -/

def capsA : (caps : List (Bool × Ty)) → capsDen caps → List Atom
  | [], _ => []
  | (true, t) :: r, x => .ptr t x.1 :: capsA r x.2
  | (false, t) :: r, x => toAtom t x.1 :: capsA r x.2

def argA (k : Nat) : (a : AT) → a.den → PV
  | .v t, x => .a (toAtom t x)
  | .p t, x => .a (.ptr t x)
  | .own t, xs => .a (.osl k none)
  | .fn f caps, x => .fn f (capsA caps x)

def nOwn (k : Nat) : AT → Nat
  | .own _ => k + 1
  | _ => k

/-- The slots of the arguments: i: the slot, k: the number of owned arrays so far. -/
def entE : Nat → Nat → (sig : List AT) → sigDen sig → Env
  | _, _, [], _ => []
  | i, k, a :: r, x => (i, argA k a x.1) :: entE (i + 1) (nOwn k a) r x.2

def entL : (sig : List AT) → sigDen sig → Heap
  | [], _ => []
  | .own t :: r, x => some ⟨t, x.1, false⟩ :: entL r x.2
  | .v _ :: r, x => entL r x.2
  | .p _ :: r, x => entL r x.2
  | .fn _ _ :: r, x => entL r x.2

def pinsOf : Nat → List AT → List Nat
  | _, [] => []
  | i, .own _ :: r => i :: pinsOf (i + 1) r
  | i, _ :: r => pinsOf (i + 1) r

def ownBlk : List AT → List (List Nat) → List (List Nat)
  | .own _ :: r, b :: s => b :: ownBlk r s
  | _ :: r, _ :: s => ownBlk r s
  | _, _ => []

def wfCaps : (caps : List (Bool × Ty)) → capsDen caps → Prop
  | [], _ => True
  | (_, t) :: r, x => Wf t x.1 ∧ wfCaps r x.2

def wfA : (a : AT) → a.den → Prop
  | .v t, x => Wf t x
  | .p t, x => Wf t x
  | .own t, xs => Wf (.sl t) xs
  | .fn _ caps, x => wfCaps caps x

def wfSig : (sig : List AT) → sigDen sig → Prop
  | [], _ => True
  | a :: r, x => wfA a x.1 ∧ wfSig r x.2

def noOwn : List AT → Bool
  | [] => true
  | .own _ :: _ => false
  | _ :: r => noOwn r

section
variable {P : Program} {n : Nat} {w0 w : World} {O : List Nat} {a : Act} {V : Nat → Value} {own : Nat → List Nat} {f : FuncId} {R : Ending → World → Prop} {E : Env} {L : Heap}

theorem repB_wf {G : Nat → Prop} {t : Ty} {x : t.den} {v : Value} (h : RepB w G (toAtom t x) v) : Wf t x := by
  cases t with
  | int k => exact h.2
  | bool => trivial
  | str => exact h.2
  | sl e => exact wf_slAt (fun _ _ => RepC.wf) h
  | unit => trivial
  | cons a b => obtain ⟨cs, _, h⟩ := h; exact h.wf

theorem ptr_wf {G : Nat → Prop} {t : Ty} {x : t.den} {v : Value} (h : PtrAt w G t x v) : Wf t x := by
  obtain ⟨_, _, _, _, _, _, h⟩ := h
  exact h.wf

theorem caps_wf {G : Nat → Prop} : ∀ {caps : List (Bool × Ty)} {x : capsDen caps} {vs : List Value}, CapsRep w G caps x vs → wfCaps caps x
  | [], _, _, _ => trivial
  | (true, t) :: r, x, vs, ⟨_, _, _, h, h2⟩ => ⟨ptr_wf h, caps_wf h2⟩
  | (false, t) :: r, x, vs, ⟨_, _, _, h, h2⟩ => ⟨repB_wf h, caps_wf h2⟩

theorem args_wf {G : Nat → Prop} : ∀ {sig : List AT} {x : sigDen sig} {vs : List Value} {bss : List (List Nat)}, ArgsRep w G sig x vs bss → wfSig sig x
  | [], _, _, _, _ => trivial
  | a :: r, x, vs, bss, ⟨_, _, _, _, _, _, h, h2⟩ => by
    refine ⟨?_, args_wf h2⟩
    cases a with
    | v t => exact repB_wf h.2
    | p t => exact ptr_wf h.2
    | own t => exact OwnC.wf h
    | fn g caps => obtain ⟨_, _, _, h⟩ := h; exact caps_wf h

theorem repA_ofB {G : Nat → Prop} {t : Ty} {x : t.den} {v : Value} (h : RepB w0 G (toAtom t x) v) : RepA w0 G L V (toAtom t x) v := by
  cases t <;> exact h

theorem caps_rep {G : Nat → Prop} : ∀ {caps : List (Bool × Ty)} {x : capsDen caps} {vs : List Value}, CapsRep w0 G caps x vs → RepAs w0 G L V (capsA caps x) vs
  | [], _, _, h => h
  | (true, t) :: r, x, vs, ⟨v, s, h1, h, h2⟩ => ⟨v, s, h1, h, caps_rep h2⟩
  | (false, t) :: r, x, vs, ⟨v, s, h1, h, h2⟩ => ⟨v, s, h1, repA_ofB h, caps_rep h2⟩

theorem repA_own {G : Nat → Prop} {r : Nat} {A : Arr} {bs : List Nat} (h : hget L r = some A) (hE : EntC w0 G w A (V r) bs) : RepA w0 G L V (.osl r none) (V r) := by
  refine ⟨A, h, fun _ => rfl, ?_⟩
  refine ⟨Nat.zero_le _, Nat.le_refl _, ?_⟩
  rcases hE.2 with ⟨ad, h1, h2, _⟩ | ⟨b', off, cap, cur, ty, fz, bss, h1, h2, _⟩
  · exact .inl ⟨ad, ad, h1, h1, by rw [h2]; exact ⟨rfl, rfl⟩⟩
  · exact .inr ⟨b', off, A.xs.length, cap, off, cap, h1, by rw [h1]; rfl, by simpa [rgLo, rgHi] using h2, .inl ⟨by simp [rgLo], by simp [rgLo]⟩⟩

/-- The owned arguments, in memory. -/
theorem ent_heap {G : Nat → Prop} : ∀ {sig : List AT} {x : sigDen sig} {vs : List Value} {bss : List (List Nat)}, ArgsRep w0 G sig x vs bss → ∀ r A, hget (entL sig x) r = some A →
    ∃ v b, (ownVals sig vs)[r]? = some v ∧ (ownBlk sig bss)[r]? = some b ∧ EntC w0 G w0 A v b
  | [], _, _, _, _, r, A, h => by cases h
  | a :: sig, x, vs, bss, ⟨v, s, b, bs, h1, h2, h, h3⟩, r, A, hr => by
    subst h1 h2
    cases a with
    | own t =>
      cases r with
      | zero => cases hr; exact ⟨v, b, rfl, rfl, EntC.own.2 h⟩
      | succ r => obtain ⟨v', b', g1, g2, g3⟩ := ent_heap h3 r A hr; exact ⟨v', b', g1, g2, g3⟩
    | v t => exact ent_heap (sig := sig) h3 r A hr
    | p t => exact ent_heap (sig := sig) h3 r A hr
    | fn g caps => exact ent_heap (sig := sig) h3 r A hr

theorem own_bss {G : Nat → Prop} : ∀ {sig : List AT} {x : sigDen sig} {vs : List Value} {bss : List (List Nat)}, ArgsRep w G sig x vs bss → bss.flatten = (ownBlk sig bss).flatten
  | [], _, _, _, h => by obtain ⟨rfl, rfl⟩ := h; rfl
  | a :: r, x, vs, bss, ⟨v, s, b, bs, h1, h2, h, h3⟩ => by
    subst h1 h2
    cases a with
    | own t => simp only [List.flatten_cons, ownBlk, own_bss h3]
    | v t =>
      obtain ⟨rfl, _⟩ := h
      simpa [ownBlk] using own_bss (sig := r) h3
    | p t =>
      obtain ⟨rfl, _⟩ := h
      simpa [ownBlk] using own_bss (sig := r) h3
    | fn g caps =>
      obtain ⟨rfl, _⟩ := h
      simpa [ownBlk] using own_bss (sig := r) h3

theorem own_vals {G : Nat → Prop} : ∀ {sig : List AT} {x : sigDen sig} {vs : List Value} {bss : List (List Nat)} {i : Nat} {q : Nat → Value}, ArgsRep w G sig x vs bss → (∀ j v, vs[j]? = some v → q (i + j) = v) → ownVals sig vs = (pinsOf i sig).map q
  | [], _, _, _, i, q, h, _ => by obtain ⟨rfl, rfl⟩ := h; rfl
  | a :: r, x, vs, bss, i, q, ⟨v, s, b, bs, h1, h2, h, h3⟩, hq => by
    subst h1 h2
    have h0 : q i = v := by have := hq 0 v rfl; simpa using this
    have ih := own_vals (i := i + 1) (q := q) h3 (fun j u hj => by have := hq (j + 1) u (by simpa using hj); rw [show i + 1 + j = i + (j + 1) by omega]; exact this)
    cases a with
    | own t => simp only [ownVals, pinsOf, List.map_cons, h0, ih]
    | v t => exact ih
    | p t => exact ih
    | fn g caps => exact ih

theorem ent_rep {G : Nat → Prop} {tm : Array Value} : ∀ {sig : List AT} {x : sigDen sig} {vs : List Value} {bss : List (List Nat)} {k m : Nat}, ArgsRep w0 G sig x vs bss → (∀ j v, vs[j]? = some v → tm.getD (k + j) undef = v) →
    (∀ r A, hget (entL sig x) r = some A → hget L (m + r) = some A) → (∀ r v, (ownVals sig vs)[r]? = some v → V (m + r) = v) →
    ∀ i, RepP w0 G L V ((entE k m sig x).get i) (tm.getD i undef)
  | [], x, vs, bss, k, m, _, _, _, _, i => trivial
  | a :: r, x, vs, bss, k, m, ⟨v, s, b, bs, h1, h2, h, h3⟩, ht, hL, hV, i => by
    subst h1
    simp only [entE, Env.get]
    cases hki : Nat.beq k i with
    | true =>
      obtain rfl := Nat.eq_of_beq_eq_true hki
      have := ht 0 v rfl
      rw [Nat.add_zero] at this
      simp only [cond_true]
      rw [this]
      cases a with
      | v t => exact repA_ofB h.2
      | p t => exact h.2
      | own t =>
        have hl := hL 0 _ rfl
        have hv := hV 0 v rfl
        rw [Nat.add_zero] at hl hv
        have := repA_own (w0 := w0) (G := G) (V := V) (bs := b) hl (by rw [hv]; exact EntC.own.2 h)
        rw [hv] at this
        exact this
      | fn g caps => obtain ⟨_, vs', hv', hh⟩ := h; exact ⟨vs', hv', caps_rep hh⟩
    | false =>
      simp only [cond_false]
      have ht' : ∀ j u, s[j]? = some u → tm.getD (k + 1 + j) undef = u := fun j u hj => by have := ht (j + 1) u (by simpa using hj); rw [show k + 1 + j = k + (j + 1) by omega]; exact this
      cases a with
      | own t =>
        refine ent_rep h3 ht' (fun r A hr => ?_) (fun r u hr => ?_) i
        · have := hL (r + 1) A hr; show hget L (m + 1 + r) = some A; rw [show m + 1 + r = m + (r + 1) by omega]; exact this
        · have := hV (r + 1) u hr; show V (m + 1 + r) = u; rw [show m + 1 + r = m + (r + 1) by omega]; exact this
      | v t => exact ent_rep (sig := r) h3 ht' hL hV i
      | p t => exact ent_rep (sig := r) h3 ht' hL hV i
      | fn g caps => exact ent_rep (sig := r) h3 ht' hL hV i

theorem args_len {G : Nat → Prop} : ∀ {sig : List AT} {x : sigDen sig} {vs : List Value} {bss : List (List Nat)}, ArgsRep w G sig x vs bss → vs.length = sig.length
  | [], _, _, _, h => by obtain ⟨rfl, _⟩ := h; rfl
  | a :: r, x, vs, bss, ⟨v, s, b, bs, h1, h2, h, h3⟩ => by subst h1; simp [args_len h3]

theorem nodup_get : ∀ {bs : List (List Nat)}, bs.flatten.Nodup → ∀ (r : Nat) (b : List Nat), bs[r]? = some b → b.Nodup ∧ ∀ (s : Nat) (c : List Nat), bs[s]? = some c → r ≠ s → ∀ x ∈ b, x ∉ c
  | [], _, r, b, h => by simp at h
  | d :: bs, hn, r, b, h => by
    obtain ⟨h1, h2, h3⟩ := nodup_flatten_cons hn
    cases r with
    | zero =>
      simp at h
      subst h
      refine ⟨h1, fun s c hs hne x hx hc => ?_⟩
      cases s with
      | zero => exact hne rfl
      | succ s => exact h3 x hx (List.mem_flatten.2 ⟨c, List.mem_of_getElem? (by simpa using hs), hc⟩)
    | succ r =>
      obtain ⟨g1, g2⟩ := nodup_get h2 r b (by simpa using h)
      refine ⟨g1, fun s c hs hne x hx hc => ?_⟩
      cases s with
      | zero =>
        simp at hs
        subst hs
        exact h3 x hc (List.mem_flatten.2 ⟨b, List.mem_of_getElem? (by simpa using h), hx⟩)
      | succ s => exact g2 s c (by simpa using hs) (fun e => hne (by rw [e])) x hx hc

/-! ### The end -/

def PostR (ds : List Dyn) (us : List (Option Lst)) (pins : List Nat) (q : Nat → Value) (w0 : World) (O : List Nat) (e : Ending) (w' : World) : Prop :=
  ∃ rs ubs rbs, e = .returned (packV rs) ∧ Kept O w0 w' ∧ ResRep w' ds rs rbs ∧ UpdRep w' us (pins.map q) ubs ∧ (ubs.flatten ++ rbs.flatten).Nodup ∧ ∀ b ∈ ubs.flatten ++ rbs.flatten, ¬ Good w0 O b

/-- **The contract of a function.** -/
theorem contract_of {fn : Func} {c : Code} {S : Spec} (hf : P.funcs[f]? = some fn) (hb : fn.body = some c) (hl : S.sig.length ≤ fn.ntmps)
    (h : ∀ x, S.pre x → wfSig S.sig x → ∀ w0 O q, AtV P f (PostR (S.res x) (S.upd x) (pinsOf 0 S.sig) q w0 O) fn.ntmps w0 O q (pinsOf 0 S.sig) [.code c] (entE 0 0 S.sig x) (entL S.sig x)) : Contract P f S := by
  intro w x vs bss hgo hpre hargs hnd
  have hlen := args_len hargs
  have hob := own_bss hargs
  have hget0 : ∀ j v, vs[j]? = some v → (vs.toArray ++ Array.replicate (fn.ntmps - vs.toArray.size) undef).getD j undef = v := fun j v hj => by
    have hlt := (List.getElem?_eq_some_iff.1 hj).1
    rw [Array.getD_eq_getD_getElem?, Array.getElem?_append_left (by simpa using hlt)]
    simp [hj]
  let q : Nat → Value := fun i => (vs.toArray ++ Array.replicate (fn.ntmps - vs.toArray.size) undef).getD i undef
  have hov : ownVals S.sig vs = (pinsOf 0 S.sig).map q := own_vals hargs (fun j v hj => by rw [Nat.zero_add]; exact hget0 j v hj)
  let V : Nat → Value := fun r => (ownVals S.sig vs).getD r undef
  let own : Nat → List Nat := fun r => (ownBlk S.sig bss).getD r []
  have hheap : ∀ r A, hget (entL S.sig x) r = some A → EntC w (Good w bss.flatten) w A (V r) (own r) ∧ (ownBlk S.sig bss)[r]? = some (own r) := fun r A hr => by
    obtain ⟨v, b, h1, h2, h3⟩ := ent_heap hargs r A hr
    have e1 : V r = v := by simp only [V, List.getD_eq_getElem?_getD, h1, Option.getD_some]
    have e2 : own r = b := by simp only [own, List.getD_eq_getElem?_getD, h2, Option.getD_some]
    rw [e1, e2]
    exact ⟨h3, h2⟩
  have hnd' : (ownBlk S.sig bss).flatten.Nodup := by rw [← hob]; exact hnd
  refine (calls_of_run hf hb (h x hpre (args_wf hargs) w bss.flatten q _ _ V own ?_ ?_)).mono ?_
  · refine ⟨hgo, Kept.refl _ _, ?_, rfl, (fun r A hr => (hheap r A hr).1), ?_, ?_, ?_, ?_⟩
    · simp [hlen]; omega
    · intro r A hr b hb hg
      exact hg.2 (by rw [hob]; exact List.mem_flatten.2 ⟨_, List.mem_of_getElem? (hheap r A hr).2, hb⟩)
    · intro r A hr
      exact (nodup_get hnd' r _ (hheap r A hr).2).1
    · intro r s A B hr hs hne b hb hb'
      exact (nodup_get hnd' r _ (hheap r A hr).2).2 s _ (hheap s B hs).2 hne b hb hb'
    · refine ent_rep hargs (fun j v hj => by rw [Nat.zero_add]; exact hget0 j v hj) (fun r A hr => by rw [Nat.zero_add]; exact hr) (fun r v hr => by rw [Nat.zero_add]; simp only [V, List.getD_eq_getElem?_getD, hr, Option.getD_some])
  · intro t ht; rfl
  · rintro e w' ⟨rs, ubs, rbs, h1, h2, h3, h4, h5, h6⟩
    exact ⟨rs, ubs, rbs, h1, h2, h3, by rw [hov]; exact h4, h5, h6⟩

/-- What the owned arguments hold at the end. -/
def updO (E : Env) (L : Heap) (gone : List Nat) : List Nat → List (Option Lst) × List Nat
  | [] => ([], [])
  | i :: r => match updO E L gone r with
    | (us, rs) => match E.get i with
      | .a (.osl k none) => match memB k gone, hget L k with
        | false, some ⟨t, xs, false⟩ => (some ⟨t, xs⟩ :: us, k :: rs)
        | _, _ => (none :: us, rs)
      | _ => (none :: us, rs)

theorem updO_spec {q : Nat → Value} {gone : List Nat} (hR : RelV n w0 O w a E L V own) : ∀ {ps : List Nat}, (∀ t ∈ ps, a.tmps.getD t undef = q t) →
    ∃ ubs, UpdRep w (updO E L gone ps).1 (ps.map q) ubs ∧ ubs.flatten = ((updO E L gone ps).2.map own).flatten ∧ ∀ r ∈ (updO E L gone ps).2, ∃ B, hget L r = some B
  | [], _ => ⟨[], ⟨rfl, rfl⟩, rfl, fun r hr => by cases hr⟩
  | i :: ps, hq => by
    obtain ⟨ubs, h1, h2, h3⟩ := updO_spec hR (ps := ps) (fun t ht => hq t (List.mem_cons_of_mem _ ht))
    simp only [updO]
    have skip : ∃ ubs, UpdRep w (none :: (updO E L gone ps).1) ((i :: ps).map q) ubs ∧ ubs.flatten = ((updO E L gone ps).2.map own).flatten ∧ ∀ r ∈ (updO E L gone ps).2, ∃ B, hget L r = some B :=
      ⟨[] :: ubs, ⟨_, _, _, rfl, rfl, h1⟩, by simpa using h2, h3⟩
    split
    · rename_i k hk
      split
      · rename_i t xs _ hA
        have hv := hR.env i
        rw [hk, hq i (List.mem_cons_self ..)] at hv
        obtain ⟨B, _, hB1, _⟩ := hv
        have hE := hR.heap k _ hA
        refine ⟨own k :: ubs, ⟨_, _, _, _, rfl, rfl, ?_, h1⟩, by simp [h2], fun r hr => ?_⟩
        · rw [hB1 rfl]; exact EntC.own.1 hE
        · rcases List.mem_cons.1 hr with rfl | hr
          · exact ⟨_, hA⟩
          · exact h3 r hr
      · exact skip
    · exact skip

/-- A part of an owned slice of flat elements. -/
theorem own_sub {w : World} {t : Ty} (hf : t.flat = true) {xs : List t.den} {V v : Value} {bs : List Nat} {lo hi : Nat} (h : OwnC w (.sl t) xs [V] bs) (hs : SubSl t.size xs.length V lo hi v) : OwnC w (.sl t) (rgL (some (lo, hi)) xs) [v] bs := by
  obtain ⟨V', hV, h⟩ := h
  cases hV
  obtain ⟨hlo, hhi, hcase⟩ := hs
  have hlen : (rgL (some (lo, hi)) xs).length = hi - lo := by
    show ((xs.take hi).drop lo).length = hi - lo
    rw [List.length_drop, List.length_take]; omega
  refine ⟨v, rfl, by rw [hlen]; have := h.1; omega, ?_⟩
  rcases h.2 with ⟨ad, h1, h2, h3⟩ | ⟨b, off, cap, cur, ty, fz, bss, h1, h2, h3, h4, h5, h6, h7, h8, h9⟩
  · subst h2
    have h0 : hi - lo = 0 := by simp at hhi; omega
    have hnil : rgL (some (lo, hi)) ([] : List t.den) = [] := List.eq_nil_of_length_eq_zero (by rw [hlen, h0])
    rcases hcase with ⟨_, ad', _, hv, _⟩ | ⟨b, off, m, cap, o, c, hV, hv, hc, hcase⟩
    · exact .inl ⟨ad', hv, hnil, h3⟩
    · rw [h1] at hV
      simp only [Value.slice.injEq] at hV
      obtain ⟨_, _, hcap⟩ := hV
      have : c = 0 := by rcases hcase with ⟨_, e⟩ | ⟨e, _⟩ <;> omega
      subst this
      exact .inl ⟨_, by rw [hv, h0], hnil, h3⟩
  · have hbn : ∀ l ∈ bss, l = [] := fun l hl => by
      obtain ⟨i, hi', rfl⟩ := List.mem_iff_getElem.1 hl
      have hx : i < xs.length := by rw [← h7]; exact hi'
      obtain ⟨cs, _, _, hr⟩ := h9 i _ _ (List.getElem?_eq_getElem hx) (List.getElem?_eq_getElem hi')
      exact (hr.flat (w' := w) (G := fun _ => True) hf).2
    have hb : bss.flatten = [] := List.flatten_eq_nil_iff.2 hbn
    rcases hcase with ⟨_, _, hV, hv, h0⟩ | ⟨b', off', m, cap', o, c, hV, hv, hc, hcase⟩
    · obtain ⟨h0, rfl⟩ := h0
      have hx0 : xs = [] := List.eq_nil_of_length_eq_zero h0
      subst hx0
      have hnil : rgL (some (lo, hi)) ([] : List t.den) = [] := List.eq_nil_of_length_eq_zero (by rw [hlen]; simp at hhi; omega)
      rw [hnil, hv, ← hV]
      exact .inr ⟨b, off, cap, cur, ty, fz, bss, h1, h2, h3, h4, h5, h6, h7, h8, h9⟩
    · rw [h1] at hV
      cases hV
      refine .inr ⟨b, o, c, cur, ty, fz, ((bss.take hi).drop lo), by rw [hv, hlen], by rw [hlen]; exact hc, by omega, ?_, h5, h6, by rw [hlen, List.length_drop, List.length_take, h7]; omega, ?_, fun i x bi hx hbi => ?_⟩
      · rcases hcase with ⟨e1, e2⟩ | ⟨e1, e2⟩
        · have : (lo + c) * t.size ≤ cap * t.size := Nat.mul_le_mul_right _ e2
          rw [Nat.add_mul] at this
          omega
        · rw [e1]; omega
      · have : ((bss.take hi).drop lo).flatten = [] := List.flatten_eq_nil_iff.2 fun l hl => hbn l (List.mem_of_mem_take (List.mem_of_mem_drop hl))
        rw [h8, hb, this]
      · have hx' : xs[lo + i]? = some x := by
          change ((xs.take hi).drop lo)[i]? = some x at hx
          rw [List.getElem?_drop, List.getElem?_take] at hx
          split at hx
          · exact hx
          · cases hx
        have hb' : bss[lo + i]? = some bi := by
          rw [List.getElem?_drop, List.getElem?_take] at hbi
          split at hbi
          · exact hbi
          · cases hbi
        obtain ⟨cs, e1, e2, e3⟩ := h9 (lo + i) x bi hx' hb'
        refine ⟨cs, e1, fun j u hj => ?_, e3⟩
        have hi0 : i < hi - lo := by
          rw [← hlen]
          exact (List.getElem?_eq_some_iff.1 hx).1
        rcases hcase with ⟨f1, _⟩ | ⟨f1, _⟩
        · have := e2 j u hj
          rw [Nat.add_mul] at this
          rw [f1]
          rwa [show off + lo * t.size + i * t.size + j = off + (lo * t.size + i * t.size) + j by omega]
        · omega

def decO (L : Heap) : (t : Ty) → Atom → Option (t.den × List Nat)
  | .sl e, .osl r none => match hget L r with
    | some A => match A.bor with
      | true => none
      | false => if h : A.t = e then some (castL h A.xs, [r]) else none
    | none => none
  | .sl e, .osl r (some (lo, hi)) => match hget L r with
    | some A => match e.flat && !A.bor with
      | true => if h : A.t = e then some (rgL (some (lo, hi)) (castL h A.xs), [r]) else none
      | false => none
    | none => none
  | .sl e, .val (.slice none _ _) => some ([], [])
  | t, A => match t.flat with
    | true => match decB t A with
      | some x => some (x, [])
      | none => none
    | false => none

def cellA (tab : List TI) (L : Heap) (T : TypeId) (A : Atom) : Option Atom :=
  match (tabGet tab T).ty with
  | some t => loadA L t A
  | none => none

def finA (tab : List TI) (E : Env) (L : Heap) : List Ty → List ResultVar → Option (List Dyn × List Nat)
  | [], [] => some ([], [])
  | t :: ts, .tmp i :: r => match E.get i with
    | .a A => match decO L t A, finA tab E L ts r with
      | some (x, us), some (ds, vs) => some (⟨t, x⟩ :: ds, us ++ vs)
      | _, _ => none
    | _ => none
  | t :: ts, .cell i T :: r => match E.get i with
    | .a A => match cellA tab L T A with
      | some B => match decO L t B, finA tab E L ts r with
        | some (x, us), some (ds, vs) => some (⟨t, x⟩ :: ds, us ++ vs)
        | _, _ => none
      | none => none
    | _ => none
  | _, _ => none

theorem cell_run {T : TypeId} {u v : Value} (h : (Instr.loadAt T u).run P w = .ok v w) : (do loadVar T (← asAddr u) : Sem Value).run P w = .ok v w := by
  cases u with
  | pointer a =>
    cases a with
    | none => simp [Instr.loadAt, Instr.sureAddr] at h
    | some a => simpa [Instr.loadAt, Instr.sureAddr, asAddr] using h
  | _ => simp [Instr.loadAt, Instr.sureAddr] at h

theorem decO_flat (hR : RelV n w0 O w a E L V own) {t : Ty} {A : Atom} {x : t.den} {us : List Nat} {v : Value} (hv : RepA w0 (Good w0 O) L V A v) (h : (match t.flat with | true => (match decB t A with | some x => some (x, ([] : List Nat)) | none => none) | false => none) = some (x, us)) :
    us = [] ∧ ∃ cs, OwnC w t x cs [] ∧ IsVal t cs v := by
  split at h
  · rename_i hf
    split at h
    · rename_i y hd
      cases h
      have hB : RepB w0 (Good w0 O) A v := by
        cases A with
        | osl r rg => cases t <;> cases hd
        | optr r i p => cases t <;> cases hd
        | _ => exact hv
      obtain ⟨cs, hv, _, _, hent⟩ := entR_of_decB hB hd false (fun _ => hf)
      refine ⟨rfl, cs, hent w, ?_⟩
      have hrl := (OwnC.length (hent w) : cs.length = t.size)
      subst hv
      cases t with
      | sl e => cases hf
      | int k => have hh : OwnC w (.int k) x cs [] := hent w; obtain ⟨rfl, _⟩ := hh; rfl
      | bool => have hh : OwnC w .bool x cs [] := hent w; obtain ⟨rfl, _⟩ := hh; rfl
      | str => have hh : OwnC w .str x cs [] := hent w; obtain ⟨rfl, _⟩ := hh; rfl
      | unit => rfl
      | cons a b => rfl
    · cases h
  · cases h

theorem decO_spec (hR : RelV n w0 O w a E L V own) {t : Ty} {A : Atom} {x : t.den} {us : List Nat} {v : Value} (hv : RepA w0 (Good w0 O) L V A v) (h : decO L t A = some (x, us)) :
    (∃ cs, OwnC w t x cs (us.map own).flatten ∧ IsVal t cs v) ∧ ∀ r ∈ us, ∃ B, hget L r = some B := by
  unfold decO at h
  split at h
  · rename_i e r
    split at h
    · rename_i B hB
      split at h
      · cases h
      · rename_i hbor
        split at h
        · rename_i he
          cases h
          obtain ⟨B', hB', h1, _⟩ := hv
          rw [hB] at hB'
          cases hB'
          refine ⟨⟨[v], ?_, rfl⟩, fun s hs => ⟨B, by rw [List.mem_singleton.1 hs]; exact hB⟩⟩
          have := hR.heap r B hB
          obtain ⟨t', xs, bor⟩ := B
          simp only at hbor he
          subst hbor he
          rw [h1 rfl]
          simp only [List.map_cons, List.map_nil, List.flatten_cons, List.flatten_nil, List.append_nil]
          exact EntC.own.1 this
        · cases h
    · cases h
  · rename_i e r lo hi
    split at h
    · rename_i B hB
      split at h
      · rename_i hfb
        split at h
        · rename_i he
          cases h
          obtain ⟨B', hB', _, h2⟩ := hv
          rw [hB] at hB'
          cases hB'
          have hent := hR.heap r B hB
          obtain ⟨t', xs, bor⟩ := B
          simp only [Bool.and_eq_true, Bool.not_eq_true'] at hfb he
          obtain ⟨hf, hbor⟩ := hfb
          subst hbor he
          refine ⟨⟨[v], ?_, rfl⟩, fun s hs => ⟨⟨t', xs, false⟩, by rw [List.mem_singleton.1 hs]; exact hB⟩⟩
          simp only [List.map_cons, List.map_nil, List.flatten_cons, List.flatten_nil, List.append_nil]
          exact own_sub hf (EntC.own.1 hent) h2
        · cases h
      · cases h
    · cases h
  · rename_i e n c
    cases h
    obtain ⟨rfl, hn, hc⟩ := hv
    subst hn hc
    exact ⟨⟨_, ⟨_, rfl, by simp [maxLen], .inl ⟨_, rfl, rfl, rfl⟩⟩, rfl⟩, fun r hr => by cases hr⟩
  · obtain ⟨rfl, cs, h1, h2⟩ := decO_flat hR hv h
    exact ⟨⟨cs, by simpa using h1, h2⟩, fun r hr => by cases hr⟩

theorem finA_spec {tab : List TI} (hT : TabOk P tab) (hR : RelV n w0 O w a E L V own) : ∀ {ts : List Ty} {rv : List ResultVar} {ds : List Dyn} {us : List Nat}, finA tab E L ts rv = some (ds, us) →
    ∃ rs bss, (rv.mapM fun x => (match x with | .tmp t => pure (a.tmps.getD t undef) | .cell b t => do loadVar t (← asAddr (a.tmps.getD b undef)) : Sem Value)).run P w = .ok rs w ∧ rs.length = rv.length ∧ ResRep w ds rs bss ∧ bss.flatten = (us.map own).flatten ∧ ∀ r ∈ us, ∃ B, hget L r = some B
  | [], [], ds, us, h => by cases h; exact ⟨[], [], by simp, rfl, ⟨rfl, rfl⟩, rfl, fun r hr => by cases hr⟩
  | t :: ts, .tmp i :: rv, ds, us, h => by
    simp only [finA] at h
    split at h
    · rename_i A hA
      split at h
      · rename_i x u ds' vs hd hf
        cases h
        have hv : RepA w0 (Good w0 O) L V A (a.tmps.getD i undef) := by
          have := hR.env i
          rw [hA] at this
          exact this
        obtain ⟨⟨cs, h1, h2⟩, h3⟩ := decO_spec hR hv hd
        obtain ⟨rs, bss, g1, g2, g3, g4, g5⟩ := finA_spec hT hR hf
        refine ⟨a.tmps.getD i undef :: rs, (u.map own).flatten :: bss, ?_, by simp [g2], ⟨_, _, _, _, cs, rfl, rfl, h1, h2, g3⟩, ?_, ?_⟩
        · rw [List.mapM_cons]
          simp only [Sem.run_bind, Sem.run_pure, Result.andThen_ok]
          rw [g1]
          rfl
        · simp [g4]
        · intro r hr
          rcases List.mem_append.1 hr with hr | hr
          · exact h3 r hr
          · exact g5 r hr
      · cases h
    · cases h
  | t :: ts, .cell i T :: rv, ds, us, h => by
    simp only [finA] at h
    split at h
    · rename_i A hA
      split at h
      · rename_i B hB
        split at h
        · rename_i x u ds' vs hd hf
          cases h
          have hv : RepA w0 (Good w0 O) L V A (a.tmps.getD i undef) := by
            have := hR.env i
            rw [hA] at this
            exact this
          unfold cellA at hB
          split at hB
          · rename_i t0 ht0
            obtain ⟨v, hv', hrun⟩ := loadA_spec (P := P) hR (TI.ty_ok (hT T) ht0) hv hB
            obtain ⟨⟨cs, h1, h2⟩, h3⟩ := decO_spec hR hv' hd
            obtain ⟨rs, bss, g1, g2, g3, g4, g5⟩ := finA_spec hT hR hf
            refine ⟨v :: rs, (u.map own).flatten :: bss, ?_, by simp [g2], ⟨_, _, _, _, cs, rfl, rfl, h1, h2, g3⟩, ?_, ?_⟩
            · have hc := cell_run (hrun w (Kept.refl _ _))
              rw [List.mapM_cons, Sem.run_bind]
              refine (congrArg (fun r => Result.andThen r _) hc).trans ?_
              simp only [Result.andThen_ok, Sem.run_bind]
              rw [g1]
              rfl
            · simp [g4]
            · intro r hr
              rcases List.mem_append.1 hr with hr | hr
              · exact h3 r hr
              · exact g5 r hr
          · cases hB
        · cases h
      · cases h
    · cases h
  | [], _ :: _, _, _, h => by cases h
  | _ :: _, [], _, _, h => by cases h

/-- A run to the end of the function. -/
def runF (tab : List TI) (ext : Ext) (wr : Bool) (n : Nat) (stops : List Nat) (m : Nat) (pins : List Nat) (ts : List Ty) (rv : Array ResultVar) (path : List Bool) (k : List Item) (E : Env) (L : Heap) : Option (List Dyn × List (Option Lst) × List Prop) :=
  match runA tab ext wr n stops m true k ⟨path, [], E, L, [], pins⟩ with
  | some (.fin S) => match finA tab S.E S.L ts rv.toList with
    | some (ds, us) => match nodupB ((updO S.E S.L us pins).2 ++ us) && decide (S.pins = pins) with
      | true => some (ds, (updO S.E S.L us pins).1, S.cs)
      | false => none
    | none => none
  | _ => none

/-- What is owned may be given up. -/
theorem PostR.forget {ds : List Dyn} {us : List (Option Lst)} {pins : List Nat} {q : Nat → Value} {w0 : World} {O : List Nat} {e : Ending} {w' : World} (h : PostR ds us pins q w0 O e w') : PostR ds (us.map fun _ => none) pins q w0 O e w' := by
  obtain ⟨rs, ubs, rbs, h1, h2, h3, h4, h5, h6⟩ := h
  have key : ∀ (us : List (Option Lst)) (vs : List Value) (ubs : List (List Nat)), UpdRep w' us vs ubs → ∃ nbs : List (List Nat), UpdRep w' (us.map fun _ => none) vs nbs ∧ nbs.flatten = [] := by
    intro us
    induction us with
    | nil => intro vs ubs h; exact ⟨[], ⟨h.1, rfl⟩, rfl⟩
    | cons u r ih =>
      intro vs ubs h
      cases u with
      | none =>
        obtain ⟨v, s, bs, rfl, rfl, h⟩ := h
        obtain ⟨nbs, g1, g2⟩ := ih _ _ h
        exact ⟨[] :: nbs, ⟨_, _, _, rfl, rfl, g1⟩, by simpa using g2⟩
      | some A =>
        obtain ⟨v, s, b, bs, rfl, rfl, _, h⟩ := h
        obtain ⟨nbs, g1, g2⟩ := ih _ _ h
        exact ⟨[] :: nbs, ⟨_, _, _, rfl, rfl, g1⟩, by simpa using g2⟩
  obtain ⟨nbs, g1, g2⟩ := key _ _ _ h4
  refine ⟨rs, nbs, rbs, h1, h2, h3, g1, ?_, ?_⟩
  · rw [g2, List.nil_append]
    rw [List.nodup_append] at h5
    exact h5.2.1
  · rw [g2, List.nil_append]
    exact fun b hb => h6 b (List.mem_append_right _ hb)

theorem AtV.mono {R' : Ending → World → Prop} {q : Nat → Value} {ps : List Nat} {k : List Item} (h : AtV P f R n w0 O q ps k E L) (hm : ∀ e w, R e w → R' e w) : AtV P f R' n w0 O q ps k E L := by
  intro a w V own hR hq b cs hb hk
  obtain ⟨e, w', fr, h1, h2⟩ := h a w V own hR hq b cs hb hk
  exact ⟨e, w', fr, hm _ _ h1, h2⟩

/-- The end, the owned arguments given up. -/
theorem AtV.forget {ds : List Dyn} {us : List (Option Lst)} {q : Nat → Value} {pins ps : List Nat} {k : List Item} (h : AtV P f (PostR ds us pins q w0 O) n w0 O q ps k E L) : AtV P f (PostR ds (us.map fun _ => none) pins q w0 O) n w0 O q ps k E L :=
  h.mono fun _ _ h => h.forget

theorem AtV.fin {fn : Func} (hf : P.funcs[f]? = some fn) {tab : List TI} {ext : Ext} (hT : TabOk P tab) (hX : ExtOk P ext) (hm : P.follows .mixedOrders = true) {q : Nat → Value} {pins : List Nat} {wr : Bool} {stops : List Nat} {m : Nat} {ts : List Ty} {path : List Bool} {k : List Item} {ds : List Dyn} {us : List (Option Lst)} {cs : List Prop}
    (h : runF tab ext wr n stops m pins ts fn.results path k E L = some (ds, us, cs)) (hc : All cs) : AtV P f (PostR ds us pins q w0 O) n w0 O q pins k E L := by
  intro a w V own hR hq
  unfold runF at h
  split at h
  · rename_i S hr
    split at h
    · rename_i ds' us' hfin
      split at h
      · rename_i hnd
        simp only [Bool.and_eq_true, decide_eq_true_eq] at hnd
        obtain ⟨hnd, hp⟩ := hnd
        cases h
        refine runA_run hT hX hm hr hc hR ⟨fun t d ht => by simp [lookB] at ht, hq⟩ ?_
        intro a' w' V' own' hR' hq'
        rw [hp] at hq'
        obtain ⟨rs, bss, g1, g2, g3, g4, g5⟩ := finA_spec (P := P) hT hR' hfin
        obtain ⟨ubs, k1, k2, k3⟩ := updO_spec hR' hq'
        have hall : ubs.flatten ++ bss.flatten = (((updO S.E S.L us' pins).2 ++ us').map own').flatten := by rw [k2, g4, List.map_append, List.flatten_append]
        have hlive : ∀ r ∈ (updO S.E S.L us' pins).2 ++ us', ∃ B, hget S.L r = some B := fun r hr => by
          rcases List.mem_append.1 hr with hr | hr
          · exact k3 r hr
          · exact g5 r hr
        refine ⟨hR'.defers, fn, packV rs, hf, ?_, rs, ubs, bss, rfl, hR'.kept, g3, k1, ?_, ?_⟩
        · unfold results
          have hm' : (fn.results.mapM fun x => (match x with | .tmp t => pure (a'.tmps.getD t undef) | .cell b t => do loadVar t (← asAddr (a'.tmps.getD b undef)) : Sem Value)).run P w' = .ok rs.toArray w' := by
            rw [show fn.results = fn.results.toList.toArray from rfl, List.mapM_toArray]
            simp only [map_eq_pure_bind, Sem.run_bind, g1, Result.andThen_ok, Sem.run_pure]
          simp only [Sem.run_bind]
          refine (congrArg (fun r => Result.andThen r _) hm').trans ?_
          simp only [Result.andThen_ok, Sem.run_pure]
          congr 1
          match rs with
          | [] => rfl
          | [v] => rfl
          | _ :: _ :: _ => simp [packV]
        · rw [hall]; exact own_nodup hR' (nodupB_spec hnd) hlive
        · intro b hb
          rw [hall] at hb
          obtain ⟨l, hl, hb⟩ := List.mem_flatten.1 hb
          obtain ⟨r, hr, rfl⟩ := List.mem_map.1 hl
          obtain ⟨B, hB⟩ := hlive r hr
          exact hR'.good r B hB b hb
      · cases h
    · cases h
  · cases h
end
end Go.Am

/- The abstract machine, part 22: a law's arguments, and its statement. -/
namespace Go.Am
open Go.ChangeShapes Go.WideShapes Go.ChangeAt Go.RowKit
set_option linter.unusedVariables false
set_option linter.unusedSimpArgs false

def wrapB (P : Program) (agg : Bool) (T : TypeId) (k : TypeId ⊕ (List Field × Nat) → Bool) : Bool :=
  match agg with
  | true => match P.underlying T with
    | some (.struct fs) => k (.inr (fs.toList, 0))
    | _ => false
  | false => k (.inl T)


/-- A type that holds no pointer reads as a tree. -/
def readsB (P : Program) : Ty → TypeId ⊕ (List Field × Nat) → Bool
  | .int k, .inl T => isIntB k (P.underlying T)
  | .bool, .inl T => isBoolB (P.underlying T)
  | .str, .inl T => isStrB (P.underlying T)
  | .unit, .inr ([], _) => true
  | .cons a b, .inr (f :: fs, o) => Nat.beq f.offset o && (Nat.beq (P.cellsOf f.type) a.size && (wrapB P a.agg f.type (readsB P a) && readsB P b (.inr (fs, o + a.size))))
  | _, _ => false

def readsT (P : Program) (t : Ty) (T : TypeId) : Bool := Nat.beq (P.cellsOf T) t.size && wrapB P t.agg T (readsB P t)

section
variable {H : Type} {enc : TypeId × Value → H} {P : Program} {w : World} {base : Nat} {spare : Nat → Bool} {held : Bool} {G : Nat → Prop}


def TrodOne (enc : TypeId × Value → H) (P : Program) (w : World) (base : Nat) (spare : Nat → Bool) (held : Bool) (cs : List Value) (f : Field) : Prop :=
  ∃ n x, DataW.trod enc P w base spare held n f.type ((cs.drop f.offset).take (P.cellsOf f.type)) = some x

theorem trod_fields {T : TypeId} {fs : Array Field} {fuel : Nat} {cs : List Value} {x : DataW H × List MemPlace} (ht : P.underlying T = some (.struct fs)) (h : DataW.trod enc P w base spare held fuel T cs = some x) :
    cs.length = P.cellsOf T ∧ ∀ f ∈ fs.toList, TrodOne enc P w base spare held cs f := by
  obtain ⟨xs, n, _, _, hl, hx, hf⟩ := DataW.trod_struct ht h
  refine ⟨hl, fun f hf' => ?_⟩
  obtain ⟨i, hi⟩ := List.getElem?_of_mem hf'
  rw [Array.getElem?_toList] at hi
  have hlt : i < fs.size := (Array.getElem?_eq_some_iff.1 hi).1
  have := hf i f hi
  exact ⟨n, xs[i]'(by omega), by rw [this]; exact List.getElem?_eq_getElem _⟩

theorem trod_rep : ∀ (t : Ty),
    (∀ T fuel cs x, wrapB P t.agg T (readsB P t) = true → P.cellsOf T = t.size → DataW.trod enc P w base spare held fuel T cs = some x → ∃ y, RepC w G t y cs) ∧
    (∀ fs o cs, readsB P t (.inr (fs, o)) = true → (∀ f ∈ fs, TrodOne enc P w base spare held cs f) → cs.length = o + t.size → ∃ y, RepC w G t y (cs.drop o))
  | .int k => by
    refine ⟨fun T fuel cs x h _ ht => ?_, fun fs o cs h => by simp [readsB] at h⟩
    have hu := isIntB_eq (by simpa [wrapB, Ty.agg, readsB] using h)
    obtain ⟨n, rfl, _, hw⟩ := DataW.trod_int hu ht
    exact ⟨n, rfl, by simpa [Lit.wf, InR] using hw⟩
  | .bool => by
    refine ⟨fun T fuel cs x h _ ht => ?_, fun fs o cs h => by simp [readsB] at h⟩
    have hu := isBoolB_eq (by simpa [wrapB, Ty.agg, readsB] using h)
    obtain ⟨b, rfl, _⟩ := DataW.trod_bool hu ht
    exact ⟨b, rfl⟩
  | .str => by
    refine ⟨fun T fuel cs x h _ ht => ?_, fun fs o cs h => by simp [readsB] at h⟩
    have hu := isStrB_eq (by simpa [wrapB, Ty.agg, readsB] using h)
    obtain ⟨s, rfl, _, hs⟩ := DataW.trod_string hu ht
    exact ⟨s, rfl, hs⟩
  | .sl e => by
    exact ⟨fun T fuel cs x h => by simp [wrapB, Ty.agg, readsB] at h, fun fs o cs h => by simp [readsB] at h⟩
  | .unit => by
    have hB : ∀ fs o cs, readsB P .unit (.inr (fs, o)) = true → (∀ f ∈ fs, TrodOne enc P w base spare held cs f) → cs.length = o + Ty.unit.size → ∃ y, RepC w G .unit y (cs.drop o) := by
      intro fs o cs h _ hl
      refine ⟨(), ?_⟩
      show cs.drop o = []
      rw [List.drop_eq_nil_iff]
      simp [Ty.size] at hl
      omega
    refine ⟨fun T fuel cs x h hc ht => ?_, hB⟩
    simp only [wrapB, Ty.agg] at h
    split at h
    · rename_i fs hu
      obtain ⟨h1, h2⟩ := trod_fields hu ht
      simpa using hB _ _ cs h h2 (by rw [h1, hc]; simp)
    · cases h
  | .cons a b => by
    obtain ⟨ha, _⟩ := trod_rep a
    obtain ⟨_, hb⟩ := trod_rep b
    have hB : ∀ fs o cs, readsB P (.cons a b) (.inr (fs, o)) = true → (∀ f ∈ fs, TrodOne enc P w base spare held cs f) → cs.length = o + (Ty.cons a b).size → ∃ y, RepC w G (.cons a b) y (cs.drop o) := by
      intro fs o cs h hf hl
      match fs, h with
      | [], h => simp [readsB] at h
      | f :: fs, h =>
        simp only [readsB, Bool.and_eq_true] at h
        obtain ⟨h1, h2, h3, h4⟩ := h
        have h1 := Nat.eq_of_beq_eq_true h1
        have h2 := Nat.eq_of_beq_eq_true h2
        simp only [Ty.size] at hl
        obtain ⟨n, x, hx⟩ := hf f (List.mem_cons_self ..)
        rw [h1, h2] at hx
        obtain ⟨y1, hy1⟩ := ha _ _ _ _ h3 h2 hx
        obtain ⟨y2, hy2⟩ := hb fs (o + a.size) cs h4 (fun g hg => hf g (List.mem_cons_of_mem _ hg)) (by omega)
        refine ⟨(y1, y2), _, _, ?_, hy1, hy2⟩
        rw [← List.drop_drop]
        exact (List.take_append_drop _ _).symm
    refine ⟨fun T fuel cs x h hc ht => ?_, hB⟩
    simp only [wrapB, Ty.agg] at h
    split at h
    · rename_i fs hu
      obtain ⟨h1, h2⟩ := trod_fields hu ht
      simpa using hB _ _ cs h h2 (by rw [h1, hc]; simp)
    · cases h

/-- An argument's type: one that holds no pointer, or a slice of such. -/
def argB (P : Program) : Ty → TypeId → Bool
  | .sl e, T => match P.underlying T with
    | some (.slice E) => readsT P e E && !Nat.beq e.size 0
    | _ => false
  | t, T => readsT P t T

theorem okWide_agg {r : Reach} {b0 : Nat} {T : TypeId} {v : Value} {fs : Array Field} (hu : P.underlying T = some (.struct fs)) (h : Value.okWide P w r b0 T v) : ∃ cs, v = .agg cs := by
  simp only [Value.okWide, hu] at h
  obtain ⟨cs, hv, _⟩ := h
  exact ⟨cs, hv⟩

theorem trod_flat_arg {r : Reach} {b0 : Nat} {t : Ty} {T : TypeId} {v : Value} {d : DataW H} {ps : List MemPlace} (hB : readsT P t T = true) (hv : Value.okWide P w r b0 T v) (h : DataW.Trod enc P w base spare held T v d ps) :
    ∃ x : t.den, RepB w G (toAtom t x) v := by
  simp only [readsT, Bool.and_eq_true] at hB
  obtain ⟨hc, hB⟩ := hB
  have hc := Nat.eq_of_beq_eq_true hc
  obtain ⟨fuel, hf⟩ := h
  obtain ⟨y, hy⟩ := (trod_rep (G := G) t).1 T fuel _ _ hB hc hf
  refine ⟨y, ?_⟩
  cases t with
  | int k =>
    have hu := isIntB_eq (by simpa [wrapB, Ty.agg, readsB] using hB)
    obtain ⟨n, rfl⟩ := okWide_int hu hv
    obtain ⟨h1, h2⟩ := hy
    simp [Value.cells] at h1
    subst h1
    exact ⟨rfl, h2⟩
  | bool =>
    have hu := isBoolB_eq (by simpa [wrapB, Ty.agg, readsB] using hB)
    obtain ⟨b, rfl⟩ := okWide_bool hu hv
    have h1 : ([.bool b] : List Value) = [.bool y] := hy
    cases h1
    exact ⟨rfl, trivial⟩
  | str =>
    have hu := isStrB_eq (by simpa [wrapB, Ty.agg, readsB] using hB)
    obtain ⟨s, rfl⟩ := okWide_string hu hv
    obtain ⟨h1, h2⟩ := hy
    simp [Value.cells] at h1
    subst h1
    exact ⟨rfl, h2⟩
  | sl e => simp [wrapB, Ty.agg, readsB] at hB
  | unit =>
    simp only [wrapB, Ty.agg] at hB
    split at hB
    · rename_i fs hu
      obtain ⟨cs, rfl⟩ := okWide_agg hu hv
      exact ⟨cs.toList, by simp, hy⟩
    · cases hB
  | cons a b =>
    simp only [wrapB, Ty.agg] at hB
    split at hB
    · rename_i fs hu
      obtain ⟨cs, rfl⟩ := okWide_agg hu hv
      exact ⟨cs.toList, by simp, hy⟩
    · cases hB

theorem cells_list {a : Addr} {n : Nat} {cs : List Value} (h : w.cells? base a n = some cs) : cs.length = n ∧ ∀ j c, cs[j]? = some c → w.cell? (a.add j) = some c := by
  unfold World.cells? at h
  split at h
  · have key : ∀ (l : List Nat) (cs : List Value), (l.mapM fun i => w.cell? (a.add i)) = some cs → cs.length = l.length ∧ ∀ (j : Nat) (c : Value) (i : Nat), cs[j]? = some c → l[j]? = some i → w.cell? (a.add i) = some c := by
      intro l
      induction l with
      | nil => intro cs h; simp at h; subst h; simp
      | cons i l ih =>
        intro cs h
        rw [List.mapM_cons] at h
        cases hc : w.cell? (a.add i) with
        | none => simp [hc] at h
        | some c =>
          cases hr : l.mapM fun i => w.cell? (a.add i) with
          | none => simp [hc, hr] at h
          | some r =>
            simp [hc, hr] at h
            subst h
            obtain ⟨h1, h2⟩ := ih r hr
            refine ⟨by simp [h1], fun j c' i' hj hi => ?_⟩
            cases j with
            | zero => simp at hj hi; subst hj hi; exact hc
            | succ j => exact h2 j c' i' (by simpa using hj) (by simpa using hi)
    obtain ⟨h1, h2⟩ := key _ _ h
    refine ⟨by simpa using h1, fun j c hj => h2 j c j hj ?_⟩
    have hlt := (List.getElem?_eq_some_iff.1 hj).1
    have h1' : cs.length = n := by simpa using h1
    rw [List.getElem?_range (by omega)]
  · cases h

theorem has_spot {r : Reach} {b0 : Nat} {T E : TypeId} {a : Addr} {len cap : Nat} (hu : P.underlying T = some (.slice E)) (hv : Value.okWide P w r b0 T (.slice (some a) len cap)) : a.spot = none ∧ a.block < w.heap.size := by
  simp only [Value.okWide, hu, Cell.okWide, Cell.ok] at hv
  obtain ⟨_, _, hh⟩ := hv
  obtain ⟨_, hs, row, cells, hsh, _⟩ := hh
  refine ⟨hs, ?_⟩
  rcases Nat.lt_or_ge a.block w.heap.size with hlt | hge
  · exact hlt
  · simp [World.shape?, Array.getElem?_eq_none hge] at hsh

theorem trod_arg {r : Reach} {b0 : Nat} {t : Ty} {T : TypeId} {v : Value} {d : DataW H} {ps : List MemPlace} (hB : argB P t T = true) (hv : Value.okWide P w r b0 T v) (h : DataW.Trod enc P w base spare held T v d ps) :
    ∃ x : t.den, RepB w (Good w []) (toAtom t x) v := by
  unfold argB at hB
  split at hB
  · rename_i e
    split at hB
    · rename_i E hu
      simp only [Bool.and_eq_true] at hB
      obtain ⟨hr, hz⟩ := hB
      simp only [readsT, Bool.and_eq_true] at hr
      obtain ⟨hc, hr⟩ := hr
      have hc := Nat.eq_of_beq_eq_true hc
      obtain ⟨a0, len, cap, rfl⟩ := okWide_slice hu hv
      obtain ⟨fuel, hf⟩ := h
      rcases DataW.trod_slice hu hf with ⟨h1, _⟩ | ⟨a, len', cap', elems, rest, n, _, h1, _, _, hl, hm, hlen, hel, _⟩
      · simp [Value.cells] at h1
        obtain ⟨rfl, rfl, rfl⟩ := h1
        exact ⟨[], by simp [maxLen], .inl ⟨_, rfl, rfl⟩⟩
      · simp [Value.cells] at h1
        obtain ⟨rfl, rfl, rfl⟩ := h1
        obtain ⟨hs, hb⟩ := has_spot hu hv
        obtain ⟨b, off, spot⟩ := a
        simp only at hs hb
        subst hs
        have each : ∀ i, i < len → ∃ y cs, cs.length = e.size ∧ (∀ j c, cs[j]? = some c → w.cell? ⟨b, off + i * e.size + j, none⟩ = some c) ∧ RepC w (Good w []) e y cs := by
          intro i hi
          have hx := hel i hi
          rw [List.getElem?_eq_getElem (by omega)] at hx
          simp only [Option.bind_eq_some_iff] at hx
          obtain ⟨cs, g1, g2⟩ := hx
          obtain ⟨k1, k2⟩ := cells_list g1
          obtain ⟨y, hy⟩ := (trod_rep (G := Good w []) e).1 E _ _ _ hr hc g2
          refine ⟨y, cs, by rw [k1, hc], fun j c hj => ?_, hy⟩
          have := k2 j c hj
          rw [hc] at this
          rw [Addr.add_lit, Addr.add_lit] at this
          exact this
        have build : ∀ k, k ≤ len → ∃ ys : List e.den, ys.length = k ∧ ∀ i y, ys[i]? = some y → ∃ cs, cs.length = e.size ∧ (∀ j c, cs[j]? = some c → w.cell? ⟨b, off + i * e.size + j, none⟩ = some c) ∧ RepC w (Good w []) e y cs := by
          intro k
          induction k with
          | zero => intro _; exact ⟨[], rfl, fun i y h => by simp at h⟩
          | succ k ih =>
            intro hk
            obtain ⟨ys, h1, h2⟩ := ih (by omega)
            obtain ⟨y, cs, g1, g2, g3⟩ := each k (by omega)
            refine ⟨ys ++ [y], by simp [h1], fun i z hz => ?_⟩
            by_cases hi : i < ys.length
            · rw [List.getElem?_append_left hi] at hz
              exact h2 i z hz
            · have hlt := (List.getElem?_eq_some_iff.1 hz).1
              simp at hlt
              have : i = k := by omega
              subst this
              rw [List.getElem?_append_right (by omega)] at hz
              simp [h1] at hz
              subst hz
              exact ⟨cs, g1, g2, g3⟩
        obtain ⟨ys, h1, h2⟩ := build len (Nat.le_refl _)
        refine ⟨ys, by omega, .inr ⟨b, off, cap, by rw [h1], by omega, by omega, ⟨hb, by simp⟩, h2⟩⟩
    · cases hB
  · exact trod_flat_arg hB hv h

/-- The arguments of a law. -/
theorem trod_args {r : Reach} {b0 : Nat} : ∀ {ts : List Ty} {Ts : List TypeId} {vs : List Value} {ds : List (DataW H)} {ps : List MemPlace}, ts.length = Ts.length → (∀ (i : Nat) (t : Ty) (T : TypeId), ts[i]? = some t → Ts[i]? = some T → argB P t T = true) →
    (∀ (j : Nat) T v, Ts[j]? = some T → vs[j]? = some v → Value.okWide P w r b0 T v) → DataW.TrodAll enc P w base spare held Ts vs ds ps →
    ∃ (x : sigDen (ts.map AT.v)) (bss : List (List Nat)), bss.flatten = [] ∧ ArgsRep w (Good w []) (ts.map AT.v) x vs bss
  | [], [], [], [], _, _, _, _, _ => ⟨(), [], rfl, rfl, rfl⟩
  | t :: ts, T :: Ts, v :: vs, d :: ds, ps, hl, hB, hv, h => by
    obtain ⟨p, q, h1, h2, _⟩ := h
    obtain ⟨x, hx⟩ := trod_arg (hB 0 t T rfl rfl) (hv 0 T v rfl rfl) h1
    obtain ⟨y, bss, hb, hy⟩ := trod_args (by simpa using hl) (fun i t T h1 h2 => hB (i + 1) t T (by simpa using h1) (by simpa using h2)) (fun j T v h1 h2 => hv (j + 1) T v (by simpa using h1) (by simpa using h2)) h2
    exact ⟨(x, y), [] :: bss, by simpa using hb, v, vs, [], bss, rfl, rfl, ⟨rfl, hx⟩, hy⟩
  | [], _ :: _, _, _, _, hl, _, _, _ => by simp at hl
  | _ :: _, [], _, _, _, hl, _, _, _ => by simp at hl
end
end Go.Am

/- The abstract machine, part 23: from a law's contract to its statement. -/
namespace Go.Am
open Go.ChangeShapes Go.WideShapes Go.ChangeAt Go.RowKit
set_option linter.unusedVariables false
set_option linter.unusedSimpArgs false

section
variable {H : Type} {enc : TypeId × Value → H} {P : Program} {W W' : World}

theorem trodAll_below (hl : laidOutB P = true) (hb : Below W.heap.size W W') : ∀ {ts : List TypeId} {vs : List Value} {ds : List (DataW H)} {ps : List MemPlace}, (∀ t ∈ ts, P.readableRec t = true ∧ t < P.types.size) →
    DataW.TrodAll enc P W 0 (fun _ => true) true ts vs ds ps → (∀ x ∈ ps, x.block < W.heap.size) → DataW.TrodAll enc P W' 0 (fun b => decide (b < W.heap.size)) true ts vs ds ps
  | [], [], [], _, _, h, _ => h
  | t :: ts, v :: vs, d :: ds, ps, hr, ⟨p, q, h1, h2, e⟩, hlt => by
    obtain ⟨r1, r2⟩ := hr t (List.mem_cons_self ..)
    refine ⟨p, q, Below.trod hl r1 r2 h1 hb (fun x hx => hlt x (by rw [e]; exact List.mem_append_left _ hx)), trodAll_below hl hb (fun t ht => hr t (List.mem_cons_of_mem _ ht)) h2 (fun x hx => hlt x (by rw [e]; exact List.mem_append_right _ hx)), e⟩
  | [], [], _ :: _, _, _, h, _ => h.elim
  | [], _ :: _, _, _, _, h, _ => h.elim
  | _ :: _, [], _, _, _, h, _ => h.elim
  | _ :: _, _ :: _, [], _, _, h, _ => h.elim

theorem trodAll_len {base : Nat} {sp : Nat → Bool} {held : Bool} : ∀ {ts : List TypeId} {vs : List Value} {ds : List (DataW H)} {ps : List MemPlace}, DataW.TrodAll enc P W base sp held ts vs ds ps → ds.length = ts.length ∧ vs.length = ts.length
  | [], [], [], _, h => ⟨rfl, rfl⟩
  | t :: ts, v :: vs, d :: ds, ps, ⟨p, q, h1, h2, e⟩ => by obtain ⟨a, b⟩ := trodAll_len h2; exact ⟨by simp [a], by simp [b]⟩
  | [], [], _ :: _, _, h => h.elim
  | [], _ :: _, _, _, h => h.elim
  | _ :: _, [], _, _, h => h.elim
  | _ :: _, _ :: _, [], _, h => h.elim
end

/-- The types of a law's arguments, looked at. -/
def argsB (P : Program) : List Ty → List TypeId → Bool
  | [], [] => true
  | t :: ts, T :: Ts => argB P t T && argsB P ts Ts
  | _, _ => false

theorem argsB_spec {P : Program} : ∀ {ts : List Ty} {Ts : List TypeId}, argsB P ts Ts = true → ts.length = Ts.length ∧ ∀ (i : Nat) (t : Ty) (T : TypeId), ts[i]? = some t → Ts[i]? = some T → argB P t T = true
  | [], [], _ => ⟨rfl, fun i t T h => by simp at h⟩
  | t :: ts, T :: Ts, h => by
    simp only [argsB, Bool.and_eq_true] at h
    obtain ⟨h1, h2⟩ := argsB_spec h.2
    refine ⟨by simp [h1], fun i u U hu hU => ?_⟩
    cases i with
    | zero => simp at hu hU; subst hu hU; exact h.1
    | succ i => exact h2 i u U (by simpa using hu) (by simpa using hU)
  | [], _ :: _, h => by cases h
  | _ :: _, [], h => by cases h

def lawSpec (ts : List Ty) : Spec := { sig := ts.map AT.v, pre := fun _ => True, res := fun _ => [⟨.bool, true⟩] }

/-- What the wraps ask of the contract. -/
theorem law_calls {H : Type} {enc : TypeId × Value → H} {C : Checked} {f : FuncId} {fn : Func} {s : ChangeSpec} {apart fresh handsOn : Bool}
    (hl : laidOutB C.prog = true) (hr : (fn.params.toList.all fun t => C.prog.readableRec t && Nat.blt t C.prog.types.size) = true)
    (ts : List Ty) (hts : argsB C.prog ts fn.params.toList = true) {tb : TypeId} (hres : fn.resultTypes = #[tb]) (htb : C.prog.underlying tb = some .bool) (hvars : s.vars = [])
    (hs : ∀ ds : List (DataW H), ds.length = fn.params.toList.length → (s.fn H (ds ++ [])).results = [.lit (.bool true)] ∧ (s.fn H (ds ++ [])).args = ds ∧ (s.fn H (ds ++ [])).vars = [])
    (hcon : Contract C.prog f (lawSpec ts)) {W : World} (hg : GInv W) {base : Nat} {args : Array Value} {ds gs : List (DataW H)} {before : List MemPlace}
    (hval : ∀ (j : Nat) t v, fn.params[j]? = some t → args[j]? = some v → Value.okWide C.prog W .any base t v)
    (hW : DataW.Whole enc C.prog fn.params.toList s.vars apart W args.toList ds gs before) :
    Calls C.prog f args W fun e W' => ∃ v, e = .returned v ∧ s.post enc C.prog fn apart fresh handsOn false W args v W' := by
  have hW' := hW
  obtain ⟨p, q, hA, hV, hbef, hfz, hnd⟩ := hW
  rw [hvars] at hV
  obtain ⟨rfl, rfl⟩ := trodVars_none hV
  obtain ⟨hlen, hall⟩ := argsB_spec hts
  obtain ⟨x, bss, hb0, hx⟩ := trod_args (r := .any) (b0 := base) hlen hall (fun j T v h1 h2 => hval j T v (by simpa using h1) (by simpa using h2)) hA
  have hcall := hcon W x args.toList bss (by rw [hb0]; exact ⟨hg, hg.size, fun b hb => by cases hb⟩) trivial (by rw [hb0]; exact hx) (by rw [hb0]; exact List.nodup_nil)
  rw [hb0] at hcall
  refine hcall.mono ?_
  rintro e W' ⟨rs, ubs, rbs, rfl, hk, hrr, _⟩
  have hrs : rs = [.bool true] := by
    obtain ⟨v, s', b, bs, cs, h1, h2, h3, h4, h5⟩ := hrr
    obtain ⟨h3, _⟩ := h3
    simp only [IsVal] at h4
    rw [h3] at h4
    cases h4
    rw [h1, h5.1]
  subst hrs
  have hbel := hk.below
  obtain ⟨g1, g2, g3⟩ := hs ds (trodAll_len hA).1
  have hlt : ∀ y ∈ p, y.block < W.heap.size := fun y hy => hW'.lt y (by rw [hbef]; exact List.mem_append_left _ hy)
  have hr' : ∀ t ∈ fn.params.toList, C.prog.readableRec t = true ∧ t < C.prog.types.size := fun t ht => by
    have := List.all_eq_true.1 hr t ht
    simp only [Bool.and_eq_true] at this
    exact ⟨this.1, Nat.le_of_ble_eq_true this.2⟩
  refine ⟨.bool true, rfl, ds, [], before, [], p, [], hW', ?_, ?_, ?_, hbel.frame _, fun h => by cases h⟩
  · rw [hres, g1]
    exact trodAll_mk1 (shut_bool htb true)
  · rw [g2]
    exact trodAll_below hl hbel hr' hA hlt
  · rw [hvars, g3]
    rfl

theorem law_lifted {H : Type} {enc : TypeId × Value → H} {a : Assume} {C : Checked} {os : Os} {f : FuncId} {fn : Func} {s : ChangeSpec} {conds : List PathCond} {apart fresh handsOn : Bool}
    (own : ownKnob C.prog.godebug = none) (started : os.Started) (noInit : C.prog.inits.idxOf? f = none) (hfn : C.prog.funcs[f]? = some fn)
    (witness : ∃ (w : World) (tape : Tape) (i : Input), w.os = os ∧ (w.forCall tape i).Shaped C.prog ∧ i.vars = [] ∧ Input.okWide C.prog (w.forCall tape i) .any w.heap.size f i ∧
      s.pre6 enc C.prog fn conds apart (w.forCall tape i).memory i.args ∧ a.holds C.prog (lone (Frame.enter C.prog f i.args .normal) [] (w.forCall tape i)))
    (hl : laidOutB C.prog = true) (hr : (fn.params.toList.all fun t => C.prog.readableRec t && Nat.blt t C.prog.types.size) = true)
    (ts : List Ty) (hts : argsB C.prog ts fn.params.toList = true) {tb : TypeId} (hres : fn.resultTypes = #[tb]) (htb : C.prog.underlying tb = some .bool) (hvars : s.vars = [])
    (hs : ∀ ds : List (DataW H), ds.length = fn.params.toList.length → (s.fn H (ds ++ [])).results = [.lit (.bool true)] ∧ (s.fn H (ds ++ [])).args = ds ∧ (s.fn H (ds ++ [])).vars = [])
    (hg : ∀ W : World, W.ShapedOpen C.prog → GInv W) (hcon : Contract C.prog f (lawSpec ts)) :
    ReturnsInHanded a C os f .any (s.pre6 enc C.prog fn conds apart) (s.post enc C.prog fn apart fresh handsOn false) := by
  refine returnsInHanded_of_change_shaped own started noInit hfn witness ?_
  intro W base args ds gs before hval hW hcnd _ hsh _
  exact law_calls hl hr ts hts hres htb hvars hs hcon (hg W hsh) hval hW

/-- The same for a statement that lists variables of the library with what they hold. -/
theorem law_lifted_laid {H : Type} {enc : TypeId × Value → H} {a : Assume} {C : Checked} {os : Os} {f : FuncId} {fn : Func} {s : ChangeSpec} {conds : List PathCond} {apart fresh handsOn : Bool} {laid : List (String × DataW Unit)}
    (own : ownKnob C.prog.godebug = none) (started : os.Started) (noInit : C.prog.inits.idxOf? f = none) (hfn : C.prog.funcs[f]? = some fn)
    (witness : ∃ (w : World) (tape : Tape) (i : Input), w.os = os ∧ (w.forCall tape i).Shaped C.prog ∧ i.vars = [] ∧ Input.okWide C.prog (w.forCall tape i) .any w.heap.size f i ∧
      ((s.pre enc C.prog fn conds apart (w.forCall tape i).memory i.args ∧ laidMetH C.prog laid (w.forCall tape i).memory) ∧ sizedMet enc C.prog fn (OpenSpec.ofChange s) apart (w.forCall tape i).memory i.args) ∧ a.holds C.prog (lone (Frame.enter C.prog f i.args .normal) [] (w.forCall tape i)))
    (hl : laidOutB C.prog = true) (hr : (fn.params.toList.all fun t => C.prog.readableRec t && Nat.blt t C.prog.types.size) = true)
    (ts : List Ty) (hts : argsB C.prog ts fn.params.toList = true) {tb : TypeId} (hres : fn.resultTypes = #[tb]) (htb : C.prog.underlying tb = some .bool) (hvars : s.vars = [])
    (hs : ∀ ds : List (DataW H), ds.length = fn.params.toList.length → (s.fn H (ds ++ [])).results = [.lit (.bool true)] ∧ (s.fn H (ds ++ [])).args = ds ∧ (s.fn H (ds ++ [])).vars = [])
    (hg : ∀ W : World, W.ShapedOpen C.prog → laidMetH C.prog laid W → GInv W) (hcon : Contract C.prog f (lawSpec ts)) :
    ReturnsInHanded a C os f .any (fun w args => (s.pre enc C.prog fn conds apart w args ∧ laidMetH C.prog laid w) ∧ sizedMet enc C.prog fn (OpenSpec.ofChange s) apart w args) (s.post enc C.prog fn apart fresh handsOn false) := by
  refine returnsInHanded_of_calls own started noInit witness ?_
  intro w tape i _ hsh _ hok hpre hholds
  obtain ⟨_, _, _, fn', hfn', _, _, _, _, hval⟩ := hok
  have e : fn' = fn := Option.some.inj (hfn'.symm.trans hfn)
  subst e
  obtain ⟨⟨⟨ds, gs, before, hw, hc⟩, hx⟩, hz⟩ := hpre
  have hw' := DataW.Whole.of_heap (w' := w.forCall tape i) (by rfl) hw
  have hx' : laidMetH C.prog laid (w.forCall tape i) := hx.of_heap (by rfl)
  refine (law_calls (fresh := fresh) (handsOn := handsOn) hl hr ts hts hres htb hvars hs hcon (hg _ hsh hx') hval hw').mono fun e W' ⟨v, he, hp⟩ => ?_
  subst he
  exact ChangeSpec.post_blind hp
end Go.Am

/- The abstract machine, part 24: cut points, runs between them with nil slices taken as owned ones. -/
namespace Go.Am
set_option linter.unusedVariables false
set_option linter.unusedSimpArgs false

def bodyOf (f : Func) : Code := match f.body with | some c => c | none => .skip

def firstRegion : Code → Nat
  | .region id _ _ => id
  | .seq x _ => firstRegion x
  | .block _ c => firstRegion c
  | .loop c => firstRegion c
  | .scope c => firstRegion c
  | _ => 999999

def orL : Option (List Item) → Option (List Item) → Option (List Item)
  | some k, _ => some k
  | none, x => x

/-- The things to do at a cut point: a loop whose first region is this one, or this region. -/
def findC (id : Nat) : Code → List Item → Option (List Item)
  | .seq x y, k => orL (findC id x (.code y :: k)) (findC id y k)
  | .block b c, k => findC id c (.inBlock b :: k)
  | .loop c, k => match Nat.beq (firstRegion c) id with
    | true => some (.code c :: .inLoop c :: k)
    | false => findC id c (.inLoop c :: k)
  | .cond _ x y, k => orL (findC id x k) (findC id y k)
  | .region r ops d, k => match Nat.beq r id with
    | true => some (.code (.region r ops d) :: k)
    | false => none
  | _, _ => none

def cutAt (c : Code) (id : Nat) : List Item := match findC id c [] with | some k => k | none => []

def nilA (t : Nat) (ty : Ty) (EL : Env × Heap) : Env × Heap :=
  match EL.1.get t with
  | .a (.val (.slice none _ _)) => (EL.1.set t (.a (.osl EL.2.length none)), EL.2 ++ [some ⟨ty, [], false⟩])
  | _ => EL

def nilsA : List (Nat × Ty) → Env × Heap → Env × Heap
  | [], EL => EL
  | (t, ty) :: r, EL => nilsA r (nilA t ty EL)

section
variable {P : Program} {n : Nat} {w0 w : World} {O : List Nat} {a : Act} {V : Nat → Value} {own : Nat → List Nat} {f : FuncId} {R : Ending → World → Prop} {E : Env} {L : Heap}

theorem RelV.reset (hR : RelV n w0 O w a E L V own) {t : Nat} {p : PV} (hp : RepP w0 (Good w0 O) L V p (a.tmps.getD t undef)) : RelV n w0 O w a (E.set t p) L V own :=
  ⟨hR.glob, hR.kept, hR.size, hR.defers, hR.heap, hR.good, hR.nodup, hR.apart, fun i => by
    rw [Env.get_set]
    split
    · rename_i h; subst h; exact hp
    · exact hR.env i⟩

theorem nilA_spec (hR : RelV n w0 O w a E L V own) (t : Nat) (ty : Ty) : ∃ V' own', RelV n w0 O w a (nilA t ty (E, L)).1 (nilA t ty (E, L)).2 V' own' := by
  unfold nilA
  split
  · rename_i m c hg
    have hv := hR.env t
    simp only at hg
    rw [hg] at hv
    obtain ⟨hv, h0, h1⟩ := hv
    subst h0 h1
    have hE : EntC w0 (Good w0 O) w ⟨ty, [], false⟩ (.slice none 0 0) [] := ⟨by simp [maxLen], .inl ⟨_, rfl, rfl, rfl⟩⟩
    have hR' := hR.grow hE List.nodup_nil (fun b hb => by cases hb) (fun r A hA b hb hm => by cases hm)
    refine ⟨_, _, hR'.reset ?_⟩
    rw [hv]
    exact repA_new (w0 := w0) (G := Good w0 O) (u := w0) (G' := Good w0 O) (w := w) hE
  · exact ⟨V, own, hR⟩

theorem nilsA_spec : ∀ {l : List (Nat × Ty)} {E : Env} {L : Heap} {V : Nat → Value} {own : Nat → List Nat}, RelV n w0 O w a E L V own → ∃ V' own', RelV n w0 O w a (nilsA l (E, L)).1 (nilsA l (E, L)).2 V' own'
  | [], E, L, V, own, hR => ⟨V, own, hR⟩
  | (t, ty) :: r, E, L, V, own, hR => by
    obtain ⟨V', own', h⟩ := nilA_spec hR t ty
    show ∃ V' own', RelV n w0 O w a (nilsA r (nilA t ty (E, L))).1 (nilsA r (nilA t ty (E, L))).2 V' own'
    generalize nilA t ty (E, L) = EL at h
    obtain ⟨E1, L1⟩ := EL
    exact nilsA_spec h

/-- A run to the next cut point; the arrays that are named there are numbered anew. -/
def runN (tab : List TI) (ext : Ext) (wr : Bool) (n : Nat) (stops : List Nat) (m : Nat) (pins : List Nat) (nils : List (Nat × Ty)) (ks : List Nat) (rs : List Nat) (path : List Bool) (k : List Item) (E : Env) (L : Heap) : Option (List Item × Env × Heap × List Prop) :=
  match runA tab ext wr n stops m true k ⟨path, [], E, L, [], pins⟩ with
  | some (.stop k' S) => match nilsA nils (S.E, S.L) with
    | (E1, L1) => match nodupB rs && envIn rs (Am.keepE E1 ks) && decide (S.pins = pins) with
      | true => some (k', renE rs (Am.keepE E1 ks), pickL rs L1, S.cs)
      | false => none
  | _ => none

theorem AtV.runN {tab : List TI} {ext : Ext} (hT : TabOk P tab) (hX : ExtOk P ext) (hm : P.follows .mixedOrders = true) {wr : Bool} {stops : List Nat} {m : Nat} {q : Nat → Value} {pins : List Nat} {nils : List (Nat × Ty)} {ks : List Nat} {rs : List Nat} {path : List Bool} {k k' : List Item} {E' : Env} {L' : Heap} {cs : List Prop}
    (h : Am.runN tab ext wr n stops m pins nils ks rs path k E L = some (k', E', L', cs)) (hc : All cs) (hk : AtV P f R n w0 O q pins k' E' L') : AtV P f R n w0 O q pins k E L := by
  intro a w V own hR hq
  unfold Am.runN at h
  split at h
  · rename_i k1 S hr
    split at h
    rename_i E1 L1 hnil
    split at h
    · rename_i hb
      simp only [Bool.and_eq_true, decide_eq_true_eq] at hb
      obtain ⟨⟨hn, hb⟩, hp⟩ := hb
      cases h
      refine runA_run hT hX hm hr hc hR ⟨fun t d ht => by simp [lookB] at ht, hq⟩ ?_
      intro a' w' V' own' hR' hq'
      rw [hp] at hq'
      obtain ⟨V2, own2, hR2⟩ := nilsA_spec (l := nils) hR'
      rw [hnil] at hR2
      exact hk _ _ _ _ ((hR2.keepE ks).renum hn hb) hq'
    · cases h
  · cases h
end
end Go.Am

/- The abstract machine, part 25: a contract, said otherwise. -/
namespace Go.Am
set_option linter.unusedVariables false

instance (k : IntKind) (n : Int) : Decidable (InR k n) := inferInstanceAs (Decidable (k.min ≤ n ∧ n ≤ k.max))

theorem ArgsRep.wf {w : World} {G : Nat → Prop} {sig : List AT} {x : sigDen sig} {vs : List Value} {bss : List (List Nat)} (h : ArgsRep w G sig x vs bss) : wfSig sig x := args_wf h

/-- A contract that asks more and says the same in other words. -/
theorem Contract.says {P : Program} {f : FuncId} {sig : List AT} {pre pre' : sigDen sig → Prop} {upd : sigDen sig → List (Option Lst)} {res res' : sigDen sig → List Dyn}
    (hc : Contract P f { sig := sig, pre := pre, upd := upd, res := res }) (h : ∀ x, pre' x → wfSig sig x → pre x ∧ res x = res' x) : Contract P f { sig := sig, pre := pre', upd := upd, res := res' } := by
  intro w x vs bss hgo hp ha hn
  obtain ⟨h1, h2⟩ := h x hp ha.wf
  have := hc w x vs bss hgo h1 ha hn
  simp only at this ⊢
  rw [h2] at this
  exact this
end Go.Am

/- The abstract machine, part 26: small laws about trees, for the plain laws. -/
namespace Go.Am
set_option linter.unusedVariables false
set_option linter.unusedSimpArgs false

theorem bytes_eq (a b : ByteArray) : (ByteArray.toList a == ByteArray.toList b) = true ↔ a = b := by
  rw [← beq_toListBytes]
  obtain ⟨⟨x⟩⟩ := a
  obtain ⟨⟨y⟩⟩ := b
  show ((⟨x⟩ : Array UInt8) == ⟨y⟩) = true ↔ _
  simp

theorem bytes_ne (a b : ByteArray) : (ByteArray.toList a == ByteArray.toList b) = false ↔ a ≠ b := by
  rw [ne_eq, ← bytes_eq, Bool.not_eq_true]

theorem eqD_eq : ∀ {t : Ty} {x y : t.den}, t.flat = true → (eqD t x y = true ↔ x = y)
  | .int _, x, y, _ => by simp [eqD]
  | .bool, x, y, _ => by simp [eqD]
  | .str, x, y, _ => by simp only [eqD]; exact bytes_eq x y
  | .unit, x, y, _ => by simp [eqD]
  | .cons a b, x, y, h => by
    simp only [Ty.flat, Bool.and_eq_true] at h
    obtain ⟨x1, x2⟩ := x
    obtain ⟨y1, y2⟩ := y
    simp only [eqD, Bool.and_eq_true, eqD_eq h.1, eqD_eq h.2, Prod.mk.injEq]
  | .sl _, _, _, h => by cases h

theorem getD_lt {α : Type} (xs : List α) (i : Nat) (d : α) (h : i < xs.length) : xs.getD i d = xs[i] := by
  rw [List.getD_eq_getElem?_getD, List.getElem?_eq_getElem h]; rfl

theorem drop_get {α : Type} (xs : List α) (i : Nat) (d : α) (h : i < xs.length) : xs.drop i = xs.getD i d :: xs.drop (i + 1) := by
  rw [getD_lt xs i d h, ← List.drop_eq_getElem_cons h]

theorem drop_end {α : Type} (xs : List α) (i : Nat) (h : xs.length ≤ i) : xs.drop i = [] := List.drop_eq_nil_iff.2 h

/-- A counter stays in range. -/
theorem inR_up {α : Type} {xs : List α} (h : xs.length ≤ maxLen) {i : Nat} (hi : i < xs.length) : InR .i64 ((i : Int) + 1) := by
  have e1 : (IntKind.i64).min = -9223372036854775808 := by decide
  have e2 : (IntKind.i64).max = 9223372036854775807 := by decide
  have hm : maxLen ≤ 9223372036854775807 := by decide
  simp only [InR, e1, e2]
  omega

theorem i64_iff (n : Int) : InR .i64 n ↔ -9223372036854775808 ≤ n ∧ n ≤ 9223372036854775807 := by
  have e1 : (IntKind.i64).min = -9223372036854775808 := by decide
  have e2 : (IntKind.i64).max = 9223372036854775807 := by decide
  simp only [InR, e1, e2]

theorem u8_iff (n : Int) : InR .u8 n ↔ 0 ≤ n ∧ n ≤ 255 := by
  have e1 : (IntKind.u8).min = 0 := by decide
  have e2 : (IntKind.u8).max = 255 := by decide
  simp only [InR, e1, e2]

/-- A list that is filled from the left. -/
theorem set_step {α : Type} (x0 : List α) (d : α) (i : Nat) (h : i < x0.length) (l : Nat) (hl : l = x0.length - i) : (x0.take i ++ List.replicate l d).set i (x0.getD i d) = x0.take (i + 1) ++ List.replicate (l - 1) d := by
  have e : (x0.take i).length = i := by simp; omega
  obtain ⟨l, rfl⟩ : ∃ m, l = m + 1 := ⟨l - 1, by omega⟩
  rw [List.set_append_right _ _ (by omega), e, Nat.sub_self, List.replicate_succ, List.set_cons_zero, getD_lt _ _ _ h, List.take_succ_eq_append_getElem h, List.append_assoc]
  rfl
end Go.Am

/- The abstract machine, part 28: laws for loops over lists, and for the bytes of strings. -/
namespace Go.Am
set_option linter.unusedVariables false
set_option linter.unusedSimpArgs false

theorem bytesOf_length (s : ByteArray) : (bytesOf s).length = s.size := by simp [bytesOf]

theorem byte_get (s : ByteArray) (i : Nat) : ((List.getD (Array.toList (ByteArray.data s)) i 0).toNat : Int) = (bytesOf s).getD i 0 := by
  unfold bytesOf
  rw [List.getD_eq_getElem?_getD, List.getD_eq_getElem?_getD, List.getElem?_map]
  cases h : s.data.toList[i]? with
  | none => rfl
  | some b => rfl

theorem bytesOf_range (s : ByteArray) : ∀ b ∈ bytesOf s, 0 ≤ b ∧ b ≤ 255 := by
  intro b hb
  unfold bytesOf at hb
  obtain ⟨x, _, rfl⟩ := List.mem_map.1 hb
  have := x.toNat_lt
  omega

theorem bytesOf_inj {s t : ByteArray} (h : bytesOf s = bytesOf t) : s = t := by
  obtain ⟨⟨x⟩⟩ := s
  obtain ⟨⟨y⟩⟩ := t
  congr 2
  unfold bytesOf at h
  simp only at h
  induction x generalizing y with
  | nil => cases y with
    | nil => rfl
    | cons b s => cases h
  | cons a r ih => cases y with
    | nil => cases h
    | cons b s =>
      simp only [List.map_cons, List.cons.injEq] at h
      have h1 : a = b := by
        have := h.1
        exact UInt8.toNat_inj.1 (by omega)
      rw [h1, ih s h.2]

theorem bytesOf_append (s t : ByteArray) : bytesOf (s ++ t) = bytesOf s ++ bytesOf t := by
  unfold bytesOf
  simp [ByteArray.data_append]

/-- What a loop over a list comes to: 'f' may end it. -/
def goL {α β δ : Type} (f : β → α → Except δ β) (fin : β → δ) : β → List α → δ
  | b, [] => fin b
  | b, x :: r => match f b x with
    | .ok b' => goL f fin b' r
    | .error d => d

/-- **A loop over a list.** -/
theorem loop_list {α β δ : Type} (xs : List α) (d : α) (f : β → α → Except δ β) (fin : β → δ) (Inv : Nat → β → Prop) (R : Nat → Int → β → δ → Prop)
    (hend : ∀ n b, Inv xs.length b → R (n + 1) xs.length b (fin b))
    (hstep : ∀ n (i : Nat) b, i < xs.length → Inv i b → match f b (xs.getD i d) with
      | .ok b' => Inv (i + 1) b' ∧ ∀ ds, R n (((i : Nat) : Int) + 1) b' ds → R (n + 1) (i : Int) b ds
      | .error ds => R (n + 1) (i : Int) b ds) :
    ∀ (k i : Nat) b, i + k = xs.length → Inv i b → R (k + 1) (i : Int) b (goL f fin b (xs.drop i)) := by
  intro k
  induction k with
  | zero =>
    intro i b hi hinv
    have : i = xs.length := by omega
    subst this
    rw [drop_end xs _ (Nat.le_refl _)]
    exact hend 0 b hinv
  | succ k ih =>
    intro i b hi hinv
    have h := hstep (k + 1) i b (by omega) hinv
    rw [drop_get xs i d (by omega)]
    simp only [goL]
    split at h
    · rename_i b' hf
      have := ih (i + 1) b' (by omega) h.1
      exact h.2 _ (by simpa using this)
    · exact h

/-- From the start. -/
theorem loop_all {α β δ : Type} (xs : List α) (d : α) (f : β → α → Except δ β) (fin : β → δ) (Inv : Nat → β → Prop) (R : Nat → Int → β → δ → Prop) {b : β} (h0 : Inv 0 b)
    (hend : ∀ n b, Inv xs.length b → R (n + 1) xs.length b (fin b))
    (hstep : ∀ n (i : Nat) b, i < xs.length → Inv i b → match f b (xs.getD i d) with
      | .ok b' => Inv (i + 1) b' ∧ ∀ ds, R n (((i : Nat) : Int) + 1) b' ds → R (n + 1) (i : Int) b ds
      | .error ds => R (n + 1) (i : Int) b ds) : R (xs.length + 1) 0 b (goL f fin b xs) := by
  have := loop_list xs d f fin Inv R hend hstep xs.length 0 b (by omega) h0
  simpa using this

theorem goL_all {α δ : Type} (q : α → Bool) (no yes : δ) : ∀ (l : List α) (f : Unit → α → Except δ Unit) (fin : Unit → δ), (∀ x, f () x = if q x = true then .ok () else .error no) → fin () = yes → goL f fin () l = if l.all q = true then yes else no
  | [], f, fin, hf, hfin => by simp [goL, hfin]
  | x :: r, f, fin, hf, hfin => by
    simp only [goL, hf]
    cases h : q x with
    | true => simp only [if_true]; rw [goL_all q no yes r f fin hf hfin]; simp [h]
    | false => simp [h]

/-- A loop that ends at the first element that is not as it should be. -/
theorem loop_test {α δ : Type} (xs : List α) (d : α) (q : α → Bool) (no yes : δ) (R : Nat → Int → δ → Prop) (hend : ∀ n, R (n + 1) xs.length yes)
    (hok : ∀ n (i : Nat), i < xs.length → q (xs.getD i d) = true → ∀ ds, R n (((i : Nat) : Int) + 1) ds → R (n + 1) (i : Int) ds)
    (hno : ∀ n (i : Nat), i < xs.length → q (xs.getD i d) = false → R (n + 1) (i : Int) no) : R (xs.length + 1) 0 (if xs.all q = true then yes else no) := by
  have key := loop_all (b := ()) xs d (fun (_ : Unit) x => if q x = true then .ok () else .error no) (fun _ => yes) (fun _ _ => True) (fun n i _ ds => R n i ds) trivial (fun n _ _ => hend n) (fun n i _ hi _ => by
    cases h : q (xs.getD i d) with
    | true => exact ⟨trivial, hok n i hi h⟩
    | false => exact hno n i hi h)
  rw [goL_all q no yes _ _ _ (fun _ => rfl) rfl] at key
  exact key

/-- All elements are as they should be, each at its place. -/
def allI {α : Type} (q : Nat → α → Bool) : Nat → List α → Bool
  | _, [] => true
  | i, x :: r => q i x && allI q (i + 1) r

theorem loop_testI {α δ : Type} (xs : List α) (d : α) (q : Nat → α → Bool) (no yes : δ) (R : Nat → Int → δ → Prop) (hend : ∀ n, R (n + 1) xs.length yes)
    (hok : ∀ n (i : Nat), i < xs.length → q i (xs.getD i d) = true → ∀ ds, R n (((i : Nat) : Int) + 1) ds → R (n + 1) (i : Int) ds)
    (hno : ∀ n (i : Nat), i < xs.length → q i (xs.getD i d) = false → R (n + 1) (i : Int) no) : R (xs.length + 1) 0 (if allI q 0 xs = true then yes else no) := by
  have key : ∀ (k i : Nat), i + k = xs.length → R (k + 1) (i : Int) (if allI q i (xs.drop i) = true then yes else no) := by
    intro k
    induction k with
    | zero =>
      intro i hi
      have : i = xs.length := by omega
      subst this
      rw [drop_end xs _ (Nat.le_refl _)]
      simpa [allI] using hend 0
    | succ k ih =>
      intro i hi
      rw [drop_get xs i d (by omega)]
      by_cases h : q i (xs.getD i d) = true
      · have h2 := hok (k + 1) i (by omega) h _ (by have := ih (i + 1) (by omega); rwa [show ((i + 1 : Nat) : Int) = (i : Int) + 1 from by omega] at this)
        simp only [allI, h, Bool.true_and]
        exact h2
      · have h := Bool.eq_false_iff.2 h
        simp only [allI, h, Bool.false_and, Bool.false_eq_true, if_false]
        exact hno (k + 1) i (by omega) h
  have := key xs.length 0 (by omega)
  simpa using this

theorem allI_plain {α : Type} (q : α → Bool) : ∀ (l : List α) (i : Nat), allI (fun _ x => q x) i l = l.all q
  | [], _ => rfl
  | x :: r, i => by simp [allI, allI_plain q r]

theorem allI_congr {α : Type} {p q : Nat → α → Bool} : ∀ (l : List α) (i : Nat), (∀ j x, i ≤ j → p j x = q j x) → allI p i l = allI q i l
  | [], _, _ => rfl
  | x :: r, i, h => by
    simp only [allI]
    rw [h i x (Nat.le_refl _), allI_congr r (i + 1) (fun j x hj => h j x (by omega))]

/-- A loop that ends at the first element that is as it should be. -/
theorem loop_find {α δ : Type} (xs : List α) (d : α) (q : α → Bool) (none' : δ) (some' : Int → δ) (R : Nat → Int → δ → Prop) (hend : ∀ n, R (n + 1) xs.length none')
    (hgo : ∀ n (i : Nat), i < xs.length → q (xs.getD i d) = false → ∀ ds, R n (((i : Nat) : Int) + 1) ds → R (n + 1) (i : Int) ds)
    (hhit : ∀ n (i : Nat), i < xs.length → q (xs.getD i d) = true → R (n + 1) (i : Int) (some' i)) : R (xs.length + 1) 0 (match xs.findIdx? q with | some k => some' (k : Nat) | none => none') := by
  have key : ∀ (k i : Nat), i + k = xs.length → R (k + 1) (i : Int) (match (xs.drop i).findIdx? q with | some j => some' ((i + j : Nat) : Int) | none => none') := by
    intro k
    induction k with
    | zero =>
      intro i hi
      have : i = xs.length := by omega
      subst this
      rw [drop_end xs _ (Nat.le_refl _)]
      exact hend 0
    | succ k ih =>
      intro i hi
      rw [drop_get xs i d (by omega), List.findIdx?_cons]
      cases h : q (xs.getD i d) with
      | true => simpa using hhit (k + 1) i (by omega) h
      | false =>
        have h2 := hgo (k + 1) i (by omega) h _ (by have := ih (i + 1) (by omega); simpa using this)
        simp only [Bool.false_eq_true, if_false]
        cases hf : List.findIdx? q (List.drop (i + 1) xs) with
        | none => rw [hf] at h2; simpa using h2
        | some j =>
          rw [hf] at h2
          simp only [Option.map_some] at h2 ⊢
          rw [show i + (j + 1) = i + 1 + j from by omega]
          exact h2
  have := key xs.length 0 (by omega)
  simpa using this

/-- An index, or -1. -/
def idx : Option Nat → Int
  | some k => (k : Nat)
  | none => -1

theorem findIdx_any {α : Type} (q : α → Bool) : ∀ (l : List α), idx (l.findIdx? q) ≥ 0 ↔ l.any q = true := by
  intro l
  have h := List.findIdx?_isSome (xs := l) (p := q)
  rw [← h]
  cases l.findIdx? q with
  | none => simp [idx]
  | some k => simp [idx]

theorem mem_getD {α : Type} (xs : List α) (i : Nat) (d : α) (h : i < xs.length) : xs.getD i d ∈ xs := by
  rw [getD_lt _ _ _ h]; exact List.getElem_mem _

/-- The sum of the lengths of strings. -/
def sizes : List ByteArray → Nat
  | [] => 0
  | x :: r => x.size + sizes r

theorem size_le_sizes : ∀ {l : List ByteArray} {x : ByteArray}, x ∈ l → x.size ≤ sizes l
  | y :: r, x, h => by
    simp only [sizes]
    rcases List.mem_cons.1 h with rfl | h
    · omega
    · have := size_le_sizes h; omega

end Go.Am

/- The abstract machine, part 29: from what a library function is known to do to its contract. -/
namespace Go.Am
set_option linter.unusedVariables false
set_option linter.unusedSimpArgs false
open Go.RowKit (Below)

theorem args_noOwn {w : World} {G : Nat → Prop} : ∀ {sig : List AT} {x : sigDen sig} {vs : List Value} {bss : List (List Nat)}, noOwn sig = true → ArgsRep w G sig x vs bss → bss.flatten = [] ∧ ownVals sig vs = []
  | [], _, vs, bss, _, ⟨h1, h2⟩ => by subst h1 h2; exact ⟨rfl, rfl⟩
  | .v t :: r, x, vs, bss, h, ⟨v, s, b, bs, h1, h2, h3, h4⟩ => by
    subst h1 h2
    obtain ⟨e1, e2⟩ := args_noOwn (sig := r) h h4
    exact ⟨by rw [List.flatten_cons, h3.1, e1]; rfl, e2⟩
  | .p t :: r, x, vs, bss, h, ⟨v, s, b, bs, h1, h2, h3, h4⟩ => by
    subst h1 h2
    obtain ⟨e1, e2⟩ := args_noOwn (sig := r) h h4
    exact ⟨by rw [List.flatten_cons, h3.1, e1]; rfl, e2⟩
  | .fn f c :: r, x, vs, bss, h, ⟨v, s, b, bs, h1, h2, h3, h4⟩ => by
    subst h1 h2
    obtain ⟨e1, e2⟩ := args_noOwn (sig := r) h h4
    exact ⟨by rw [List.flatten_cons, h3.1, e1]; rfl, e2⟩
  | .own t :: r, _, _, _, h, _ => by cases h

theorem own_of_wf {w : World} : ∀ {t : Ty} {x : t.den}, t.flat = true → Wf t x → OwnC w t x (fcells t x) []
  | .int _, _, _, h => ⟨rfl, h, rfl⟩
  | .bool, _, _, _ => ⟨rfl, rfl⟩
  | .str, _, _, h => ⟨rfl, h, rfl⟩
  | .unit, _, _, _ => ⟨rfl, rfl⟩
  | .cons a b, x, hf, h => by
    simp only [Ty.flat, Bool.and_eq_true] at hf
    exact ⟨_, _, [], [], rfl, rfl, own_of_wf hf.1 h.1, own_of_wf hf.2 h.2⟩
  | .sl _, _, h, _ => by cases h

theorem isVal_valOf {w : World} {t : Ty} {x : t.den} {cs : List Value} {bs : List Nat} (h : OwnC w t x cs bs) : IsVal t cs (valOf t cs) := by
  have hl := h.length
  cases t <;> simp only [IsVal, valOf, Ty.agg, if_true, if_false, Bool.false_eq_true]
  all_goals (match cs, hl with | [c], _ => rfl)

/-- A row of results, each flat. -/
theorem resRep_flat {w : World} : ∀ {ds : List Dyn}, (∀ d ∈ ds, d.t.flat = true ∧ Wf d.t d.x) → ResRep w ds (ds.map fun d => valOf d.t (fcells d.t d.x)) (ds.map fun _ => [])
  | [], _ => ⟨rfl, rfl⟩
  | d :: r, h => by
    obtain ⟨h1, h2⟩ := h d (List.mem_cons_self ..)
    have ho := own_of_wf (w := w) h1 h2
    exact ⟨_, _, _, _, _, rfl, rfl, ho, isVal_valOf ho, resRep_flat fun d hd => h d (List.mem_cons_of_mem _ hd)⟩

theorem flat_nils (ds : List Dyn) : (ds.map fun _ => ([] : List Nat)).flatten = [] := by
  induction ds with
  | nil => rfl
  | cons d r ih => simp

/-- **A function that hands back flat values and keeps what was there.** -/
theorem contract_flat {P : Program} {f : FuncId} {sig : List AT} {pre : sigDen sig → Prop} {res : sigDen sig → List Dyn} (hno : noOwn sig = true)
    (h : ∀ (w : World) (x : sigDen sig) (vs : List Value) (bss : List (List Nat)), GInv w → pre x → wfSig sig x → ArgsRep w (Good w []) sig x vs bss →
      (∀ d ∈ res x, d.t.flat = true ∧ Wf d.t d.x) ∧ Calls P f vs.toArray w fun e w' => e = .returned (packV ((res x).map fun d => valOf d.t (fcells d.t d.x))) ∧ Kept [] w w') :
    Contract P f { sig := sig, pre := pre, res := res } := by
  intro w x vs bss hgo hp ha hn
  obtain ⟨e1, e2⟩ := args_noOwn hno ha
  have ha' := ha
  rw [e1] at ha'
  obtain ⟨h1, h2⟩ := h w x vs bss hgo.inv hp (args_wf ha) ha'
  refine h2.mono ?_
  rintro e w' ⟨rfl, hk⟩
  refine ⟨_, [], _, rfl, by rw [e1]; exact hk, resRep_flat h1, by rw [e2]; exact ⟨rfl, rfl⟩, ?_, ?_⟩
  · simp only [flat_nils, List.flatten_nil, List.append_nil]; exact List.nodup_nil
  · simp only [flat_nils, List.flatten_nil, List.append_nil]; intro b hb; cases hb

end Go.Am

/- The abstract machine, part 30: more laws for loops. -/
namespace Go.Am
set_option linter.unusedVariables false
set_option linter.unusedSimpArgs false

theorem goL_fold {α β δ : Type} (f : β → α → Except δ β) (g : β → α → β) (fin : β → δ) (hf : ∀ b x, f b x = .ok (g b x)) : ∀ (l : List α) (b : β), goL f fin b l = fin (l.foldl g b)
  | [], _ => rfl
  | x :: r, b => by
    simp only [goL, hf, List.foldl_cons]
    exact goL_fold f g fin hf r _

/-- A loop that folds. -/
theorem loop_fold {α β δ : Type} (xs : List α) (d : α) (g : β → α → β) (fin : β → δ) (Inv : Nat → β → Prop) (R : Nat → Int → β → δ → Prop) {b : β} (h0 : Inv 0 b)
    (hend : ∀ n b, Inv xs.length b → R (n + 1) xs.length b (fin b))
    (hstep : ∀ n (i : Nat) b, i < xs.length → Inv i b → Inv (i + 1) (g b (xs.getD i d)) ∧ ∀ ds, R n (((i : Nat) : Int) + 1) (g b (xs.getD i d)) ds → R (n + 1) (i : Int) b ds) : R (xs.length + 1) 0 b (fin (xs.foldl g b)) := by
  have key := loop_all xs d (fun b x => .ok (g b x)) fin Inv R h0 hend (fun n i b hi hb => hstep n i b hi hb)
  rwa [goL_fold _ g _ (fun _ _ => rfl)] at key

theorem foldl_filter {α γ : Type} (p : α → Bool) (m : α → γ) : ∀ (l : List α) (b : List γ), l.foldl (fun h x => if p x = true then h ++ [m x] else h) b = b ++ (l.filter p).map m
  | [], b => by simp
  | x :: r, b => by
    rw [List.foldl_cons, foldl_filter p m r, List.filter_cons]
    split <;> simp

theorem foldl_snoc {α γ : Type} (m : α → γ) : ∀ (l : List α) (b : List γ), l.foldl (fun h x => h ++ [m x]) b = b ++ l.map m
  | [], b => by simp
  | x :: r, b => by rw [List.foldl_cons, foldl_snoc m r]; simp

/-- What is collected of a list is no longer than the list. -/
theorem len_up {α : Type} {h : List α} {x : α} {i : Nat} (hl : h.length ≤ i) : (h ++ [x]).length ≤ i + 1 := by simp; omega

theorem set_mid {α : Type} (A : List α) (c y : α) (r : List α) (i : Nat) (h : A.length = i) : (A ++ c :: r).set i y = A ++ y :: r := by
  rw [List.set_append_right _ _ (by omega), h, Nat.sub_self, List.set_cons_zero]

theorem get_mid {α : Type} (A : List α) (c d : α) (r : List α) (i : Nat) (h : A.length = i) : (A ++ c :: r).getD i d = c := by
  rw [List.getD_eq_getElem?_getD, List.getElem?_append_right (by omega), h, Nat.sub_self]
  rfl

end Go.Am

/- The abstract machine, part 31: the order of strings; binary search. -/
namespace Go.Am
set_option linter.unusedVariables false
set_option linter.unusedSimpArgs false

theorem bl_irrefl : ∀ x : List UInt8, Op.bytesLess x x = false
  | [] => rfl
  | a :: x => by simp [Op.bytesLess, bl_irrefl x]

theorem bl_cons (a b : UInt8) (x y : List UInt8) : Op.bytesLess (a :: x) (b :: y) = true ↔ a.toNat < b.toNat ∨ (a.toNat = b.toNat ∧ Op.bytesLess x y = true) := by
  simp only [Op.bytesLess, Bool.or_eq_true, decide_eq_true_eq, Bool.and_eq_true, beq_iff_eq, UInt8.lt_iff_toNat_lt, UInt8.toNat_inj]

theorem bl_trans : ∀ x y z : List UInt8, Op.bytesLess x y = true → Op.bytesLess y z = true → Op.bytesLess x z = true
  | x, y, [], _, h => by cases y <;> cases h
  | [], y, c :: z, _, _ => rfl
  | a :: x, [], c :: z, h, _ => by cases h
  | a :: x, b :: y, c :: z, h1, h2 => by
    rw [bl_cons] at *
    rcases h1 with h1 | ⟨e1, h1⟩
    · rcases h2 with h2 | ⟨e2, h2⟩
      · exact .inl (by omega)
      · exact .inl (by omega)
    · rcases h2 with h2 | ⟨e2, h2⟩
      · exact .inl (by omega)
      · exact .inr ⟨by omega, bl_trans x y z h1 h2⟩

theorem bl_tri : ∀ x y : List UInt8, Op.bytesLess x y = false → Op.bytesLess y x = false → x = y
  | [], [], _, _ => rfl
  | [], b :: y, h, _ => by cases h
  | a :: x, [], _, h => by cases h
  | a :: x, b :: y, h1, h2 => by
    have n1 := mt (bl_cons a b x y).2 (by rw [h1]; simp)
    have n2 := mt (bl_cons b a y x).2 (by rw [h2]; simp)
    have e : a.toNat = b.toNat := by omega
    have e' := UInt8.toNat_inj.1 e
    have l1 : Op.bytesLess x y = false := Bool.eq_false_iff.2 fun h => n1 (.inr ⟨e, h⟩)
    have l2 : Op.bytesLess y x = false := Bool.eq_false_iff.2 fun h => n2 (.inr ⟨e.symm, h⟩)
    rw [e', bl_tri x y l1 l2]

/-- a stands before b. -/
def sless (a b : ByteArray) : Bool := Op.bytesLess (ByteArray.toList a) (ByteArray.toList b)

theorem toList_inj {a b : ByteArray} (h : ByteArray.toList a = ByteArray.toList b) : a = b := (bytes_eq a b).1 (by rw [h]; simp)

theorem sless_irrefl (a : ByteArray) : sless a a = false := bl_irrefl _
theorem sless_trans {a b c : ByteArray} (h1 : sless a b = true) (h2 : sless b c = true) : sless a c = true := bl_trans _ _ _ h1 h2
theorem sless_tri {a b : ByteArray} (h1 : sless a b = false) (h2 : sless b a = false) : a = b := toList_inj (bl_tri _ _ h1 h2)
theorem sless_asymm {a b : ByteArray} (h : sless a b = true) : sless b a = false := by
  cases h2 : sless b a with
  | false => rfl
  | true => have := sless_trans h h2; rw [sless_irrefl] at this; cases this

/-- Binary search between i and j: the first place at which p no longer holds. -/
def bsearch (p : Nat → Bool) : Nat → Nat → Nat → Nat
  | 0, i, _ => i
  | m + 1, i, j => if i < j then (if p ((i + j) / 2) = true then bsearch p m ((i + j) / 2 + 1) j else bsearch p m i ((i + j) / 2)) else i

theorem bsearch_spec (p : Nat → Bool) (k : Nat) (hk : ∀ i, p i = decide (i < k)) : ∀ (m i j : Nat), j - i < m → i ≤ k → k ≤ j → bsearch p m i j = k
  | 0, i, j, h, _, _ => by omega
  | m + 1, i, j, h, h1, h2 => by
    simp only [bsearch]
    split
    · rw [hk]
      split
      · rename_i h3
        simp only [decide_eq_true_eq] at h3
        exact bsearch_spec p k hk m _ _ (by omega) (by omega) h2
      · rename_i h3
        simp only [decide_eq_true_eq] at h3
        exact bsearch_spec p k hk m _ _ (by omega) h1 (by omega)
    · omega

end Go.Am

/- The abstract machine, part 32: places in lists. -/
namespace Go.Am
set_option linter.unusedVariables false
set_option linter.unusedSimpArgs false

def foundStep {α : Type} (p : α → Bool) (b : List Int × Nat) (x : α) : List Int × Nat := (if p x = true then b.1 ++ [(b.2 : Int)] else b.1, b.2 + 1)

/-- The places at which p holds. -/
def found {α : Type} (p : α → Bool) (l : List α) : List Int := (l.foldl (foundStep p) ([], 0)).1

theorem found_fold {α : Type} (p : α → Bool) : ∀ (l : List α) (b : List Int × Nat), b.1.length ≤ b.2 → (l.foldl (foundStep p) b).1.length ≤ b.2 + l.length
  | [], b, h => by simpa using h
  | x :: r, b, h => by
    rw [List.foldl_cons]
    have := found_fold p r (foundStep p b x) (by
      simp only [foundStep]
      split
      · simp; omega
      · omega)
    simp only [foundStep] at this ⊢
    simp only [List.length_cons]
    omega

theorem found_len {α : Type} (p : α → Bool) (l : List α) : (found p l).length ≤ l.length := by
  have := found_fold p l ([], 0) (by simp)
  simpa [found] using this

theorem found_congr {α : Type} {p q : α → Bool} {l : List α} (h : ∀ x ∈ l, p x = q x) : found p l = found q l := by
  have key : ∀ (l : List α) (b : List Int × Nat), (∀ x ∈ l, p x = q x) → l.foldl (foundStep p) b = l.foldl (foundStep q) b := by
    intro l
    induction l with
    | nil => intro b _; rfl
    | cons x r ih =>
      intro b h
      rw [List.foldl_cons, List.foldl_cons]
      have e : foundStep p b x = foundStep q b x := by
        simp only [foundStep]
        rw [h x (List.mem_cons_self ..)]
      rw [e]
      exact ih _ fun y hy => h y (List.mem_cons_of_mem _ hy)
  unfold found
  rw [key l _ h]

end Go.Am

/- The abstract machine, part 33: loops within loops; strings of one byte. -/
namespace Go.Am
set_option linter.unusedVariables false
set_option linter.unusedSimpArgs false

/-- A loop over a list, whatever fuel its rounds take. -/
theorem loop_ex {α β δ : Type} (xs : List α) (d : α) (f : β → α → Except δ β) (fin : β → δ) (Inv : Nat → β → Prop) (R : Int → β → δ → Prop) {b : β} (h0 : Inv 0 b)
    (hend : ∀ b, Inv xs.length b → R xs.length b (fin b))
    (hstep : ∀ (i : Nat) b, i < xs.length → Inv i b → match f b (xs.getD i d) with
      | .ok b' => Inv (i + 1) b' ∧ ∀ ds, R (((i : Nat) : Int) + 1) b' ds → R (i : Int) b ds
      | .error ds => R (i : Int) b ds) : R 0 b (goL f fin b xs) :=
  loop_all xs d f fin Inv (fun _ i b ds => R i b ds) h0 (fun _ b h => hend b h) (fun _ i b hi hb => hstep i b hi hb)

theorem loop_exFold {α β δ : Type} (xs : List α) (d : α) (g : β → α → β) (fin : β → δ) (Inv : Nat → β → Prop) (R : Int → β → δ → Prop) {b : β} (h0 : Inv 0 b)
    (hend : ∀ b, Inv xs.length b → R xs.length b (fin b))
    (hstep : ∀ (i : Nat) b, i < xs.length → Inv i b → Inv (i + 1) (g b (xs.getD i d)) ∧ ∀ ds, R (((i : Nat) : Int) + 1) (g b (xs.getD i d)) ds → R (i : Int) b ds) : R 0 b (fin (xs.foldl g b)) :=
  loop_fold xs d g fin Inv (fun _ i b ds => R i b ds) h0 (fun _ b h => hend b h) (fun _ i b hi hb => hstep i b hi hb)

theorem bytes_list {a b : ByteArray} : a = b ↔ a.data.toList = b.data.toList := by
  constructor
  · rintro rfl; rfl
  · intro h
    obtain ⟨x⟩ := a
    obtain ⟨y⟩ := b
    simp only at h
    rw [Array.toList_inj.1 h]

/-- c, n times. -/
def repB (c : UInt8) (n : Nat) : ByteArray := ⟨(Lib.repeatL [c] n).toArray⟩

theorem repB_zero (c : UInt8) : repB c 0 = ByteArray.mk #[] := rfl

theorem repB_size (c : UInt8) (n : Nat) : (repB c n).size = n := by
  show (Lib.repeatL [c] n).toArray.size = n
  rw [List.size_toArray, Lib.repeatL_length]
  simp

theorem repB_succ (c : UInt8) (n : Nat) (s : ByteArray) : (s ++ ByteArray.mk #[c]) ++ repB c n = s ++ repB c (n + 1) := by
  rw [bytes_list]
  simp only [ByteArray.data_append, Array.toList_append]
  show (s.data.toList ++ [c]) ++ Lib.repeatL [c] n = s.data.toList ++ ([c] ++ Lib.repeatL [c] n)
  rw [List.append_assoc]

theorem bytes_nil_append (s : ByteArray) : ByteArray.mk #[] ++ s = s := by
  rw [bytes_list]
  simp only [ByteArray.data_append, Array.toList_append]
  rfl

end Go.Am

/- The abstract machine, part 34: rows that the library makes and turns. -/
namespace Go.Am
set_option linter.unusedVariables false
set_option linter.unusedSimpArgs false
open Go.RowKit (Below)

theorem row_flat {w : World} {t : Ty} (hf : t.flat = true) : ∀ {xs : List t.den}, (∀ x ∈ xs, Wf t x) → Row (OwnC w t) t.size xs (xs.map (fcells t)) (xs.map fun _ => [])
  | [], _ => ⟨rfl, rfl⟩
  | x :: r, h => by
    have ho := own_of_wf (w := w) hf (h x (List.mem_cons_self ..))
    exact ⟨_, _, _, _, rfl, rfl, ho.length, ho, row_flat hf fun y hy => h y (List.mem_cons_of_mem _ hy)⟩

theorem nils_flatten {α : Type} (xs : List α) : (xs.map fun _ => ([] : List Nat)).flatten = [] := by
  induction xs with
  | nil => rfl
  | cons x r ih => simp

/-- What the library lays as a new row is an array of one's own. -/
theorem own_of_row {w : World} {t : Ty} (hf : t.flat = true) {base : Nat} {e : TypeId} {v : Value} {xs : List t.den} (hw : ∀ x ∈ xs, Wf t x) (hm : xs.length ≤ maxLen)
    (h : w.ownsRow base e t.size v xs.length (xs.map (fcells t)).flatten) : ∃ bs, OwnC w (.sl t) xs [v] bs ∧ bs.Nodup ∧ ∀ b ∈ bs, base ≤ b := by
  rcases h.2 with ⟨rfl, hn⟩ | ⟨g, cap, cur, rfl, hb, hh, h1, h2, h3, h4⟩
  · have : xs = [] := List.eq_nil_of_length_eq_zero hn
    subst this
    exact ⟨[], ⟨_, rfl, by simp, .inl ⟨_, rfl, rfl, rfl⟩⟩, List.nodup_nil, fun b hb => by cases hb⟩
  · have hrow := row_flat (w := w) hf hw
    have ho := ownSl_of_row hrow (b := g) (off := 0) (cap := cap) (cur := cur) (ty := e) (fz := (0, 0)) hm h1 h2 (by rw [Nat.zero_add, h3]; exact Nat.le_refl _) hh (freeS_zero _ _) (fun j c hj => by
      rw [Nat.zero_add, ← Array.getElem?_toList]
      have hl : j < xs.length * t.size := by
        have := (List.getElem?_eq_some_iff.1 hj).1
        rw [hrow.len.2.2] at this
        exact this
      rw [← h4, List.getElem?_take, if_pos hl] at hj
      exact hj)
    rw [nils_flatten] at ho
    exact ⟨[g], ⟨_, rfl, ho⟩, by simp, fun b hb' => by simp at hb'; omega⟩

/-! ### A row of strings, turned in its place -/

/-- The bytes of strings. -/
def bls (xs : List ByteArray) : List (List UInt8) := xs.map fun s => s.data.toList
def sbl (ss : List (List UInt8)) : List ByteArray := ss.map fun l => ⟨l.toArray⟩

theorem sbl_bls (xs : List ByteArray) : sbl (bls xs) = xs := by
  unfold sbl bls
  rw [List.map_map]
  conv => rhs; rw [← List.map_id xs]
  rfl

theorem strs_cells {w : World} : ∀ {xs : List ByteArray} {css : List (List Value)} {bss : List (List Nat)}, Row (OwnC w .str) 1 xs css bss → css.flatten = xs.map Value.string ∧ bss.flatten = [] ∧ ∀ x ∈ xs, x.size ≤ maxLen
  | [], css, bss, ⟨h1, h2⟩ => by subst h1 h2; exact ⟨rfl, rfl, fun x h => by cases h⟩
  | x :: r, css, bss, ⟨c, cs, b, bs, h1, h2, h3, h4, h5⟩ => by
    subst h1 h2
    obtain ⟨e1, e2, e3⟩ := strs_cells h5
    obtain ⟨rfl, hx, rfl⟩ := h4
    refine ⟨by simp [e1], by simp [e2], fun y hy => ?_⟩
    rcases List.mem_cons.1 hy with rfl | hy
    · exact hx
    · exact e3 y hy

open Go.Sort in
theorem strs_own {w : World} {xs : List ByteArray} {v : Value} {bs : List Nat} (h : OwnC w (.sl .str) xs [v] bs) : (∀ x ∈ xs, x.size ≤ maxLen) ∧ ((∃ ad, v = .slice ad 0 0 ∧ xs = [] ∧ bs = []) ∨
    ∃ b off cap cur ty fz, v = .slice (some ⟨b, off, none⟩) xs.length cap ∧ xs.length ≤ cap ∧ cap ≤ maxLen ∧ off + cap ≤ cur.size ∧ w.heap[b]? = some (.cells cur ty fz) ∧ FreeS 1 fz cur.size ∧ bs = [b] ∧
      ∀ (j : Nat) (x : ByteArray), xs[j]? = some x → cur[off + j]? = some (.string x)) := by
  obtain ⟨v', hv, h⟩ := h
  cases hv
  obtain ⟨css, bss, hrow, hcase⟩ := OwnSl.row h
  obtain ⟨e1, e2, e3⟩ := strs_cells hrow
  refine ⟨e3, ?_⟩
  rcases hcase with ⟨ad, h1, h2, h3⟩ | ⟨b, off, cap, cur, ty, fz, h1, h2, h3, h4, h5, h6, h7, h8⟩
  · exact .inl ⟨ad, h1, h2, h3⟩
  · refine .inr ⟨b, off, cap, cur, ty, fz, h1, h2, h3, by simpa [Ty.size] using h4, h5, h6, by rw [h7, e2], fun j x hx => h8 j _ ?_⟩
    rw [e1, List.getElem?_map, hx]
    rfl

theorem bls_get (xs : List ByteArray) (j : Nat) (h : j < (bls xs).toArray.size) : ∃ x, xs[j]? = some x ∧ Value.string ⟨((bls xs).toArray[j]!).toArray⟩ = .string x := by
  have hl : j < xs.length := by simpa [bls] using h
  refine ⟨xs[j], List.getElem?_eq_getElem hl, ?_⟩
  rw [getElem!_pos _ j h]
  simp [bls]

open Go.Sort in
theorem strs_holds {w : World} {xs : List ByteArray} {b off : Nat} {cur : Array Value} {ty : TypeId} {fz : Nat × Nat} (h5 : w.heap[b]? = some (.cells cur ty fz)) (h6 : FreeS 1 fz cur.size)
    (h8 : ∀ (j : Nat) (x : ByteArray), xs[j]? = some x → cur[off + j]? = some (.string x)) : Holds (fun l : List UInt8 => Value.string ⟨l.toArray⟩) w b off (bls xs).toArray := by
  intro j hj
  obtain ⟨x, hx, he⟩ := bls_get xs j hj
  have hc := h8 j x hx
  refine ⟨?_, ?_⟩
  · show _ = some (Value.string ⟨((bls xs).toArray[j]!).toArray⟩)
    rw [he]
    simp only [World.cell?, h5]
    exact hc
  · simp only [World.frozen?, h5]
    have hlt : off + j < cur.size := (Array.getElem?_eq_some_iff.1 hc).1
    have := h6.1 (off + j) hlt
    rw [Bool.eq_false_iff]
    intro hh
    simp only [Bool.and_eq_true, decide_eq_true_eq] at hh
    exact this hh

open Go.Sort in
/-- The row holds other strings. -/
theorem strs_turned {w w' : World} {xs ys : List ByteArray} {b off cap : Nat} {cur : Array Value} {ty : TypeId} {fz : Nat × Nat} {n : Nat} {os : Array Obj} (hl : ys.length = xs.length) (hm : xs.length ≤ maxLen) (hs : ∀ y ∈ ys, y.size ≤ maxLen)
    (h2 : xs.length ≤ cap) (h3 : cap ≤ maxLen) (h4 : off + cap ≤ cur.size) (h5 : w.heap[b]? = some (.cells cur ty fz)) (h6 : FreeS 1 fz cur.size)
    (hw : w' = grow (putRow (fun l : List UInt8 => Value.string ⟨l.toArray⟩) (Sort.ahead w n) b off (bls ys).toArray) os) :
    OwnC w' (.sl .str) ys [.slice (some ⟨b, off, none⟩) xs.length cap] [b] ∧ Kept [b] w w' := by
  have hb : b < w.heap.size := by
    rcases Nat.lt_or_ge b w.heap.size with h | h
    · exact h
    · rw [Array.getElem?_eq_none h] at h5; cases h5
  have hheap : ∀ k, k < w.heap.size → w'.heap[k]? = if b = k then (w.heap[k]?).map (onCells (putCells (fun l : List UInt8 => Value.string ⟨l.toArray⟩) off (bls ys).toArray)) else w.heap[k]? := fun k hk => by
    rw [hw]
    have hk' : k < (putRow (fun l : List UInt8 => Value.string ⟨l.toArray⟩) (Sort.ahead w n) b off (bls ys).toArray).heap.size := by rw [size_putRow]; exact hk
    show ((putRow _ (Sort.ahead w n) b off (bls ys).toArray).heap ++ os)[k]? = _
    rw [Array.getElem?_append_left hk']
    simp only [putRow, mapBlock, Sort.ahead, Array.getElem?_modify]
  refine ⟨?_, ?_⟩
  · have hcell := hheap b hb
    rw [if_pos rfl, h5] at hcell
    simp only [Option.map_some, onCells] at hcell
    have hsz : (putCells (fun l : List UInt8 => Value.string ⟨l.toArray⟩) off (bls ys).toArray cur).size = cur.size := by simp [putCells]
    have hrow := row_flat (w := w') (t := .str) rfl (xs := ys) hs
    have ho := ownSl_of_row hrow (b := b) (off := off) (cap := cap) (cur := putCells (fun l : List UInt8 => Value.string ⟨l.toArray⟩) off (bls ys).toArray cur) (ty := ty) (fz := fz) (by omega) (by omega) h3 (by rw [hsz]; simpa [Ty.size] using h4) hcell (by rw [hsz]; exact h6) (fun j c hj => by
      have e1 := (strs_cells hrow).1
      rw [e1, List.getElem?_map] at hj
      have hjl : j < ys.length := by
        rcases Nat.lt_or_ge j ys.length with h | h
        · exact h
        · rw [List.getElem?_eq_none h] at hj; cases hj
      have hbl : j < (bls ys).toArray.size := by simpa [bls] using hjl
      obtain ⟨x, hx, he⟩ := bls_get ys j hbl
      rw [hx] at hj
      simp only [Option.map_some, Option.some.injEq] at hj
      have hlt : off + j < cur.size := by omega
      simp only [putCells, Array.getElem?_mapIdx, Array.getElem?_eq_getElem hlt, Option.map_some]
      rw [if_pos ⟨by omega, by omega⟩, Nat.add_sub_cancel_left, he, hj])
    rw [nils_flatten, hl] at ho
    exact ⟨_, rfl, ho⟩
  · refine ⟨by rw [hw]; rfl, by rw [hw]; rfl, by rw [hw]; rfl, ?_, fun k hk hkb => ?_⟩
    · rw [hw]
      show _ ≤ ((putRow _ (Sort.ahead w n) b off (bls ys).toArray).heap ++ os).size
      rw [Array.size_append, size_putRow]
      show w.heap.size ≤ w.heap.size + _
      omega
    · rw [hheap k hk, if_neg (fun e => hkb (by rw [e]; simp))]

end Go.Am

/- The abstract machine, part 35: strings in order. -/
namespace Go.Am
set_option linter.unusedVariables false
set_option linter.unusedSimpArgs false

theorem bl_lt : ∀ x y : List UInt8, Op.bytesLess x y = true ↔ x < y
  | x, [] => by cases x <;> simp [Op.bytesLess]
  | [], b :: y => by simp [Op.bytesLess]
  | a :: x, b :: y => by
    rw [bl_cons, List.cons_lt_cons_iff, bl_lt x y, UInt8.lt_iff_toNat_lt, UInt8.toNat_inj]

/-- a does not stand behind b. -/
def sle (a b : ByteArray) : Prop := sless b a = false

theorem sle_trans {a b c : ByteArray} (h1 : sle a b) (h2 : sle b c) : sle a c := by
  unfold sle at *
  cases h : sless c a with
  | false => rfl
  | true =>
    exfalso
    cases h3 : sless a b with
    | true => rw [sless_trans h h3] at h2; cases h2
    | false =>
      have := sless_tri h3 h1
      subst this
      rw [h] at h2
      cases h2

theorem sle_refl (a : ByteArray) : sle a a := sless_irrefl a
theorem sle_of_lt {a b : ByteArray} (h : sless a b = true) : sle a b := sless_asymm h

/-- The strings in order. -/
def sortB (xs : List ByteArray) : List ByteArray := sbl ((bls xs).mergeSort fun x y => decide (x ≤ y))

theorem sortB_perm (x0 : List ByteArray) : (sortB x0).Perm x0 := by
  have h := (List.mergeSort_perm (bls x0) fun x y => decide (x ≤ y)).map (fun l => (⟨l.toArray⟩ : ByteArray))
  have e : (bls x0).map (fun l => (⟨l.toArray⟩ : ByteArray)) = x0 := sbl_bls x0
  rw [e] at h
  exact h

theorem le_iff (x y : List UInt8) : x ≤ y ↔ Op.bytesLess y x = false := by
  rw [Bool.eq_false_iff, ne_eq, bl_lt]
  exact Iff.rfl

theorem sortB_sorted (x0 : List ByteArray) : (sortB x0).Pairwise sle := by
  have h := List.pairwise_mergeSort (le := fun x y : List UInt8 => decide (x ≤ y)) (fun a b c h1 h2 => by
      simp only [decide_eq_true_eq, le_iff] at *
      cases h : Op.bytesLess c a with
      | false => rfl
      | true =>
        exfalso
        cases h3 : Op.bytesLess a b with
        | true => rw [bl_trans _ _ _ h h3] at h2; cases h2
        | false =>
          have := bl_tri _ _ h3 h1
          subst this
          rw [h] at h2
          cases h2) (fun a b => by
      simp only [Bool.or_eq_true, decide_eq_true_eq, le_iff]
      cases h : Op.bytesLess b a with
      | false => exact .inl rfl
      | true =>
        refine .inr ?_
        cases h2 : Op.bytesLess a b with
        | false => rfl
        | true =>
          have := bl_trans _ _ _ h h2
          rw [bl_irrefl] at this
          cases this) (bls x0)
  unfold sortB sbl
  rw [List.pairwise_map]
  refine h.imp fun {a b} hab => ?_
  simp only [decide_eq_true_eq, le_iff] at hab
  unfold sle sless
  rw [Lib.toList_data, Lib.toList_data]
  exact hab

/-- There is one way to bring strings into order. -/
theorem sort_unique {xs ys : List ByteArray} (hp : ys.Perm xs) (hs : ys.Pairwise sle) : ys = sortB xs :=
  List.Perm.eq_of_pairwise (le := sle) (fun a b _ _ h1 h2 => sless_tri h2 h1) hs (sortB_sorted xs) (hp.trans (sortB_perm xs).symm)

end Go.Am

/- The abstract machine, part 36: lines that are counted in a list in order. -/
namespace Go.Am
set_option linter.unusedVariables false
set_option linter.unusedSimpArgs false

/-- The last count is one more. -/
def bump (h : List Int) : List Int := List.set h (Int.toNat ((↑(List.length h) : Int) - 1)) (List.getD h (Int.toNat ((↑(List.length h) : Int) - 1)) 0 + 1)

theorem bump_len (h : List Int) : (bump h).length = h.length := by simp [bump]

def cntNew (xs : List ByteArray) (i : Nat) (x : ByteArray) : Bool := decide (i = 0) || !(ByteArray.toList x == ByteArray.toList (xs.getD (i - 1) ByteArray.empty))

def cntStep (xs : List ByteArray) (b : (List ByteArray × List Int) × Nat) (x : ByteArray) : (List ByteArray × List Int) × Nat :=
  if cntNew xs b.2 x = true then ((b.1.1 ++ [x], bump (b.1.2 ++ [0])), b.2 + 1) else ((b.1.1, bump b.1.2), b.2 + 1)

def CntInv (n : Nat) (b : (List ByteArray × List Int) × Nat) : Prop := b.2 = n ∧ b.1.1.length ≤ n ∧ b.1.2.length = b.1.1.length ∧ (n = 0 ∨ b.1.2 ≠ []) ∧ ∀ c ∈ b.1.2, 0 ≤ c ∧ c ≤ n

theorem bump_all {h : List Int} {n : Nat} (hc : ∀ c ∈ h, 0 ≤ c ∧ c ≤ n) : ∀ c ∈ bump h, 0 ≤ c ∧ c ≤ ((n + 1 : Nat) : Int) := by
  intro c hm
  rcases List.mem_or_eq_of_mem_set hm with h1 | h1
  · have := hc c h1; omega
  · generalize hk : Int.toNat ((↑(List.length h) : Int) - 1) = k at h1
    by_cases hlt : k < h.length
    · have := hc _ (mem_getD h k 0 hlt)
      omega
    · have : h.getD k 0 = 0 := by simp [List.getD, List.getElem?_eq_none (Nat.le_of_not_lt hlt)]
      omega

theorem cnt_side {h : List Int} {n : Nat} (hne : h ≠ []) (hl : h.length ≤ 1048577) (hc : ∀ c ∈ h, 0 ≤ c ∧ c ≤ n) (hn : n ≤ 1048576) :
    InR .i64 ((↑(List.length h) : Int) - 1) ∧ (0 ≤ (↑(List.length h) : Int) - 1) ∧ ((↑(List.length h) : Int) - 1 < (↑(List.length h) : Int)) ∧ InR .i64 (List.getD h (Int.toNat ((↑(List.length h) : Int) - 1)) 0 + 1) := by
  have hp : 0 < h.length := List.length_pos_iff.2 hne
  have := hc _ (mem_getD h (Int.toNat ((↑(List.length h) : Int) - 1)) 0 (by omega))
  exact ⟨by rw [i64_iff]; omega, by omega, by omega, by rw [i64_iff]; omega⟩

theorem cnt_inv (xs : List ByteArray) {n : Nat} {b : (List ByteArray × List Int) × Nat} (x : ByteArray) (h : CntInv n b) : CntInv (n + 1) (cntStep xs b x) := by
  obtain ⟨⟨h1, h2⟩, i⟩ := b
  obtain ⟨e, a1, a2, a3, a4⟩ := h
  simp only at e a1 a2 a3 a4
  subst e
  unfold cntStep
  by_cases hc : cntNew xs i x = true
  · simp only [if_pos hc]
    refine ⟨rfl, by simp; omega, by simp [bump_len]; omega, .inr (fun h => ?_), bump_all (n := i) fun c hm => ?_⟩
    · have := congrArg List.length h
      simp [bump_len] at this
    · rcases List.mem_append.1 hm with hm | hm
      · exact a4 c hm
      · rw [List.mem_singleton.1 hm]; omega
  · simp only [if_neg hc]
    refine ⟨rfl, Nat.le_succ_of_le a1, by simp [bump_len]; omega, .inr (fun h => ?_), bump_all a4⟩
    have h0 : i ≠ 0 := fun h0 => hc (by simp [cntNew, h0])
    rcases a3 with a3 | a3
    · exact h0 a3
    · have := congrArg List.length h
      rw [bump_len] at this
      exact a3 (List.eq_nil_of_length_eq_zero this)

/-- What is counted. -/
def counted (xs : List ByteArray) : (List ByteArray × List Int) × Nat := xs.foldl (cntStep xs) (([], []), 0)

theorem counted_inv (xs : List ByteArray) : CntInv xs.length (counted xs) := by
  have key : ∀ (l : List ByteArray) (n : Nat) b, CntInv n b → CntInv (n + l.length) (l.foldl (cntStep xs) b) := by
    intro l
    induction l with
    | nil => intro n b h; exact h
    | cons x r ih =>
      intro n b h
      have := ih (n + 1) _ (cnt_inv xs x h)
      rw [List.foldl_cons, List.length_cons]
      have e : n + (r.length + 1) = n + 1 + r.length := by omega
      rw [e]
      exact this
  have := key xs 0 (([], []), 0) ⟨rfl, by simp, rfl, .inl rfl, by simp⟩
  rw [Nat.zero_add] at this
  exact this

end Go.Am

/- The abstract machine, part 37: decimal numerals; strings that are split at a byte. -/
namespace Go.Am
set_option linter.unusedVariables false
set_option linter.unusedSimpArgs false
open Go.Sort (grow)

/-- The decimal numeral. -/
def numB (n : Int) : ByteArray := ⟨(Lib.itoa n).toArray⟩

theorem numB_size (n : Int) (h0 : -9223372036854775808 ≤ n) (h1 : n ≤ 9223372036854775807) : (numB n).size ≤ 21 := by
  show (Lib.itoa n).toArray.size ≤ 21
  rw [List.size_toArray]
  exact Lib.itoa_length_le n h0 h1

theorem numB_list (n : Int) : (numB n).data.toList = Lib.itoa n := rfl

theorem kept_grow (w : World) (n : Nat) (os : Array Obj) : Kept [] w (grow (w.drewN n) os) where
  os := rfl
  tape := rfl
  output := rfl
  size := by show w.heap.size ≤ (w.heap ++ os).size; rw [Array.size_append]; omega
  block := fun k hk _ => by
    show (w.heap ++ os)[k]? = w.heap[k]?
    exact Array.getElem?_append_left hk

theorem splitB_part (sep : ByteArray) (save : Nat) : ∀ (k : Nat) (s y : ByteArray), y ∈ Lib.splitB sep save k s → y.size ≤ s.size
  | 0, s, y, h => by rw [Lib.splitB_zero, List.mem_singleton] at h; rw [h]; exact Nat.le_refl _
  | k + 1, s, y, h => by
    unfold Lib.splitB at h
    split at h
    · rw [List.mem_singleton] at h; rw [h]; exact Nat.le_refl _
    · rcases List.mem_cons.1 h with rfl | h
      · rw [ByteArray.size_extract]; omega
      · have := splitB_part sep save k _ y h
        rw [ByteArray.size_extract] at this
        omega

/-! ### Split at a byte -/

/-- The pieces between the bytes c. -/
def splitC (c : UInt8) : List UInt8 → List (List UInt8)
  | [] => [[]]
  | b :: r => if b = c then [] :: splitC c r else match splitC c r with
    | [] => [[b]]
    | p :: ps => (b :: p) :: ps

theorem splitC_ne (c : UInt8) : ∀ l, splitC c l ≠ []
  | [] => by simp [splitC]
  | b :: r => by
    unfold splitC
    split
    · simp
    · split <;> simp

theorem splitC_free (c : UInt8) : ∀ {p : List UInt8}, c ∉ p → splitC c p = [p]
  | [], _ => rfl
  | b :: r, h => by
    have h1 : b ≠ c := fun e => h (by rw [e]; exact List.mem_cons_self ..)
    have h2 : c ∉ r := fun e => h (List.mem_cons_of_mem _ e)
    unfold splitC
    rw [if_neg h1, splitC_free c h2]

theorem splitC_hit (c : UInt8) : ∀ {p : List UInt8} (r : List UInt8), c ∉ p → splitC c (p ++ c :: r) = p :: splitC c r
  | [], r, _ => by simp [splitC]
  | b :: q, r, h => by
    have h1 : b ≠ c := fun e => h (by rw [e]; exact List.mem_cons_self ..)
    have h2 : c ∉ q := fun e => h (List.mem_cons_of_mem _ e)
    rw [List.cons_append, splitC, if_neg h1, splitC_hit c r h2]

/-- Each piece bears no c; joined they are the whole. -/
theorem splitC_free_mem (c : UInt8) : ∀ (l p : List UInt8), p ∈ splitC c l → c ∉ p
  | [], p, h => by simp [splitC] at h; simp [h]
  | b :: r, p, h => by
    unfold splitC at h
    split at h
    · rcases List.mem_cons.1 h with rfl | h
      · simp
      · exact splitC_free_mem c r p h
    · rename_i hb
      split at h
      · rename_i e; exact absurd e (splitC_ne c r)
      · rename_i q qs e
        rcases List.mem_cons.1 h with rfl | h
        · have := splitC_free_mem c r q (by rw [e]; exact List.mem_cons_self ..)
          intro hm
          rcases List.mem_cons.1 hm with rfl | hm
          · exact hb rfl
          · exact this hm
        · exact splitC_free_mem c r p (by rw [e]; exact List.mem_cons_of_mem _ h)

theorem splitC_length (c : UInt8) : ∀ l, (splitC c l).length = l.count c + 1
  | [] => rfl
  | b :: r => by
    unfold splitC
    split
    · rename_i h; subst h; rw [List.length_cons, splitC_length]; simp
    · rename_i h
      have := splitC_length c r
      rw [List.count_cons_of_ne (by simpa using h)]
      split
      · rename_i e; exact absurd e (splitC_ne c r)
      · rename_i q qs e
        rw [e] at this
        simpa using this

theorem splitC_join (c : UInt8) : ∀ l, [c].intercalate (splitC c l) = l
  | [] => by simp [splitC, List.intercalate]
  | b :: r => by
    have ih := splitC_join c r
    unfold splitC
    split
    · rename_i h
      subst h
      cases e : splitC b r with
      | nil => exact absurd e (splitC_ne b r)
      | cons q qs =>
        rw [e] at ih
        show Lib.join ([] :: q :: qs) [b] = b :: r
        rw [Lib.join_cons]
        have : Lib.join (q :: qs) [b] = r := ih
        rw [Lib.join_cons] at this
        simp only [Lib.joinTail, List.map_cons, List.flatten_cons, List.nil_append] at this ⊢
        rw [← this]
        simp
    · split
      · rename_i e; exact absurd e (splitC_ne c r)
      · rename_i q qs e
        rw [e] at ih
        have h1 : Lib.join (q :: qs) [c] = r := ih
        show Lib.join ((b :: q) :: qs) [c] = b :: r
        rw [Lib.join_cons] at h1 ⊢
        rw [← h1]
        rfl

theorem index_one_none (c : UInt8) : ∀ {l : List UInt8}, c ∉ l → Lib.index l [c] = -1
  | [], _ => by simp [Lib.index]
  | b :: r, h => by
    have h1 : b ≠ c := fun e => h (by rw [e]; exact List.mem_cons_self ..)
    have h2 : c ∉ r := fun e => h (List.mem_cons_of_mem _ e)
    rw [Lib.index, index_one_none c h2]
    simp [List.isPrefixOf, Ne.symm h1]

theorem index_one_hit (c : UInt8) : ∀ {p : List UInt8} (r : List UInt8), c ∉ p → Lib.index (p ++ c :: r) [c] = (p.length : Int)
  | [], r, _ => by simp [Lib.index, List.isPrefixOf]
  | b :: q, r, h => by
    have h1 : b ≠ c := fun e => h (by rw [e]; exact List.mem_cons_self ..)
    have h2 : c ∉ q := fun e => h (List.mem_cons_of_mem _ e)
    rw [List.cons_append, Lib.index, index_one_hit c r h2]
    have : ¬ ((q.length : Int) == -1) = true := fun e => by have := beq_iff_eq.1 e; omega
    have h3 : ([c] : List UInt8).isPrefixOf (b :: (q ++ c :: r)) = false := by simp [List.isPrefixOf, Ne.symm h1]
    rw [h3, if_neg (by simp), if_neg this]
    simp

/-- Where c stands first. -/
theorem split_at (c : UInt8) : ∀ (l : List UInt8), c ∉ l ∨ ∃ p r, l = p ++ c :: r ∧ c ∉ p
  | [] => .inl (by simp)
  | b :: l => by
    by_cases h : b = c
    · exact .inr ⟨[], l, by rw [h]; rfl, by simp⟩
    · rcases split_at c l with h1 | ⟨p, r, rfl, h2⟩
      · exact .inl (fun hm => by rcases List.mem_cons.1 hm with rfl | hm; exact h rfl; exact h1 hm)
      · exact .inr ⟨b :: p, r, rfl, fun hm => by rcases List.mem_cons.1 hm with rfl | hm; exact h rfl; exact h2 hm⟩

theorem splitK_one (c : UInt8) : ∀ (k : Nat) (l : List UInt8), l.count c ≤ k → Lib.splitK [c] 0 k l = splitC c l
  | 0, l, h => by
    have hn : c ∉ l := fun hm => by have := List.count_pos_iff.2 hm; omega
    rw [splitC_free c hn]; rfl
  | k + 1, l, h => by
    rcases split_at c l with hn | ⟨p, r, rfl, hn⟩
    · rw [splitC_free c hn, Lib.splitK, index_one_none c hn, if_pos (by rfl)]
    · have hc : r.count c ≤ k := by
        rw [List.count_append, List.count_cons_self] at h
        omega
      rw [splitC_hit c r hn, Lib.splitK, index_one_hit c r hn, if_neg (fun e => by have := beq_iff_eq.1 e; omega)]
      congr 1
      · simp
      · have e : (p ++ c :: r).drop (((p.length : Int)).toNat + [c].length) = r := by
          simp only [Int.toNat_natCast, List.length_singleton]
          rw [List.drop_append, List.drop_of_length_le (by omega), Nat.add_sub_cancel_left]
          rfl
        rw [e]
        exact splitK_one c k r hc

def bss (ls : List (List UInt8)) : List ByteArray := ls.map fun l => ⟨l.toArray⟩

theorem bss_data (xs : List ByteArray) : bss (xs.map fun x => x.data.toList) = xs := by
  unfold bss
  rw [List.map_map]
  conv => rhs; rw [← List.map_id xs]
  rfl

/-- What the library's Split gives at one byte. -/
theorem splitB_one (c : UInt8) (s : ByteArray) : Lib.splitB ⟨#[c]⟩ 0 (Lib.countB s ⟨#[c]⟩) s = bss (splitC c s.data.toList) := by
  have h := Lib.splitB_data ⟨#[c]⟩ 0 (Lib.countB s ⟨#[c]⟩) s
  have e : Lib.countB s ⟨#[c]⟩ = s.data.toList.count c := by
    show Lib.count s.data.toList [c] = _
    exact Lib.count_one c _
  have h2 := splitK_one c (Lib.countB s ⟨#[c]⟩) s.data.toList (by rw [e]; exact Nat.le_refl _)
  rw [← bss_data (Lib.splitB ⟨#[c]⟩ 0 (Lib.countB s ⟨#[c]⟩) s), h]
  show bss (Lib.splitK [c] 0 _ _) = _
  rw [h2]

/-- What the library's Cut gives at one byte. -/
theorem cut_none (c : UInt8) {l : List UInt8} (h : c ∉ l) : Lib.cut l [c] = (l, [], false) := by
  unfold Lib.cut
  rw [index_one_none c h, if_neg (by decide)]

theorem cut_hit (c : UInt8) {p : List UInt8} (r : List UInt8) (h : c ∉ p) : Lib.cut (p ++ c :: r) [c] = (p, r, true) := by
  unfold Lib.cut
  rw [index_one_hit c r h, if_pos (by omega)]
  simp

end Go.Am

/- The abstract machine, part 38: variables of the library that a statement lists with what they hold. -/
namespace Go.Am
set_option linter.unusedVariables false
set_option linter.unusedSimpArgs false

/-- The world with other cells in some of its variables. -/
def layCells (w : World) : List (Nat × List Value) → World
  | [] => w
  | (g, cs) :: r => layCells { w with heap := w.heap.modify g fun
      | .cells _ t fz => .cells cs.toArray t fz
      | o => o } r

/-- The cells of a table of integers. -/
def numCells : DataW Unit → List Value
  | .agg ps => ps.filterMap fun
    | .lit (.int k z) => some (.int k z)
    | _ => none
  | _ => []

theorem laid_drop {P : Program} {W : World} : ∀ {l : List (String × DataW Unit)} {i : Nat} {x : String × DataW Unit}, laidMet P l W → l[i]? = some x → ∃ r, laidMet P (x :: r) W
  | [], i, x, _, h => by simp at h
  | y :: l, 0, x, h, hi => by simp at hi; subst hi; exact ⟨l, h⟩
  | y :: l, i + 1, x, h, hi => laid_drop (l := l) (i := i) h.tail (by simpa using hi)

theorem tab_of_laid {P : Program} {W : World} {l : List (String × DataW Unit)} {i : Nat} {name : String} {k : IntKind} {zs : List Int} {g n : Nat} {t e : TypeId} (h : laidMet P l W) (hi : l[i]? = some (name, Lib.tabData k zs))
    (hg : P.globalNamed name = some g) (hty : (P.globals[g]?).map (·.type) = some t) (ht : P.underlying t = some (.array n e)) (he : P.underlying e = some (.int k)) (hce : P.cellsOf e = 1) (hct : P.cellsOf t = n) : Lib.TabIs P W name k zs := by
  obtain ⟨r, h⟩ := laid_drop h hi
  exact Lib.tabIs_of_head hg hty ht he hce hct h

/-- A variable that holds an error. -/
theorem ifc_of_laid {P : Program} {W : World} {l : List (String × DataW Unit)} {i : Nat} {name nm : String} {text : List UInt8} {g : Nat} {ti tp te ts : TypeId} {ms : Array (String × TypeId)} {f : Field} (h : laidMet P l W) (hi : l[i]? = some (name, .iface nm (.ptr (.agg [.lit (.string text)]))))
    (hg : P.globalNamed name = some g) (ht : (P.globals[g]?).map (·.type) = some ti) (hint : P.underlying ti = some (.interface ms)) (hrow : ∀ u, P.typeName? 3 u = some nm → u = tp)
    (hp : P.underlying tp = some (.pointer te)) (he : P.underlying te = some (.struct #[f])) (hft : f.type = ts) (hfo : f.offset = 0) (hs : P.underlying ts = some .string) (hc : P.cellsOf te = 1) (hcs : P.cellsOf ts = 1) : GHas W g .ifc := by
  obtain ⟨r, h⟩ := laid_drop h hi
  obtain ⟨a, s, hv, _⟩ := laid_sentinel h hg ht hint hrow hp he hft hfo hs hc hcs
  unfold World.var? at hv
  rw [hg] at hv
  have hv : (match W.heap[g]? with | some (.cells cs _ _) => some cs | _ => none) = some #[Value.iface tp (.pointer (some a))] := hv
  split at hv
  · rename_i cs t fz he
    cases hv
    exact ⟨t, fz, _, _, he⟩
  · cases hv

theorem GHas.ifc_cell {W : World} {g : Nat} (h : GHas W g .ifc) : ∃ ev, W.cell? ⟨g, 0, none⟩ = some ev ∧ (ev = .nilIface ∨ ∃ te pe, ev = .iface te pe) := by
  obtain ⟨t, fz, u, v, h⟩ := h
  exact ⟨.iface u v, by simp [World.cell?, h], .inr ⟨u, v, rfl⟩⟩

end Go.Am

/- The abstract machine, part 39: library functions over slices of whatever flat type: from their runs to their contracts. -/
namespace Go.Am
set_option linter.unusedVariables false
set_option linter.unusedSimpArgs false
open Go.RowKit (Below)

theorem fcells_one : ∀ {t : Ty} {x : t.den}, t.flat = true → ∀ u ∈ fcells t x, u.oneCell' = true
  | .int _, _, _, u, hu => by simp [fcells] at hu; subst hu; rfl
  | .bool, _, _, u, hu => by simp [fcells] at hu; subst hu; rfl
  | .str, _, _, u, hu => by simp [fcells] at hu; subst hu; rfl
  | .sl _, _, h, _, _ => by cases h
  | .unit, _, _, u, hu => by simp [fcells] at hu
  | .cons a b, x, hf, u, hu => by
    simp only [Ty.flat, Bool.and_eq_true] at hf
    simp only [fcells, List.mem_append] at hu
    rcases hu with hu | hu
    · exact fcells_one hf.1 u hu
    · exact fcells_one hf.2 u hu

theorem rep_fcells {w : World} {G : Nat → Prop} {t : Ty} {x : t.den} {cs : List Value} (hf : t.flat = true) (h : RepC w G t x cs) : cs = fcells t x := by
  have := own_fcells hf (h.own hf (w' := w))
  exact this

/-- The cells of flat elements, one behind the other. -/
def fcs (t : Ty) (xs : List t.den) : List Value := (xs.map (fcells t)).flatten

theorem row_fcells {w : World} {t : Ty} (hf : t.flat = true) : ∀ {xs : List t.den} {css : List (List Value)} {bss : List (List Nat)}, Row (OwnC w t) t.size xs css bss → css = xs.map (fcells t) ∧ bss.flatten = [] ∧ ∀ x ∈ xs, Wf t x
  | [], css, bss, ⟨h1, h2⟩ => by subst h1 h2; exact ⟨rfl, rfl, fun x h => by cases h⟩
  | x :: r, css, bss, ⟨c, cs, b, bs, h1, h2, h3, h4, h5⟩ => by
    subst h1 h2
    obtain ⟨e1, e2, e3⟩ := row_fcells hf h5
    have e4 : b = [] := (h4.flat (w' := w) (G := fun _ => True) hf).2
    refine ⟨by rw [e1, own_fcells hf h4]; rfl, by simp [e2, e4], fun y hy => ?_⟩
    rcases List.mem_cons.1 hy with rfl | hy
    · exact h4.wf
    · exact e3 y hy

theorem fcs_length {t : Ty} (hf : t.flat = true) {xs : List t.den} (hw : ∀ x ∈ xs, Wf t x) : (fcs t xs).length = xs.length * t.size :=
  (row_flat (w := default) hf hw).len.2.2

/-- A borrowed slice of flat elements. -/
theorem slAt_flat {w : World} {G : Nat → Prop} {t : Ty} (hf : t.flat = true) {xs : List t.den} {v : Value} (h : SlAt w G (RepC w G t) t.size xs v) :
    (∀ x ∈ xs, Wf t x) ∧ xs.length ≤ maxLen ∧ ((∃ ad, v = .slice ad 0 0 ∧ xs = []) ∨
      ∃ b off cap, v = .slice (some ⟨b, off, none⟩) xs.length cap ∧ xs.length ≤ cap ∧ cap ≤ maxLen ∧ G b ∧ ∀ j u, (fcs t xs)[j]? = some u → w.cell? ⟨b, off + j, none⟩ = some u) := by
  refine ⟨(wf_slAt (fun _ _ => RepC.wf) h).2, h.1, ?_⟩
  have hl := h.2
  obtain ⟨css, bss, hrow, hflat, hcase⟩ := SlAt.row h
  rcases hcase with ⟨ad, rfl, rfl⟩ | ⟨b', off, cap, rfl, hG, hcells⟩
  · exact .inl ⟨ad, rfl, rfl⟩
  · rcases hl with ⟨ad, e, rfl⟩ | ⟨b2, off2, cap2, e, h2, h3, h4, _⟩
    · simp only [Value.slice.injEq] at e
      obtain ⟨e1, e2, e3⟩ := e
      exact .inl ⟨some ⟨b', off, none⟩, by rw [e3]; rfl, rfl⟩
    · cases e
      refine .inr ⟨b', off, cap, rfl, h2, h3, hG, fun j u hj => hcells j u ?_⟩
      have hr : Row (OwnC w t) t.size xs css bss := hrow.mono fun y c b _ hh => by
        obtain ⟨g1, g2⟩ := hh
        subst g2
        exact g1.own hf
      rw [(row_fcells hf hr).1]
      exact hj

/-- An owned slice of flat elements. -/
theorem own_flat {w : World} {t : Ty} (hf : t.flat = true) {xs : List t.den} {v : Value} {bs : List Nat} (h : OwnC w (.sl t) xs [v] bs) :
    (∀ x ∈ xs, Wf t x) ∧ xs.length ≤ maxLen ∧ ((∃ ad, v = .slice ad 0 0 ∧ xs = [] ∧ bs = []) ∨
    ∃ b off cap cur ty fz, v = .slice (some ⟨b, off, none⟩) xs.length cap ∧ xs.length ≤ cap ∧ cap ≤ maxLen ∧ off + cap * t.size ≤ cur.size ∧ w.heap[b]? = some (.cells cur ty fz) ∧ FreeS t.size fz cur.size ∧ bs = [b] ∧
      ∀ j u, (fcs t xs)[j]? = some u → cur[off + j]? = some u) := by
  obtain ⟨v', hv, h⟩ := h
  cases hv
  have hm := h.1
  obtain ⟨css, bss, hrow, hcase⟩ := OwnSl.row h
  obtain ⟨e1, e2, e3⟩ := row_fcells hf hrow
  refine ⟨e3, hm, ?_⟩
  rcases hcase with ⟨ad, h1, h2, h3⟩ | ⟨b, off, cap, cur, ty, fz, h1, h2, h3, h4, h5, h6, h7, h8⟩
  · exact .inl ⟨ad, h1, h2, h3⟩
  · exact .inr ⟨b, off, cap, cur, ty, fz, h1, h2, h3, h4, h5, h6, by rw [h7, e2], fun j u hj => h8 j u (by rw [e1]; exact hj)⟩

/-- Such a slice, made. -/
theorem own_flat_mk {w : World} {t : Ty} (hf : t.flat = true) {xs : List t.den} (hw : ∀ x ∈ xs, Wf t x) {n b off cap : Nat} {cur : Array Value} {ty : TypeId} {fz : Nat × Nat} (hn : n = xs.length) (h2 : xs.length ≤ cap) (h3 : cap ≤ maxLen) (h4 : off + cap * t.size ≤ cur.size)
    (h5 : w.heap[b]? = some (.cells cur ty fz)) (h6 : FreeS t.size fz cur.size) (h8 : ∀ j u, (fcs t xs)[j]? = some u → cur[off + j]? = some u) : OwnC w (.sl t) xs [.slice (some ⟨b, off, none⟩) n cap] [b] := by
  subst hn
  have hrow := row_flat (w := w) hf hw
  have ho := ownSl_of_row hrow (b := b) (off := off) (cap := cap) (cur := cur) (ty := ty) (fz := fz) (Nat.le_trans h2 h3) h2 h3 h4 h5 h6 h8
  rw [nils_flatten] at ho
  exact ⟨_, rfl, ho⟩

/-! ### slices.Clone -/

def cloneSpec (t : Ty) : Spec := { sig := [AT.v (.sl t)], pre := fun ⟨x0, _⟩ => x0.length ≤ 1048576, res := fun ⟨x0, _⟩ => [⟨.sl t, x0⟩] }

theorem clone_contract {P : Program} {f : FuncId} {t : Ty} {e : TypeId} (hf : t.flat = true)
    (hnil : ∀ w : World, Calls P f #[.slice none 0 0] w fun e w' => e = .returned (.slice none 0 0) ∧ w' = w)
    (hsome : ∀ (w : World) (a : Addr) (n c : Nat) (news : List Value), news.length = n * t.size → n ≤ 1048576 → (∀ j u, news[j]? = some u → w.cell? (a.add j) = some u) → (∀ u ∈ news, u.oneCell' = true) →
      Calls P f #[.slice (some a) n c] w fun r w' => ∃ v', r = .returned v' ∧ w'.ownsRow w.heap.size e t.size v' n news ∧ Below w.heap.size w w') :
    Contract P f (cloneSpec t) := by
  rintro w ⟨x0, u⟩ vs bss hgo hp ⟨v, s, b, bs, rfl, rfl, ⟨rfl, ho⟩, rfl, rfl⟩ hn
  have hp : x0.length ≤ 1048576 := hp
  have hm : x0.length ≤ maxLen := by unfold maxLen; omega
  obtain ⟨hw, _, hcase⟩ := slAt_flat hf ho
  have hfin : ∀ (v' : Value) (w' : World), w'.ownsRow w.heap.size e t.size v' x0.length (fcs t x0) → Below w.heap.size w w' →
      ∃ rs ubs rbs, Ending.returned v' = .returned (packV rs) ∧ Kept ([[]] : List (List Nat)).flatten w w' ∧ ResRep w' [⟨.sl t, x0⟩] rs rbs ∧ UpdRep w' [] (ownVals [AT.v (.sl t)] [v]) ubs ∧ (ubs.flatten ++ rbs.flatten).Nodup ∧ ∀ b ∈ ubs.flatten ++ rbs.flatten, ¬ Am.Good w ([[]] : List (List Nat)).flatten b := fun v' w' h1 h2 => by
    obtain ⟨bs, g1, g2, g3⟩ := own_of_row hf hw hm h1
    refine ⟨[v'], [], [bs], rfl, Kept.of_below h2, ⟨_, _, _, _, _, rfl, rfl, g1, rfl, rfl, rfl⟩, ⟨rfl, rfl⟩, by simpa using g2, fun b hb hg => ?_⟩
    simp at hb
    have := g3 b hb
    have := hg.1
    omega
  rcases hcase with ⟨ad, rfl, rfl⟩ | ⟨b', off, cap, rfl, h2, h3, hG, hcells⟩
  · cases ad with
    | none =>
      refine (hnil w).mono ?_
      rintro r w' ⟨rfl, rfl⟩
      exact hfin _ _ ⟨by simp [fcs], .inl ⟨rfl, rfl⟩⟩ (Below.refl _ _)
    | some a =>
      refine (hsome w a 0 0 [] (by simp) (by omega) (fun j u h => by simp at h) (fun u h => by cases h)).mono ?_
      rintro r w' ⟨v', rfl, h1, h2⟩
      exact hfin _ _ h1 h2
  · refine (hsome w ⟨b', off, none⟩ x0.length cap (fcs t x0) (fcs_length hf hw) hp (fun j u hj => by rw [Addr.add_lit]; exact hcells j u hj) (fun u hu => ?_)).mono ?_
    · obtain ⟨l, hl, hu⟩ := List.mem_flatten.1 hu
      obtain ⟨x, _, rfl⟩ := List.mem_map.1 hl
      exact fcells_one hf u hu
    · rintro r w' ⟨v', rfl, h1, h2⟩
      exact hfin _ _ h1 h2

end Go.Am
