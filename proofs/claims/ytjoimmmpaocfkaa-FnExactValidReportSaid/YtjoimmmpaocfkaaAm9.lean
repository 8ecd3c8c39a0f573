/- The abstract machine, part 9: calls by contract: how arguments are read off the abstract state. -/
import Derived.Test.YtjoimmmpaocfkaaAm8
namespace Go.Am
set_option linter.unusedVariables false
set_option linter.unusedSimpArgs false

def Callable (P : Program) (f : FuncId) : Prop := ∃ fn, P.funcs[f]? = some fn ∧ (fn.name == "runtime.NumGoroutine") = false ∧ fn.body.isNone = false

abbrev Ext := List (FuncId × Spec)

def ExtOk (P : Program) : Ext → Prop
  | [] => True
  | (f, S) :: r => (Callable P f ∧ Contract P f S) ∧ ExtOk P r

/-! ### Reading arguments -/

def rgL {α : Type} (rg : Option (Nat × Nat)) (xs : List α) : List α :=
  match rg with
  | none => xs
  | some (lo, hi) => (xs.take hi).drop lo

def castL {t e : Ty} (h : t = e) (xs : List t.den) : List e.den := h ▸ xs
def castT {t e : Ty} (h : t = e) (x : t.den) : e.den := h ▸ x

def decV (L : Heap) : (t : Ty) → Atom → Option t.den
  | .sl e, .osl r rg => match hget L r with
    | some A => if h : A.t = e then some (rgL rg (castL h A.xs)) else none
    | none => none
  | t, A => decB t A

def decP (L : Heap) (t : Ty) : Atom → Option t.den
  | .ptr t' x => if h : t' = t then some (castT h x) else none
  | .optr r i p => match hget L r with
    | some A => match pathD p ⟨A.t, A.xs.getD i A.t.dflt⟩ with
      | some d => if h : d.t = t then some (castT h d.x) else none
      | none => none
    | none => none
  | _ => none

def refA : Atom → List Nat
  | .osl r _ => [r]
  | .optr r _ _ => [r]
  | _ => []

def decCaps (L : Heap) : (caps : List (Bool × Ty)) → List Atom → Option (capsDen caps × List Nat)
  | [], [] => some ((), [])
  | (true, t) :: r, A :: s => match decP L t A, decCaps L r s with
    | some x, some (y, us) => some ((x, y), refA A ++ us)
    | _, _ => none
  | (false, t) :: r, A :: s => match decB t A, decCaps L r s with
    | some x, some (y, us) => some ((x, y), us)
    | _, _ => none
  | _, _ => none

/-- An argument: what it reads as, the owned arrays that it hands over, and those that it lends. -/
def decA (L : Heap) : (a : AT) → PV → Option (a.den × List Nat × List Nat)
  | .v t, .a A => match decV L t A with | some x => some (x, [], refA A) | none => none
  | .p t, .a A => match decP L t A with | some x => some (x, [], refA A) | none => none
  | .own t, .a (.osl r none) => match hget L r with
    | some A => match A.bor with
      | true => none
      | false => if h : A.t = t then some (castL h A.xs, [r], []) else none
    | none => none
  | .fn f caps, .fn g as => match Nat.beq f g, decCaps L caps as with
    | true, some (x, us) => some (x, [], us)
    | _, _ => none
  | _, _ => none

def decArgs (L : Heap) : (sig : List AT) → List PV → Option (sigDen sig × List (List Nat) × List Nat)
  | [], [] => some ((), [], [])
  | a :: r, p :: s => match decA L a p, decArgs L r s with
    | some (x, o, u), some (y, os, us) => some ((x, y), o :: os, u ++ us)
    | _, _ => none
  | _, _ => none

def memB (n : Nat) : List Nat → Bool
  | [] => false
  | m :: r => Nat.beq n m || memB n r

def disjB : List Nat → List Nat → Bool
  | [], _ => true
  | n :: r, l => !(memB n l) && disjB r l

def nodupB : List Nat → Bool
  | [] => true
  | n :: r => !(memB n r) && nodupB r

theorem memB_iff {n : Nat} : ∀ {l : List Nat}, memB n l = true ↔ n ∈ l
  | [] => by simp [memB]
  | m :: r => by simp [memB, memB_iff (l := r)]

theorem disjB_spec : ∀ {l m : List Nat}, disjB l m = true → ∀ n ∈ l, n ∉ m
  | [], _, _, n, hn => by cases hn
  | k :: r, m, h, n, hn => by
    simp only [disjB, Bool.and_eq_true, Bool.not_eq_true'] at h
    rcases List.mem_cons.1 hn with rfl | hn
    · intro hm; rw [memB_iff.2 hm] at h; cases h.1
    · exact disjB_spec h.2 n hn

theorem nodupB_spec : ∀ {l : List Nat}, nodupB l = true → l.Nodup
  | [], _ => List.nodup_nil
  | k :: r, h => by
    simp only [nodupB, Bool.and_eq_true, Bool.not_eq_true'] at h
    refine List.nodup_cons.2 ⟨fun hm => ?_, nodupB_spec h.2⟩
    rw [memB_iff.2 hm] at h; cases h.1

section
variable {P : Program} {n : Nat} {w0 w : World} {O : List Nat} {a : Act} {E : Env} {L : Heap} {V : Nat → Value} {own : Nat → List Nat} {G : Nat → Prop}

/-- What is lent is good for the callee. 'H': the blocks that the callee takes over. -/
def Lent (w : World) (H : List Nat) (b : Nat) : Prop := b < w.heap.size ∧ b ∉ H

theorem good_eq (w : World) (H : List Nat) : Good w H = Lent w H := rfl

theorem RelV.lendG (hR : RelV n w0 O w a E L V own) {w' : World} (k : Kept [] w w') {H : List Nat} (hH : ∀ b ∈ H, ¬ Good w0 O b) : ∀ b, Good w0 O b → Good w' H b := fun b hb =>
  ⟨Nat.lt_of_lt_of_le hb.1 (Nat.le_trans hR.kept.size k.size), fun h => hH b h hb⟩

theorem SlAt.sub {w : World} {G : Nat → Prop} {α : Type} {R : α → List Value → Prop} {sz nn lo hi : Nat} {xs : List α} {V v : Value} (h : SlAt w G R sz xs V) (hs : SubSl sz xs.length V lo hi v) :
    SlAt w G R sz ((xs.take hi).drop lo) v := by
  obtain ⟨h1, h2, h3⟩ := hs
  have hlen : ((xs.take hi).drop lo).length = hi - lo := by simp; omega
  refine ⟨by rw [hlen]; have := h.1; omega, ?_⟩
  rcases h3 with ⟨hV, rfl, hz⟩ | ⟨b, off, m, cap, o, c, hV, rfl, hle, hcase⟩
  · exact .inl ⟨rfl, List.eq_nil_of_length_eq_zero (by rw [hlen]; omega)⟩
  · rcases h.2 with ⟨h5, _⟩ | ⟨b', off', cap', h5, h6, h7, h8, h9⟩
    · rw [h5] at hV; cases hV
    · rw [h5] at hV
      cases hV
      rw [← hlen] at hle ⊢
      by_cases hc0 : c = 0
      · subst hc0
        refine .inr ⟨_, o, 0, rfl, hle, Nat.zero_le _, h8, fun i x hx => ?_⟩
        have := (List.getElem?_eq_some_iff.1 hx).1
        omega
      · obtain ⟨ho, hcap⟩ := hcase.resolve_right (fun h => hc0 h.1)
        refine .inr ⟨_, o, c, rfl, hle, by omega, h8, fun i x hx => ?_⟩
        have hx' : xs[lo + i]? = some x := by
          rw [List.getElem?_drop, List.getElem?_take] at hx
          split at hx
          · exact hx
          · cases hx
        obtain ⟨cs, hl, hcs, hr⟩ := h9 _ x hx'
        refine ⟨cs, hl, fun j cc hj => ?_, hr⟩
        have := hcs j cc hj
        rwa [ho, Nat.add_assoc off, ← Nat.add_mul]

theorem SlAt.whole {w : World} {G : Nat → Prop} {α : Type} {R : α → List Value → Prop} {sz : Nat} {xs : List α} {V v : Value} (h : SlAt w G R sz xs V) (hs : SubSl sz xs.length V 0 xs.length v) : SlAt w G R sz xs v := by
  have := h.sub (nn := 0) hs
  rwa [List.take_length, List.drop_zero] at this

theorem RelV.own_lt (hR : RelV n w0 O w a E L V own) {r : Nat} {A : Arr} (h : hget L r = some A) : ∀ b ∈ own r, b < w.heap.size := (hR.heap r A h).lt

/-- An owned array, lent. -/
theorem RelV.lend (hR : RelV n w0 O w a E L V own) {w' : World} (k : Kept [] w w') {H : List Nat} (hH : ∀ b ∈ H, ¬ Good w0 O b) {r : Nat} {A : Arr} (h : hget L r = some A) (hd : ∀ b ∈ own r, b ∉ H) :
    SlAt w' (Good w' H) (RepC w' (Good w' H) A.t) A.t.size A.xs (V r) := by
  have h1 := (hR.heap r A h).keep (w' := w') fun b hb => k.block b (hR.own_lt h b hb) (by simp)
  have hG : ∀ b ∈ own r, Good w' H b := fun b hb => ⟨Nat.lt_of_lt_of_le (hR.own_lt h b hb) k.size, hd b hb⟩
  refine OwnSl.read (fun x cs bi hs hr => ?_) hG h1
  revert hr
  unfold entR
  cases A.bor with
  | true => exact fun hr => hr.1.keep (hR.lendG k hH) (hR.keepG k)
  | false => exact fun hr => OwnC.read (fun b hb => hG b (hs b hb)) hr

theorem repB_keep {w w' : World} {G G' : Nat → Prop} (hG : ∀ b, G b → G' b) (hw : ∀ b, G b → w'.heap[b]? = w.heap[b]?) {A : Atom} {v : Value} (h : RepB w G A v) : RepB w' G' A v := by
  cases A with
  | val u => exact h
  | sl t xs => exact SlAt.keep (fun _ _ => RepC.keep hG hw) hG hw h
  | ptr t x =>
    obtain ⟨b, off, cs, rfl, hb, hc, hr⟩ := h
    exact ⟨b, off, cs, rfl, hG b hb, hc.keep (hw b hb), hr.keep hG hw⟩
  | st t x =>
    obtain ⟨cs, rfl, hr⟩ := h
    exact ⟨cs, rfl, hr.keep hG hw⟩
  | junk => trivial
  | osl _ _ => exact h
  | optr _ _ _ => exact h

theorem decB_rep {w : World} {G : Nat → Prop} {t : Ty} {A : Atom} {x : t.den} {v : Value} (h : RepB w G A v) (hd : decB t A = some x) : RepB w G (toAtom t x) v := by
  obtain ⟨cs, hr, rfl⟩ := decB_spec h hd
  exact hr.repB

theorem decV_rep (hR : RelV n w0 O w a E L V own) {w' : World} (k : Kept [] w w') {H : List Nat} (hH : ∀ b ∈ H, ¬ Good w0 O b) {t : Ty} {A : Atom} {x : t.den} {v : Value} (hA : RepA w0 (Good w0 O) L V A v)
    (hd : decV L t A = some x) (hdis : ∀ r ∈ refA A, ∀ b ∈ own r, b ∉ H) : RepB w' (Good w' H) (toAtom t x) v := by
  have borrowed : decB t A = some x → RepB w' (Good w' H) (toAtom t x) v := fun h =>
    decB_rep (repB_keep (hR.lendG k hH) (hR.keepG k) (repB_of_decB hA h)) h
  unfold decV at hd
  split at hd
  · rename_i e r rg
    split at hd
    · rename_i B hB
      split at hd
      · rename_i hBe
        subst hBe
        obtain ⟨B', hB', _, hs⟩ := hA
        rw [hB] at hB'; cases hB'
        have hsl := hR.lend k hH hB (hdis r (by simp [refA]))
        cases rg with
        | none =>
          cases hd
          exact hsl.whole hs
        | some q =>
          obtain ⟨lo, hi⟩ := q
          cases hd
          exact hsl.sub (nn := 0) hs
      · cases hd
    · cases hd
  · exact borrowed hd

theorem castT_rep {w : World} {G : Nat → Prop} {t t' : Ty} (h : t' = t) {x : t'.den} {v : Value} (hp : PtrAt w G t' x v) : PtrAt w G t (castT h x) v := by
  subst h; exact hp

theorem decP_rep (hR : RelV n w0 O w a E L V own) {w' : World} (k : Kept [] w w') {H : List Nat} (hH : ∀ b ∈ H, ¬ Good w0 O b) {t : Ty} {A : Atom} {x : t.den} {v : Value} (hA : RepA w0 (Good w0 O) L V A v)
    (hd : decP L t A = some x) (hdis : ∀ r ∈ refA A, ∀ b ∈ own r, b ∉ H) : PtrAt w' (Good w' H) t x v := by
  unfold decP at hd
  split at hd
  · rename_i t' y
    split at hd
    · rename_i ht
      cases hd
      exact castT_rep ht (repB_keep (A := .ptr t' y) (hR.lendG k hH) (hR.keepG k) hA)
    · cases hd
  · rename_i r i p
    split at hd
    · rename_i B hB
      split at hd
      · rename_i d hpd
        split at hd
        · rename_i ht
          cases hd
          refine castT_rep ht ?_
          obtain ⟨B', hB', hi, b, off, m, cap, po, t', hv, hp, rfl⟩ := hA
          rw [hB] at hB'; cases hB'
          have hown := hR.heap r B hB
          obtain ⟨cs, bi, hc, ho, hsub, hb⟩ := own_elem hown hv (getD_of_lt B.xs i B.t.dflt hi)
          have hdis' := hdis r (by simp [refA])
          have hblt : ∀ c ∈ own r, c < w.heap.size := hR.own_lt hB
          have hG : ∀ c ∈ own r, Good w' H c := fun c hc => ⟨Nat.lt_of_lt_of_le (hblt c hc) k.size, hdis' c hc⟩
          have hrep : t' = d.t ∧ RepC w' (Good w' H) d.t d.x ((cs.drop po).take d.t.size) := by
            revert ho
            unfold entR
            cases hbor : B.bor with
            | true =>
              intro ho
              obtain ⟨o, ho1, ho2, ho3⟩ := pathD_rep hpd ho.1
              rw [hp] at ho1; cases ho1
              exact ⟨rfl, ho2.keep (hR.lendG k hH) (hR.keepG k)⟩
            | false =>
              intro ho
              obtain ⟨o, bs', ho1, ho2, ho3, ho4⟩ := pathD_own hpd ho
              rw [hp] at ho1; cases ho1
              exact ⟨rfl, (ho2.keep (w' := w') fun c hc => k.block c (hblt c (hsub c (ho4 c hc))) (by simp)).read fun c hc => hG c (hsub c (ho4 c hc))⟩
          obtain ⟨rfl, hrep⟩ := hrep
          exact ⟨b, _, (cs.drop po).take d.t.size, rfl, hG b hb, (hc.sub po _).keep (k.block b (hblt b hb) (by simp)), hrep⟩
        · cases hd
      · cases hd
    · cases hd
  · cases hd

theorem decCaps_rep (hR : RelV n w0 O w a E L V own) {w' : World} (k : Kept [] w w') {H : List Nat} (hH : ∀ b ∈ H, ¬ Good w0 O b) : ∀ {caps : List (Bool × Ty)} {as : List Atom} {x : capsDen caps} {us : List Nat} {vs : List Value},
    decCaps L caps as = some (x, us) → RepAs w0 (Good w0 O) L V as vs → (∀ r ∈ us, ∀ b ∈ own r, b ∉ H) → CapsRep w' (Good w' H) caps x vs
  | [], [], x, us, vs, h, hr, _ => hr
  | (true, t) :: r, A :: s, x, us, vs, h, hr, hd => by
    obtain ⟨v, vs', rfl, h1, h2⟩ := hr
    simp only [decCaps] at h
    split at h
    · rename_i y z us' hy hz
      cases h
      exact ⟨v, vs', rfl, decP_rep hR k hH h1 hy (fun r hr => hd r (List.mem_append_left _ hr)), decCaps_rep hR k hH hz h2 (fun r hr => hd r (List.mem_append_right _ hr))⟩
    · cases h
  | (false, t) :: r, A :: s, x, us, vs, h, hr, hd => by
    obtain ⟨v, vs', rfl, h1, h2⟩ := hr
    simp only [decCaps] at h
    split at h
    · rename_i y z us' hy hz
      cases h
      exact ⟨v, vs', rfl, decB_rep (repB_keep (hR.lendG k hH) (hR.keepG k) (repB_of_decB h1 hy)) hy, decCaps_rep hR k hH hz h2 hd⟩
    · cases h
  | [], _ :: _, _, _, _, h, _, _ => by cases h
  | (true, _) :: _, [], _, _, _, h, _, _ => by cases h
  | (false, _) :: _, [], _, _, _, h, _, _ => by cases h

def RepPs (w0 : World) (G : Nat → Prop) (L : Heap) (V : Nat → Value) : List PV → List Value → Prop
  | [], vs => vs = []
  | p :: r, vs => ∃ v s, vs = v :: s ∧ RepP w0 G L V p v ∧ RepPs w0 G L V r s

theorem RelV.opnds (hR : RelV n w0 O w a E L V own) : ∀ xs : List Operand, RepPs w0 (Good w0 O) L V (xs.map (Am.opnd E)) (xs.map a.eval)
  | [] => rfl
  | x :: r => ⟨_, _, rfl, hR.opnd x, hR.opnds r⟩

theorem repPs_atoms : ∀ {as : List Atom} {vs : List Value}, RepAs w0 G L V as vs → RepPs w0 G L V (as.map PV.a) vs
  | [], vs, h => h
  | A :: s, vs, ⟨v, r, h, h1, h2⟩ => ⟨v, r, h, h1, repPs_atoms h2⟩

theorem repPs_append : ∀ {ps qs : List PV} {vs us : List Value}, RepPs w0 G L V ps vs → RepPs w0 G L V qs us → RepPs w0 G L V (ps ++ qs) (vs ++ us)
  | [], qs, vs, us, h, h2 => by cases h; exact h2
  | p :: r, qs, vs, us, ⟨v, s, h, h1, h3⟩, h2 => by subst h; exact ⟨v, _, rfl, h1, repPs_append h3 h2⟩

def ownOf (own : Nat → List Nat) (os : List (List Nat)) : List (List Nat) := os.map fun l => (l.map own).flatten

theorem castL_own {w : World} {t t' : Ty} (h : t' = t) {xs : List t'.den} {cs : List Value} {bs : List Nat} (hp : OwnC w (.sl t') xs cs bs) : OwnC w (.sl t) (castL h xs) cs bs := by
  subst h; exact hp

theorem decArgs_rep (hR : RelV n w0 O w a E L V own) {w' : World} (k : Kept [] w w') {H : List Nat} (hH : ∀ b ∈ H, ¬ Good w0 O b) : ∀ {sig : List AT} {ps : List PV} {vs : List Value} {x : sigDen sig} {os : List (List Nat)} {us : List Nat},
    RepPs w0 (Good w0 O) L V ps vs → decArgs L sig ps = some (x, os, us) → (∀ r ∈ us, ∀ b ∈ own r, b ∉ H) → ArgsRep w' (Good w' H) sig x vs (ownOf own os)
  | [], [], vs, x, os, us, hp, h, _ => by cases h; cases hp; exact ⟨rfl, rfl⟩
  | t :: r, y :: s, vs, x, os, us, ⟨v, vs', hvs, hpy, hps⟩, h, hd => by
    subst hvs
    simp only [decArgs] at h
    split at h
    · rename_i z o u zs os' us' h1 h2
      cases h
      have ih := decArgs_rep hR k hH hps h2 (fun r hr => hd r (List.mem_append_right _ hr))
      have hd1 := fun r hr => hd r (List.mem_append_left us' hr)
      refine ⟨_, _, (o.map own).flatten, ownOf own os', rfl, rfl, ?_, ih⟩
      cases t with
      | v t =>
        cases y with
        | a A =>
          simp only [decA] at h1
          split at h1
          · rename_i q hq
            cases h1
            exact ⟨rfl, decV_rep hR k hH (hpy) hq hd1⟩
          · cases h1
        | tup _ => cases h1
        | fn _ _ => cases h1
      | p t =>
        cases y with
        | a A =>
          simp only [decA] at h1
          split at h1
          · rename_i q hq
            cases h1
            exact ⟨rfl, decP_rep hR k hH (hpy) hq hd1⟩
          · cases h1
        | tup _ => cases h1
        | fn _ _ => cases h1
      | own t =>
        cases y with
        | a A =>
          cases A with
          | osl r rg =>
            cases rg with
            | none =>
              simp only [decA] at h1
              split at h1
              · rename_i B hB
                split at h1
                · cases h1
                rename_i hbor
                split at h1
                · rename_i ht
                  cases h1
                  obtain ⟨B', hB', hve, hs⟩ := hpy
                  rw [hB] at hB'; cases hB'
                  obtain ⟨tB, xB, bB⟩ := B
                  simp only at hbor
                  subst hbor
                  have hown := (hR.heap r _ hB).keep (w' := w') fun b hb => k.block b (hR.own_lt hB b hb) (by simp)
                  have hv : v = V r := hve rfl
                  simp only [List.map_cons, List.map_nil, List.flatten_cons, List.flatten_nil, List.append_nil]
                  rw [hv]
                  exact castL_own ht (EntC.own.1 hown)
                · cases h1
              · cases h1
            | some q => cases h1
          | _ => cases h1
        | tup _ => cases h1
        | fn _ _ => cases h1
      | fn f caps =>
        cases y with
        | a A => cases h1
        | tup _ => cases h1
        | fn g as =>
          simp only [decA] at h1
          split at h1
          · rename_i q us'' hfg hq
            cases h1
            obtain ⟨vs, hv, hr⟩ := hpy
            obtain rfl := Nat.eq_of_beq_eq_true hfg
            exact ⟨rfl, vs, hv, decCaps_rep hR k hH hq hr hd1⟩
          · cases h1
    · cases h
  | [], _ :: _, _, _, _, _, _, h, _ => by cases h
  | _ :: _, [], _, _, _, _, _, h, _ => by cases h
end
end Go.Am
