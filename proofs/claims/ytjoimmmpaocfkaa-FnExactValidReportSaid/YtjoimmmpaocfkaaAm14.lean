/- The abstract machine, part 14: make, stores, bytes and strings. -/
import Derived.Test.YtjoimmmpaocfkaaAm13
namespace Go.Am
set_option linter.unusedVariables false
set_option linter.unusedSimpArgs false

def bytesOf (s : ByteArray) : List Int := s.data.toList.map fun b => (b.toNat : Int)

/-- '[]byte(s)' -/
def s2bA (tab : List TI) (src dst : TypeId) : PV → Option Arr
  | .a (.val (.string s)) => match tabGet tab src, tabGet tab dst with
    | .scal .str, .slice _ (.int .u8) _ => some ⟨.int .u8, bytesOf s, false⟩
    | _, _ => none
  | _ => none

/-- 'string(b)' -/
def b2sA (tab : List TI) (L : Heap) (src dst : TypeId) : PV → Option ByteArray
  | .a A => match tabGet tab src, tabGet tab dst, decV L (.sl (.int .u8)) A with
    | .slice _ (.int .u8) _, .scal .str, some xs => some (bytesStr xs)
    | _, _, _ => none
  | _ => none

section
variable {P : Program} {n : Nat} {w0 w : World} {O : List Nat} {a : Act} {E : Env} {L : Heap} {V : Nat → Value} {own : Nat → List Nat}

theorem inR_i64 {n : Int} (h : InR .i64 n) : -9223372036854775808 ≤ n ∧ n ≤ 9223372036854775807 := by
  simpa [InR, IntKind.min, IntKind.max, IntKind.bits, IntKind.signed] using h

theorem make_spec {tab : List TI} (hT : TabOk P tab) (hR : RelV n w0 O w a E L V own) {T : TypeId} {l c : Operand} {cs : List Prop} {A : Arr} (h : makeA tab T (opnd E l) (opnd E c) = some (cs, A)) (hc : All cs) :
    ∃ v w' V' own', (Instr.makeSlice T (a.eval l) (a.eval c)).run P w = .ok v w' ∧ RelN n w0 O w w' a E L (L ++ [some A]) V V' own own' ∧ RepP w0 (Good w0 O) (L ++ [some A]) V' (.a (.osl L.length none)) v := by
  unfold makeA at h
  split at h
  · rename_i e t by' li ci ht hl hcc
    cases h
    simp only [All] at hc
    obtain ⟨h0, h1, h2, _⟩ := hc
    obtain ⟨e1, o1⟩ := hR.valEq hl
    obtain ⟨e2, o2⟩ := hR.valEq hcc
    have hS := hT T; rw [ht] at hS
    obtain ⟨_, hu, he, hby⟩ := hS
    obtain ⟨i, hi, hbi⟩ : ∃ i, P.info? e = some i ∧ i.bytes = by' := by
      cases hi : P.info? e with
      | none => rw [hi] at hby; cases hby
      | some i => rw [hi] at hby; simp at hby; exact ⟨i, rfl, hby⟩
    have hcm : ci.toNat ≤ maxLen := by have := (inR_i64 o2).2; unfold maxLen; omega
    have hdl : (dcells t).length = t.size := (dcells_rep default (Good default []) t).length
    have hsplit : (List.replicate ci.toNat (dcells t)).flatten = (List.replicate li.toNat (dcells t)).flatten ++ (List.replicate (ci.toNat - li.toNat) (dcells t)).flatten := by
      rw [← List.flatten_append, List.replicate_append_replicate]
      congr 2; omega
    have hent := ent_row (w := w) (ty := e) (rest := (List.replicate (ci.toNat - li.toNat) (dcells t)).flatten) (cap := ci.toNat) (row_replicate (w0 := w0) (G := Good w0 O) t false li.toNat) (by simp) (by simp; omega) hcm (by
      rw [← hsplit]; simp [hdl])
    rw [← hsplit, List.length_replicate] at hent
    refine ⟨_, _, _, _, ?_, hR.freshN ((Kept.refl [] w).alloc _) hent (by simp) (by simp), repA_new (w0 := w0) (G := Good w0 O) (u := w0) (G' := Good w0 O) hent⟩
    rw [e1, e2]
    unfold Instr.makeSlice
    have hnl : ¬ ((by' : Int) * ci > 281474976710656) := by omega
    simp only [Sem.run_bind, run_underlying hu, Result.andThen_ok, asInt, asIntOf, Sem.run_pure, typeInfo, run_program, hi, hbi, wrap_of_inR o1, wrap_of_inR o2]
    rw [if_neg (by simp; omega)]
    simp only [Sem.run_bind, run_askRoom, Result.andThen_ok, he.size_run]
    by_cases hz : ci.toNat * t.size = 0
    · have hzl := zeros_list t ci.toNat #[] (fun h => absurd hz h)
      rw [if_pos hz]
      simp only [Sem.run_bind, Sem.run_pure, Result.andThen_ok, hzl, newRow, run_newObj]
      rfl
    · have hzl := zeros_list t ci.toNat (dcells t).toArray (fun _ => rfl)
      rw [if_neg hz]
      simp only [Sem.run_bind, Sem.run_pure, Result.andThen_ok, he.zero_run, dcells_cells, hzl, newRow, run_newObj]
      rfl
  · cases h

/-! ### Stores -/

theorem castT_repC {w : World} {G : Nat → Prop} {t t' : Ty} (h : t' = t) {x : t'.den} {cs : List Value} (hp : RepC w G t' x cs) : RepC w G t (h ▸ x) cs := by
  subst h; exact hp
theorem castT_ownC {w : World} {t t' : Ty} (h : t' = t) {x : t'.den} {cs : List Value} {bs : List Nat} (hp : OwnC w t' x cs bs) : OwnC w t (h ▸ x) cs bs := by
  subst h; exact hp

theorem splice_whole {cs c : List Value} (h : cs.length = c.length) : splice cs 0 c = c := by
  simp [splice, ← h]

theorem splice_left {c1 c2 c : List Value} {o : Nat} (h : o + c.length ≤ c1.length) : splice (c1 ++ c2) o c = splice c1 o c ++ c2 := by
  unfold splice
  rw [List.take_append_of_le_length (by omega), List.drop_append_of_le_length (by omega)]
  simp [List.append_assoc]

theorem splice_right {c1 c2 c : List Value} {o : Nat} : splice (c1 ++ c2) (c1.length + o) c = c1 ++ splice c2 o c := by
  unfold splice
  rw [List.take_append, List.take_of_length_le (by omega), List.drop_append, List.drop_of_length_le (by omega)]
  simp [show c1.length + o - c1.length = o from by omega, show c1.length + o + c.length - c1.length = o + c.length from by omega]

theorem splice_length {cs c : List Value} {o : Nat} (h : o + c.length ≤ cs.length) : (splice cs o c).length = cs.length := by
  simp [splice]; omega

theorem setD_rep {w : World} {G : Nat → Prop} {d : Dyn} {c : List Value} (hd : RepC w G d.t d.x c) : ∀ {t : Ty} {x x' : t.den} {p : List Nat} {cs : List Value}, setD t x p d = some x' → RepC w G t x cs →
    ∃ o, pathOff p t = some (o, d.t) ∧ RepC w G t x' (splice cs o c) ∧ o + c.length ≤ cs.length
  | t, x, x', [], cs, h, hr => by
    have h' : (if h : d.t = t then some (h ▸ d.x) else none : Option t.den) = some x' := by
      cases t <;> exact h
    split at h'
    · rename_i ht
      cases h'
      have hl : cs.length = c.length := by rw [hr.length, hd.length, ht]
      refine ⟨0, by rw [ht]; rfl, ?_, by omega⟩
      rw [splice_whole hl]
      exact castT_repC ht hd
    · cases h'
  | .cons a b, x, x', 0 :: p, cs, h, hr => by
    obtain ⟨c1, c2, rfl, h1, h2⟩ := hr
    simp only [setD] at h
    split at h
    · rename_i y hy
      cases h
      obtain ⟨o, ho, hr', hl⟩ := setD_rep hd (t := a) hy h1
      refine ⟨o, by simp [pathOff, fldOff, ho], ?_, by rw [List.length_append]; omega⟩
      rw [splice_left hl]
      exact ⟨_, _, rfl, hr', h2⟩
    · cases h
  | .cons a b, x, x', (k + 1) :: p, cs, h, hr => by
    obtain ⟨c1, c2, rfl, h1, h2⟩ := hr
    simp only [setD] at h
    split at h
    · rename_i y hy
      cases h
      obtain ⟨o, ho, hr', hl⟩ := setD_rep hd (t := b) hy h2
      have hp : pathOff ((k + 1) :: p) (.cons a b) = some (a.size + o, d.t) := by
        simp only [pathOff] at ho ⊢
        simp only [fldOff]
        split at ho
        · rename_i o1 t1 h3
          split at ho
          · rename_i o2 t2 h4
            cases ho
            simp [h4, Nat.add_assoc]
          · cases ho
        · cases ho
      refine ⟨a.size + o, hp, ?_, by rw [List.length_append, h1.length]; omega⟩
      rw [← h1.length, splice_right]
      exact ⟨_, _, rfl, h1, hr'⟩
    · cases h
  | .int _, _, _, 0 :: _, _, h, _ => by cases h
  | .bool, _, _, 0 :: _, _, h, _ => by cases h
  | .str, _, _, 0 :: _, _, h, _ => by cases h
  | .sl _, _, _, 0 :: _, _, h, _ => by cases h
  | .unit, _, _, 0 :: _, _, h, _ => by cases h
  | .int _, _, _, (_ + 1) :: _, _, h, _ => by cases h
  | .bool, _, _, (_ + 1) :: _, _, h, _ => by cases h
  | .str, _, _, (_ + 1) :: _, _, h, _ => by cases h
  | .sl _, _, _, (_ + 1) :: _, _, h, _ => by cases h
  | .unit, _, _, (_ + 1) :: _, _, h, _ => by cases h

theorem setD_own {w : World} {d : Dyn} {c : List Value} (hf : d.t.flat = true) (hd : OwnC w d.t d.x c []) : ∀ {t : Ty} {x x' : t.den} {p : List Nat} {cs : List Value} {bs : List Nat}, setD t x p d = some x' → OwnC w t x cs bs →
    ∃ o, pathOff p t = some (o, d.t) ∧ OwnC w t x' (splice cs o c) bs ∧ o + c.length ≤ cs.length
  | t, x, x', [], cs, bs, h, hr => by
    have h' : (if h : d.t = t then some (h ▸ d.x) else none : Option t.den) = some x' := by
      cases t <;> exact h
    split at h'
    · rename_i ht
      cases h'
      have hl : cs.length = c.length := by rw [hr.length, hd.length, ht]
      have hb := (hr.flat (w' := w) (G := fun _ => True) (by rw [← ht]; exact hf)).2
      refine ⟨0, by rw [ht]; rfl, ?_, by omega⟩
      rw [splice_whole hl, hb]
      exact castT_ownC ht hd
    · cases h'
  | .cons a b, x, x', 0 :: p, cs, bs, h, hr => by
    obtain ⟨c1, c2, b1, b2, rfl, rfl, h1, h2⟩ := hr
    simp only [setD] at h
    split at h
    · rename_i y hy
      cases h
      obtain ⟨o, ho, hr', hl⟩ := setD_own hf hd (t := a) hy h1
      refine ⟨o, by simp [pathOff, fldOff, ho], ?_, by rw [List.length_append]; omega⟩
      rw [splice_left hl]
      exact ⟨_, _, _, _, rfl, rfl, hr', h2⟩
    · cases h
  | .cons a b, x, x', (k + 1) :: p, cs, bs, h, hr => by
    obtain ⟨c1, c2, b1, b2, rfl, rfl, h1, h2⟩ := hr
    simp only [setD] at h
    split at h
    · rename_i y hy
      cases h
      obtain ⟨o, ho, hr', hl⟩ := setD_own hf hd (t := b) hy h2
      have hp : pathOff ((k + 1) :: p) (.cons a b) = some (a.size + o, d.t) := by
        simp only [pathOff] at ho ⊢
        simp only [fldOff]
        split at ho
        · rename_i o1 t1 h3
          split at ho
          · rename_i o2 t2 h4
            cases ho
            simp [h4, Nat.add_assoc]
          · cases ho
        · cases ho
      refine ⟨a.size + o, hp, ?_, by rw [List.length_append, h1.length]; omega⟩
      rw [← h1.length, splice_right]
      exact ⟨_, _, _, _, rfl, rfl, h1, hr'⟩
    · cases h
  | .int _, _, _, 0 :: _, _, _, h, _ => by cases h
  | .bool, _, _, 0 :: _, _, _, h, _ => by cases h
  | .str, _, _, 0 :: _, _, _, h, _ => by cases h
  | .sl _, _, _, 0 :: _, _, _, h, _ => by cases h
  | .unit, _, _, 0 :: _, _, _, h, _ => by cases h
  | .int _, _, _, (_ + 1) :: _, _, _, h, _ => by cases h
  | .bool, _, _, (_ + 1) :: _, _, _, h, _ => by cases h
  | .str, _, _, (_ + 1) :: _, _, _, h, _ => by cases h
  | .sl _, _, _, (_ + 1) :: _, _, _, h, _ => by cases h
  | .unit, _, _, (_ + 1) :: _, _, _, h, _ => by cases h

/-- The blocks of an element that is met. -/
theorem flatten_set_same {bss : List (List Nat)} {i : Nat} {bi : List Nat} (h : bss[i]? = some bi) : bss.set i bi = bss := by
  apply List.ext_getElem?
  intro j
  rw [List.getElem?_set]
  split
  · rename_i hij; subst hij
    have := (List.getElem?_eq_some_iff.1 h).1
    rw [if_pos this, h]
  · rfl

theorem splice_splice {l c1 c : List Value} {o1 o : Nat} (h : o + c.length ≤ c1.length) (hl : o1 + c1.length ≤ l.length) (hc : ∀ j v, c1[j]? = some v → l[o1 + j]? = some v) : splice l (o1 + o) c = splice l o1 (splice c1 o c) := by
  have hc1 : c1 = (l.drop o1).take c1.length := by
    apply List.ext_getElem?
    intro j
    rw [List.getElem?_take]
    by_cases hj : j < c1.length
    · rw [if_pos hj, List.getElem?_drop, List.getElem?_eq_getElem hj]
      exact (hc j _ (List.getElem?_eq_getElem hj)).symm
    · rw [if_neg hj, List.getElem?_eq_none (by omega)]
  unfold splice
  have hlen : (c1.take o ++ c ++ c1.drop (o + c.length)).length = c1.length := by simp; omega
  rw [hlen]
  have e1 : l.take (o1 + o) = l.take o1 ++ c1.take o := by
    rw [List.take_add, hc1, List.take_take, Nat.min_eq_left (by omega)]
  have e2 : l.drop (o1 + o + c.length) = c1.drop (o + c.length) ++ l.drop (o1 + c1.length) := by
    have : l.drop o1 = c1 ++ l.drop (o1 + c1.length) := by
      conv => lhs; rw [← List.take_append_drop c1.length (l.drop o1)]
      rw [← hc1, List.drop_drop]
    rw [Nat.add_assoc, ← List.drop_drop, this, List.drop_append_of_le_length (by omega)]
  rw [e1, e2]
  simp [List.append_assoc]

/-- **The store.** -/
theorem store_spec {tab : List TI} (hT : TabOk P tab) (hR : RelV n w0 O w a E L V own) {T : TypeId} {x y : Operand} {L' : Heap} (h : storeA tab L T (opnd E x) (opnd E y) = some L') :
    ∃ w', (Instr.storeAt T (a.eval x) (a.eval y)).run P w = .ok () w' ∧ RelV n w0 O w' a E L' V own := by
  unfold storeA at h
  split at h
  · rename_i r i p B hx hy
    split at h
    · rename_i t A ht hA
      split at h
      · rename_i z hbf hz
        split at h
        · rename_i x' hst
          cases h
          obtain ⟨A', hA', hi, b, off, m, cap, po, t', hv, hp, he⟩ := hR.atom hx
          rw [hA] at hA'; cases hA'
          obtain ⟨c, hvc, hcl, hrc, hec⟩ := entR_of_decB (repB_of_decB (hR.atom hy) hz) hz A.bor (fun hb => by rw [hb] at hbf; simpa using hbf)
          have hent := hR.heap r A hA
          rcases hent.2 with ⟨h1, _, _⟩ | ⟨b', off', cap', cur, ty, fz, bss, h1, h2, h3, h4, h5, h6, h7, h8, h9⟩
          · rw [h1] at hv; cases hv
          · rw [h1] at hv
            cases hv
            have hib : i < bss.length := by rw [h7]; exact hi
            obtain ⟨cs, hcs1, hcs2, hcs3⟩ := h9 i _ _ (getD_of_lt A.xs i A.t.dflt hi) (List.getElem?_eq_getElem hib)
            have hnew : ∃ o, pathOff p A.t = some (o, t) ∧ (∀ w, entR w0 (Good w0 O) w A.t A.bor (A.xs.getD i A.t.dflt) cs bss[i] → entR w0 (Good w0 O) w A.t A.bor x' (splice cs o c) bss[i]) ∧ o + c.length ≤ cs.length := by
              cases hbor : A.bor with
              | true =>
                rw [hbor] at hcs3
                obtain ⟨o, e1, e2, e3⟩ := setD_rep (d := ⟨t, z⟩) hrc hst hcs3.1
                exact ⟨o, e1, fun w hh => ⟨e2, hh.2⟩, e3⟩
              | false =>
                rw [hbor] at hcs3 hbf
                have hfl : t.flat = true := by simpa using hbf
                obtain ⟨o, e1, e2, e3⟩ := setD_own (d := ⟨t, z⟩) hfl (hrc.own hfl (w' := w)) hst hcs3
                refine ⟨o, e1, fun w' hh => ?_, e3⟩
                obtain ⟨o', e1', e2', _⟩ := setD_own (d := ⟨t, z⟩) hfl (hrc.own hfl (w' := w')) hst hh
                rw [e1] at e1'
                cases e1'
                exact e2'
            obtain ⟨o, ho, hnw, hol⟩ := hnew
            rw [hp] at ho
            cases ho
            have hblt : b < w.heap.size := hent.lt b (by rw [h8]; exact List.mem_cons_self ..)
            have hsz : i * A.t.size + A.t.size ≤ cap * A.t.size := by
              have : (i + 1) * A.t.size ≤ cap * A.t.size := Nat.mul_le_mul_right _ (by omega)
              rw [Nat.add_mul, Nat.one_mul] at this; exact this
            obtain ⟨w', cur', hs1, hs2, hs3, hs4, hs5⟩ := storeCells_run (P := P) c w b (off + i * A.t.size + po) 0 cur ty fz h5 h6 (by omega) hrc.one
            have hcurlen : cur'.size = cur.size := by
              have := congrArg List.length hs3
              rw [splice_length (by simp; omega)] at this
              simpa using this
            refine ⟨w', ?_, ?_⟩
            · unfold Instr.storeAt
              rw [he, hvc]
              have hvs : (valOf t c).cells.toList = c := valOf_cells hrc
              have hvz : (valOf t c).cells.size = t.size := by rw [← Array.length_toList, hvs, hcl]
              simp only [Instr.sureAddr, Sem.run_bind, Sem.run_pure, Result.andThen_ok, storeVar, (TI.ty_ok (hT T) ht).size_run, hvz, hvs]
              simp only [ne_eq, not_true_eq_false, if_false]
              exact hs1
            · have hbown : b ∈ own r := by rw [h8]; exact List.mem_cons_self ..
              have hnot : ∀ s C, hget L s = some C → s ≠ r → ∀ d ∈ own s, d ≠ b := fun s C hs hsr d hd e => by
                subst e
                exact hR.apart s r C A hs hA hsr d hd hbown
              have hnb : ∀ d ∈ bss.flatten, d ≠ b := fun d hd e => by
                have := hR.nodup r A hA
                rw [h8, List.nodup_cons] at this
                exact this.1 (e ▸ hd)
              have hsplit : ∀ s C, hget (hset L r (some ⟨A.t, A.xs.set i x', A.bor⟩)) s = some C → (s ≠ r ∧ hget L s = some C) ∨ (s = r ∧ C = ⟨A.t, A.xs.set i x', A.bor⟩) := by
                intro s C hs
                by_cases hsr : s = r
                · subst hsr; rw [hget_hset_same hA] at hs; cases hs; exact .inr ⟨rfl, rfl⟩
                · exact .inl ⟨hsr, by rwa [hget_hset_other (Ne.symm hsr)] at hs⟩
              have hentw : EntC w0 (Good w0 O) w' ⟨A.t, A.xs.set i x', A.bor⟩ (V r) (own r) := by
                refine ⟨by simpa using hent.1, .inr ⟨b, off, cap, cur', ty, fz, bss, by simpa using h1, by simpa using h2, h3, by rw [hcurlen]; exact h4, hs2, by rw [hcurlen]; exact h6, by simpa using h7, h8, fun j y bj hy hbj => ?_⟩⟩
                have hkeep : ∀ d ∈ bj, w'.heap[d]? = w.heap[d]? := fun d hd => by
                  have hm := mem_flatten_of_get hbj d hd
                  exact hs4.block d (hent.lt d (by rw [h8]; exact List.mem_cons_of_mem _ hm)) (by simp [hnb d hm])
                have hkeepR : ∀ {yy : A.t.den} {cc : List Value}, entR w0 (Good w0 O) w A.t A.bor yy cc bj → entR w0 (Good w0 O) w' A.t A.bor yy cc bj := by
                  intro yy cc hh
                  revert hh
                  unfold entR
                  cases A.bor with
                  | true => exact id
                  | false => exact fun hh => hh.keep hkeep
                have hb2 : off + i * A.t.size + cs.length ≤ cur.toList.length := by rw [hcs1, Array.length_toList]; omega
                have hcsg : ∀ j v, cs[j]? = some v → cur.toList[off + i * A.t.size + j]? = some v := fun j v hj => by rw [Array.getElem?_toList]; exact hcs2 j v hj
                have hs3' : cur'.toList = splice cur.toList (off + i * A.t.size) (splice cs po c) := by
                  rw [hs3, Nat.add_zero]
                  exact splice_splice hol hb2 hcsg
                have hspl : (splice cs po c).length = cs.length := splice_length hol
                simp only at hy
                rw [List.getElem?_set] at hy
                by_cases hij : i = j
                · subst hij
                  rw [if_pos rfl, if_pos hi] at hy
                  cases hy
                  rw [List.getElem?_eq_getElem hib] at hbj
                  cases hbj
                  refine ⟨splice cs po c, by rw [hspl, hcs1], fun k v hk => ?_, hkeepR (hnw w hcs3)⟩
                  have hk' : k < cs.length := by rw [← hspl]; exact (List.getElem?_eq_some_iff.1 hk).1
                  rw [← Array.getElem?_toList, hs3', splice, List.append_assoc, List.getElem?_append_right (by simp; omega)]
                  rw [List.getElem?_append_left (by simp only [List.length_take]; omega)]
                  have : off + i * A.t.size + k - (cur.toList.take (off + i * A.t.size)).length = k := by simp only [List.length_take]; omega
                  rw [this]
                  exact hk
                · rw [if_neg hij] at hy
                  obtain ⟨ds, e1, e2, e3⟩ := h9 j y bj hy hbj
                  refine ⟨ds, e1, fun k v hk => ?_, hkeepR e3⟩
                  have hk' : k < A.t.size := by rw [← e1]; exact (List.getElem?_eq_some_iff.1 hk).1
                  show cur'[off + j * A.t.size + k]? = some v
                  have := e2 k v hk
                  rw [← Array.getElem?_toList] at this
                  rw [← Array.getElem?_toList, hs3', splice, hspl, hcs1]
                  rcases Nat.lt_or_gt_of_ne hij with hlt | hgt
                  · have hle : (i + 1) * A.t.size ≤ j * A.t.size := Nat.mul_le_mul_right _ hlt
                    rw [Nat.add_mul, Nat.one_mul] at hle
                    rw [List.getElem?_append_right (by simp only [List.length_append, List.length_take, hspl, hcs1]; omega), List.getElem?_drop]
                    simp only [List.length_append, List.length_take, hspl, hcs1]
                    rw [show off + i * A.t.size + A.t.size + (off + j * A.t.size + k - (min (off + i * A.t.size) cur.toList.length + A.t.size)) = off + j * A.t.size + k from by rw [Array.length_toList]; omega]
                    exact this
                  · have hle : (j + 1) * A.t.size ≤ i * A.t.size := Nat.mul_le_mul_right _ hgt
                    rw [Nat.add_mul, Nat.one_mul] at hle
                    rw [List.append_assoc, List.getElem?_append_left (by simp only [List.length_take, Array.length_toList]; omega), List.getElem?_take, if_pos (by omega)]
                    exact this
              refine ⟨?_, hR.size, hR.defers, ?_, ?_, ?_, ?_, fun i => ?_⟩
              · refine ⟨hs4.os.trans hR.kept.os, hs4.tape.trans hR.kept.tape, hs4.output.trans hR.kept.output, Nat.le_trans hR.kept.size hs4.size, fun k hk hkO => ?_⟩
                rw [hs4.block k (Nat.lt_of_lt_of_le hk hR.kept.size) (by simp; exact fun e => hR.good r A hA b hbown (e ▸ ⟨hk, hkO⟩))]
                exact hR.kept.block k hk hkO
              · intro s C hs
                rcases hsplit s C hs with ⟨e1, e2⟩ | ⟨rfl, rfl⟩
                · exact (hR.heap s C e2).keep fun d hd => hs4.block d (hR.own_lt e2 d hd) (by simp [hnot s C e2 e1 d hd])
                · exact hentw
              · intro s C hs
                rcases hsplit s C hs with ⟨e1, e2⟩ | ⟨rfl, rfl⟩
                · exact hR.good s C e2
                · exact hR.good s A hA
              · intro s C hs
                rcases hsplit s C hs with ⟨e1, e2⟩ | ⟨rfl, rfl⟩
                · exact hR.nodup s C e2
                · exact hR.nodup s A hA
              · intro s u C D hs hu' hsu
                rcases hsplit s C hs with ⟨e1, e2⟩ | ⟨rfl, rfl⟩
                · rcases hsplit u D hu' with ⟨e3, e4⟩ | ⟨rfl, rfl⟩
                  · exact hR.apart s u C D e2 e4 hsu
                  · exact hR.apart s u C A e2 hA hsu
                · rcases hsplit u D hu' with ⟨e3, e4⟩ | ⟨rfl, rfl⟩
                  · exact hR.apart s u A D hA e4 hsu
                  · exact absurd rfl hsu
              · refine repP_agree (hR.env i) fun s hs => ⟨rfl, fun C hC => ?_⟩
                by_cases hsr : s = r
                · subst hsr
                  rw [hA] at hC; cases hC
                  exact ⟨_, hget_hset_same hA, rfl, by simp⟩
                · exact ⟨C, by rw [hget_hset_other (Ne.symm hsr)]; exact hC, rfl, rfl⟩
        · cases h
      · cases h
    · cases h
  · cases h
end
end Go.Am
