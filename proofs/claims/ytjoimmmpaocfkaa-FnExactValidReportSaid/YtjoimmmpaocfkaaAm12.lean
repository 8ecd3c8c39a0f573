/- The abstract machine, part 12: memory of the call's own: what is written, made and appended. -/
import Derived.Test.YtjoimmmpaocfkaaAm11
namespace Go.Am
set_option linter.unusedVariables false
set_option linter.unusedSimpArgs false

/-! ### Cells -/

theorem RepC.one {w : World} {G : Nat → Prop} : ∀ {t : Ty} {x : t.den} {cs : List Value}, RepC w G t x cs → ∀ c ∈ cs, c.oneCell' = true
  | .int _, _, _, h, c, hc => by rw [h.1] at hc; simp at hc; subst hc; rfl
  | .bool, _, _, h, c, hc => by rw [h] at hc; simp at hc; subst hc; rfl
  | .str, _, _, h, c, hc => by rw [h.1] at hc; simp at hc; subst hc; rfl
  | .sl _, _, _, ⟨v, h, h2⟩, c, hc => by
    rw [h] at hc; simp at hc; subst hc
    rcases h2.2 with ⟨rfl, _⟩ | ⟨b, off, cap, rfl, _⟩ <;> rfl
  | .unit, _, _, h, c, hc => by rw [h] at hc; cases hc
  | .cons _ _, _, _, ⟨c1, c2, h, h1, h2⟩, c, hc => by
    rw [h] at hc
    rcases List.mem_append.1 hc with hc | hc
    · exact h1.one c hc
    · exact h2.one c hc

theorem OwnC.one {w : World} : ∀ {t : Ty} {x : t.den} {cs : List Value} {bs : List Nat}, OwnC w t x cs bs → ∀ c ∈ cs, c.oneCell' = true := fun {t x cs bs} h =>
  (h.read (G := fun _ => True) (fun _ _ => trivial)).one

theorem entR_one {w0 w : World} {G : Nat → Prop} {t : Ty} {bor : Bool} {x : t.den} {cs : List Value} {bi : List Nat} (h : entR w0 G w t bor x cs bi) : ∀ c ∈ cs, c.oneCell' = true := by
  revert h
  unfold entR
  cases bor with
  | true => exact fun h => h.1.one
  | false => exact fun h => h.one

theorem entR_len {w0 w : World} {G : Nat → Prop} {t : Ty} {bor : Bool} {x : t.den} {cs : List Value} {bi : List Nat} (h : entR w0 G w t bor x cs bi) : cs.length = t.size := by
  revert h
  unfold entR
  cases bor with
  | true => exact fun h => h.1.length
  | false => exact fun h => h.length

/-- Of a flat tree it does not matter. -/
theorem entR_flat {w0 w w' : World} {G G' : Nat → Prop} {t : Ty} {bor bor' : Bool} {x : t.den} {cs : List Value} {bi : List Nat} (hf : t.flat = true) (h : entR w0 G w t bor x cs bi) : entR w0 G' w' t bor' x cs [] := by
  have h1 : RepC w0 G t x cs := by
    revert h
    unfold entR
    cases bor with
    | true => exact fun h => h.1
    | false => exact fun h => (h.flat (w' := w0) (G := G) hf).1
  unfold entR
  cases bor' with
  | true => exact ⟨h1.flat hf, rfl⟩
  | false => exact h1.own hf

/-- What stands in a block behind a store. -/
theorem storeCells_run {P : Program} : ∀ (vs : List Value) (w : World) (b o i : Nat) (cur : Array Value) (ty : TypeId) (fz : Nat × Nat), w.heap[b]? = some (.cells cur ty fz) → Free fz cur.size → o + i + vs.length ≤ cur.size → (∀ v ∈ vs, v.oneCell' = true) →
    ∃ w' cur', (storeCells ⟨b, o, none⟩ vs i).run P w = .ok () w' ∧ w'.heap[b]? = some (.cells cur' ty fz) ∧ cur'.toList = splice cur.toList (o + i) vs ∧ Kept [b] w w' ∧ w'.heap.size = w.heap.size
  | [], w, b, o, i, cur, ty, fz, hb, _, _, _ => ⟨w, cur, rfl, hb, by simp [splice], Kept.refl _ _, rfl⟩
  | v :: vs, w, b, o, i, cur, ty, fz, hb, hf, hl, h1 => by
    simp only [List.length_cons] at hl
    have hcell : w.cell? ⟨b, o + i, none⟩ = some (cur[o + i]'(by omega)) := by
      simp only [World.cell?, hb]
      simp [Array.getElem?_eq_getElem (show o + i < cur.size by omega)]
    have hfr : w.frozen? ⟨b, o + i, none⟩ = false := by
      simp only [World.frozen?, hb]
      have := hf (o + i) (by omega)
      simp only [Bool.and_eq_false_iff, decide_eq_false_iff_not]
      by_cases h : fz.1 ≤ o + i
      · exact .inr fun h' => this ⟨h, h'⟩
      · exact .inl h
    have hblt : b < w.heap.size := by
      rcases Nat.lt_or_ge b w.heap.size with h | h
      · exact h
      · rw [Array.getElem?_eq_none h] at hb; cases hb
    have hset : (w.setCell ⟨b, o + i, none⟩ v).heap[b]? = some (.cells (cur.setIfInBounds (o + i) v) ty fz) := by
      have hbe : w.heap[b] = .cells cur ty fz := by
        rw [Array.getElem?_eq_getElem hblt] at hb; exact Option.some.inj hb
      simp only [World.setCell, Array.getElem?_modify, if_pos, hb]
      simp [hbe]
    obtain ⟨w', cur', h2, h3, h4, h5, h6⟩ := storeCells_run (P := P) vs (w.setCell ⟨b, o + i, none⟩ v) b o (i + 1) (cur.setIfInBounds (o + i) v) ty fz hset (by simpa using hf) (by simp; omega) (fun u hu => h1 u (List.mem_cons_of_mem _ hu))
    refine ⟨w', cur', ?_, h3, ?_, ?_, ?_⟩
    · unfold storeCells
      simp only [Sem.run_bind, Addr.add_lit, run_store P w _ v _ (h1 v (List.mem_cons_self ..)), hcell, hfr, Bool.false_eq_true, if_false, Result.andThen_ok]
      exact h2
    · rw [h4]
      have hlt : o + i < cur.toList.length := by rw [Array.length_toList]; omega
      simp only [splice, Array.toList_setIfInBounds, List.length_cons]
      rw [show o + (i + 1) = o + i + 1 from by omega, List.take_add_one]
      simp only [List.getElem?_set_self hlt, Option.toList_some, List.append_assoc, List.cons_append, List.nil_append]
      rw [List.take_set_of_le (Nat.le_refl _), List.drop_set_of_lt (by omega), show o + i + 1 + vs.length = o + i + (vs.length + 1) from by omega]
    · have hk1 : Kept [b] w (w.setCell ⟨b, o + i, none⟩ v) := ⟨rfl, rfl, rfl, by simp [World.setCell], fun k hk hkb => Go.RowKit.Below.heap_setCell w ⟨b, o + i, none⟩ v k (by simpa using hkb)⟩
      exact hk1.trans h5
    · rw [h6]; simp [World.setCell]

/-! ### Rows of elements -/

/-- The elements ys, the cells of each, and the blocks of each. -/
def Row {α : Type} (R : α → List Value → List Nat → Prop) (sz : Nat) : List α → List (List Value) → List (List Nat) → Prop
  | [], css, bss => css = [] ∧ bss = []
  | y :: ys, css, bss => ∃ c cs b bs, css = c :: cs ∧ bss = b :: bs ∧ c.length = sz ∧ R y c b ∧ Row R sz ys cs bs

theorem Row.len {α : Type} {R : α → List Value → List Nat → Prop} {sz : Nat} : ∀ {ys : List α} {css : List (List Value)} {bss : List (List Nat)}, Row R sz ys css bss → css.length = ys.length ∧ bss.length = ys.length ∧ css.flatten.length = ys.length * sz
  | [], _, _, ⟨h1, h2⟩ => by subst h1 h2; simp
  | y :: ys, _, _, ⟨c, cs, b, bs, h1, h2, h3, h4, h5⟩ => by
    subst h1 h2
    obtain ⟨e1, e2, e3⟩ := h5.len
    refine ⟨by simp [e1], by simp [e2], ?_⟩
    simp [h3, e3, Nat.add_mul, Nat.add_comm]

theorem Row.mono {α : Type} {R R' : α → List Value → List Nat → Prop} {sz : Nat} : ∀ {ys : List α} {css : List (List Value)} {bss : List (List Nat)}, (∀ y c b, b ∈ bss → R y c b → R' y c b) → Row R sz ys css bss → Row R' sz ys css bss
  | [], _, _, _, h => h
  | y :: ys, _, _, hm, ⟨c, cs, b, bs, h1, h2, h3, h4, h5⟩ => ⟨c, cs, b, bs, h1, h2, h3, hm _ _ _ (by rw [h2]; exact List.mem_cons_self ..) h4, h5.mono (fun y c b hb => hm y c b (by rw [h2]; exact List.mem_cons_of_mem _ hb))⟩

theorem Row.nil {α : Type} {R R' : α → List Value → List Nat → Prop} {sz : Nat} : ∀ {ys : List α} {css : List (List Value)} {bss : List (List Nat)}, (∀ y c b, R y c b → R' y c []) → Row R sz ys css bss → ∃ bss', Row R' sz ys css bss' ∧ bss'.flatten = []
  | [], css, _, _, h => ⟨[], ⟨h.1, rfl⟩, rfl⟩
  | y :: ys, _, _, hm, ⟨c, cs, b, bs, h1, h2, h3, h4, h5⟩ => by
    obtain ⟨bs', h6, h7⟩ := h5.nil hm
    exact ⟨[] :: bs', ⟨c, cs, [], bs', h1, rfl, h3, hm _ _ _ h4, h6⟩, by simp [h7]⟩

theorem Row.append {α : Type} {R : α → List Value → List Nat → Prop} {sz : Nat} : ∀ {ys zs : List α} {cs ds : List (List Value)} {bs es : List (List Nat)}, Row R sz ys cs bs → Row R sz zs ds es → Row R sz (ys ++ zs) (cs ++ ds) (bs ++ es)
  | [], _, _, _, _, _, ⟨h1, h2⟩, h => by subst h1 h2; exact h
  | y :: ys, _, _, _, _, _, ⟨c, cs, b, bs, h1, h2, h3, h4, h5⟩, h => by
    subst h1 h2
    exact ⟨c, _, b, _, rfl, rfl, h3, h4, h5.append h⟩

theorem Row.get {α : Type} {R : α → List Value → List Nat → Prop} {sz : Nat} : ∀ {ys : List α} {css : List (List Value)} {bss : List (List Nat)}, Row R sz ys css bss → ∀ i y bi, ys[i]? = some y → bss[i]? = some bi →
    ∃ c, c.length = sz ∧ R y c bi ∧ ∀ j v, c[j]? = some v → css.flatten[i * sz + j]? = some v
  | [], _, _, _, i, y, bi, h, _ => by simp at h
  | y :: ys, _, _, ⟨c, cs, b, bs, h1, h2, h3, h4, h5⟩, 0, z, bi, hy, hb => by
    subst h1 h2
    cases hy; cases hb
    refine ⟨c, h3, h4, fun j v hj => ?_⟩
    have : j < c.length := (List.getElem?_eq_some_iff.1 hj).1
    simp only [Nat.zero_mul, Nat.zero_add, List.flatten_cons]
    rw [List.getElem?_append_left this]; exact hj
  | y :: ys, _, _, ⟨c, cs, b, bs, h1, h2, h3, h4, h5⟩, i + 1, z, bi, hy, hb => by
    subst h1 h2
    obtain ⟨d, e1, e2, e3⟩ := h5.get i z bi (by simpa using hy) (by simpa using hb)
    refine ⟨d, e1, e2, fun j v hj => ?_⟩
    simp only [List.flatten_cons]
    rw [List.getElem?_append_right (by rw [h3, Nat.add_mul]; omega), h3, show (i + 1) * sz + j - sz = i * sz + j from by rw [Nat.add_mul]; omega]
    exact e3 j v hj

/-- The cells of a row that lies in memory. -/
theorem row_of {α : Type} {R : α → List Value → List Nat → Prop} {sz : Nat} {f : Nat → Option Value} : ∀ (ys : List α) (bss : List (List Nat)) (off : Nat), bss.length = ys.length →
    (∀ i y bi, ys[i]? = some y → bss[i]? = some bi → ∃ cs, cs.length = sz ∧ (∀ j c, cs[j]? = some c → f (off + i * sz + j) = some c) ∧ R y cs bi) →
    ∃ css, Row R sz ys css bss ∧ ∀ j c, css.flatten[j]? = some c → f (off + j) = some c
  | [], bss, off, hl, _ => ⟨[], ⟨rfl, List.eq_nil_of_length_eq_zero hl⟩, fun j c h => by simp at h⟩
  | y :: ys, [], _, hl, _ => by simp at hl
  | y :: ys, b :: bs, off, hl, h => by
    obtain ⟨c, hc1, hc2, hc3⟩ := h 0 y b rfl rfl
    obtain ⟨cs, hr, hcs⟩ := row_of ys bs (off + sz) (by simpa using hl) (fun i z bi hz hb => by
      obtain ⟨d, e1, e2, e3⟩ := h (i + 1) z bi (by simpa using hz) (by simpa using hb)
      refine ⟨d, e1, fun j v hj => ?_, e3⟩
      have := e2 j v hj
      rwa [show off + (i + 1) * sz + j = off + sz + i * sz + j from by rw [Nat.add_mul]; omega] at this)
    refine ⟨c :: cs, ⟨c, cs, b, bs, rfl, rfl, hc1, hc3, hr⟩, fun j v hj => ?_⟩
    simp only [List.flatten_cons] at hj
    by_cases hlt : j < c.length
    · rw [List.getElem?_append_left hlt] at hj
      have := hc2 j v hj
      simpa using this
    · rw [List.getElem?_append_right (by omega)] at hj
      have := hcs _ v hj
      rwa [hc1, show off + sz + (j - sz) = off + j from by omega] at this

theorem ownSl_of_row {w : World} {α : Type} {R : α → List Value → List Nat → Prop} {sz : Nat} {xs : List α} {css : List (List Value)} {bss : List (List Nat)} (h : Row R sz xs css bss) {b off cap : Nat} {cur : Array Value} {ty : TypeId} {fz : Nat × Nat}
    (hl : xs.length ≤ maxLen) (h1 : xs.length ≤ cap) (h2 : cap ≤ maxLen) (h3 : off + cap * sz ≤ cur.size) (h4 : w.heap[b]? = some (.cells cur ty fz)) (h5 : Free fz cur.size)
    (h6 : ∀ j c, css.flatten[j]? = some c → cur[off + j]? = some c) : OwnSl w R sz xs (.slice (some ⟨b, off, none⟩) xs.length cap) (b :: bss.flatten) := by
  refine ⟨hl, .inr ⟨b, off, cap, cur, ty, fz, bss, rfl, h1, h2, h3, h4, h5, h.len.2.1, rfl, fun i x bi hx hb => ?_⟩⟩
  obtain ⟨c, e1, e2, e3⟩ := h.get i x bi hx hb
  refine ⟨c, e1, fun j v hj => ?_, e2⟩
  rw [Nat.add_assoc]
  exact h6 _ _ (e3 j v hj)

theorem Row.one {α : Type} {R : α → List Value → List Nat → Prop} {sz : Nat} (hR : ∀ y c b, R y c b → ∀ v ∈ c, v.oneCell' = true) : ∀ {ys : List α} {css : List (List Value)} {bss : List (List Nat)}, Row R sz ys css bss → ∀ v ∈ css.flatten, v.oneCell' = true
  | [], _, _, ⟨h1, h2⟩, v, hv => by subst h1; cases hv
  | y :: ys, _, _, ⟨c, cs, b, bs, h1, h2, h3, h4, h5⟩, v, hv => by
    subst h1
    simp only [List.flatten_cons, List.mem_append] at hv
    rcases hv with hv | hv
    · exact hR _ _ _ h4 v hv
    · exact h5.one hR v hv

theorem Row.take {α : Type} {R : α → List Value → List Nat → Prop} {sz : Nat} : ∀ {ys : List α} {css : List (List Value)} {bss : List (List Nat)} (k : Nat), Row R sz ys css bss → Row R sz (ys.take k) (css.take k) (bss.take k)
  | _, _, _, 0, _ => ⟨by simp, by simp⟩
  | [], _, _, k + 1, ⟨h1, h2⟩ => by subst h1 h2; exact ⟨rfl, rfl⟩
  | y :: ys, _, _, k + 1, ⟨c, cs, b, bs, h1, h2, h3, h4, h5⟩ => by
    subst h1 h2
    exact ⟨c, _, b, _, rfl, rfl, h3, h4, h5.take k⟩

theorem Row.drop {α : Type} {R : α → List Value → List Nat → Prop} {sz : Nat} : ∀ {ys : List α} {css : List (List Value)} {bss : List (List Nat)} (k : Nat), Row R sz ys css bss → Row R sz (ys.drop k) (css.drop k) (bss.drop k)
  | _, _, _, 0, h => h
  | [], _, _, k + 1, ⟨h1, h2⟩ => by subst h1 h2; exact ⟨rfl, rfl⟩
  | y :: ys, _, _, k + 1, ⟨c, cs, b, bs, h1, h2, h3, h4, h5⟩ => by
    subst h1 h2
    exact h5.drop k
end Go.Am
