/- The abstract machine, part 1: typed trees, how they lie in memory, and how these facts carry over from world to world. -/
import Derived.WalkKit
import Derived.Below
import Derived.Deep.Quiet
namespace Go.Am
set_option linter.unusedVariables false
open Go.RowKit (Below)

/-- The types of the trees: a struct is a chain of 'cons' that ends in 'unit'. -/
inductive Ty where
  | int (k : IntKind) | bool | str | sl (e : Ty) | unit | cons (a b : Ty)
  deriving DecidableEq

@[reducible] def Ty.den : Ty → Type
  | .int _ => Int
  | .bool => Bool
  | .str => ByteArray
  | .sl e => List e.den
  | .unit => Unit
  | .cons a b => a.den × b.den

def Ty.dflt : (t : Ty) → t.den
  | .int _ => (0 : Int)
  | .bool => false
  | .str => ByteArray.empty
  | .sl _ => []
  | .unit => ()
  | .cons a b => (a.dflt, b.dflt)

def Ty.size : Ty → Nat
  | .unit => 0
  | .cons a b => a.size + b.size
  | _ => 1

/-- No slice inside. -/
def Ty.flat : Ty → Bool
  | .sl _ => false
  | .cons a b => a.flat && b.flat
  | _ => true

def InR (k : IntKind) (n : Int) : Prop := k.min ≤ n ∧ n ≤ k.max

def Wf : (t : Ty) → t.den → Prop
  | .int k, n => InR k n
  | .bool, _ => True
  | .str, s => s.size ≤ maxLen
  | .sl e, xs => xs.length ≤ maxLen ∧ ∀ x ∈ xs, Wf e x
  | .unit, _ => True
  | .cons a b, x => Wf a x.1 ∧ Wf b x.2

/-- The slice value v reads as xs; all blocks that are met are good. -/
def SlAt (w : World) (G : Nat → Prop) {α : Type} (R : α → List Value → Prop) (sz : Nat) (xs : List α) (v : Value) : Prop :=
  xs.length ≤ maxLen ∧ ((v = .slice none 0 0 ∧ xs = []) ∨
   ∃ b off cap, v = .slice (some ⟨b, off, none⟩) xs.length cap ∧ xs.length ≤ cap ∧ cap ≤ maxLen ∧ G b ∧
     ∀ i x, xs[i]? = some x → ∃ cs, cs.length = sz ∧ (∀ j c, cs[j]? = some c → w.cell? ⟨b, off + i * sz + j, none⟩ = some c) ∧ R x cs)

/-- The cells cs read as the tree x. -/
def RepC (w : World) (G : Nat → Prop) : (t : Ty) → t.den → List Value → Prop
  | .int k, n, cs => cs = [.int k n] ∧ InR k n
  | .bool, b, cs => cs = [.bool b]
  | .str, s, cs => cs = [.string s] ∧ s.size ≤ maxLen
  | .sl e, xs, cs => ∃ v, cs = [v] ∧ SlAt w G (RepC w G e) e.size xs v
  | .unit, _, cs => cs = []
  | .cons a b, x, cs => ∃ c1 c2, cs = c1 ++ c2 ∧ RepC w G a x.1 c1 ∧ RepC w G b x.2 c2

/-- No cell below n is frozen. -/
def Free (fz : Nat × Nat) (n : Nat) : Prop := ∀ j, j < n → ¬ (fz.1 ≤ j ∧ j < fz.2)

/-- The slice value v reads as xs, and the blocks bs, all that are met, are met once. -/
def OwnSl (w : World) {α : Type} (R : α → List Value → List Nat → Prop) (sz : Nat) (xs : List α) (v : Value) (bs : List Nat) : Prop :=
  xs.length ≤ maxLen ∧ ((v = .slice none 0 0 ∧ xs = [] ∧ bs = []) ∨
   ∃ (b off cap : Nat) (cur : Array Value) (ty : TypeId) (fz : Nat × Nat) (bss : List (List Nat)), v = .slice (some ⟨b, off, none⟩) xs.length cap ∧ xs.length ≤ cap ∧ cap ≤ maxLen ∧ off + cap * sz ≤ cur.size ∧
     w.heap[b]? = some (.cells cur ty fz) ∧ Free fz cur.size ∧ bss.length = xs.length ∧ bs = b :: bss.flatten ∧
     ∀ i x bi, xs[i]? = some x → bss[i]? = some bi → ∃ cs, cs.length = sz ∧ (∀ j c, cs[j]? = some c → cur[off + i * sz + j]? = some c) ∧ R x cs bi)

def OwnC (w : World) : (t : Ty) → t.den → List Value → List Nat → Prop
  | .int k, n, cs, bs => cs = [.int k n] ∧ InR k n ∧ bs = []
  | .bool, b, cs, bs => cs = [.bool b] ∧ bs = []
  | .str, s, cs, bs => cs = [.string s] ∧ s.size ≤ maxLen ∧ bs = []
  | .sl e, xs, cs, bs => ∃ v, cs = [v] ∧ OwnSl w (OwnC w e) e.size xs v bs
  | .unit, _, cs, bs => cs = [] ∧ bs = []
  | .cons a b, x, cs, bs => ∃ c1 c2 b1 b2, cs = c1 ++ c2 ∧ bs = b1 ++ b2 ∧ OwnC w a x.1 c1 b1 ∧ OwnC w b x.2 c2 b2

theorem RepC.length {w : World} {G : Nat → Prop} : ∀ {t : Ty} {x : t.den} {cs : List Value}, RepC w G t x cs → cs.length = t.size
  | .int _, _, _, h => by rw [h.1]; rfl
  | .bool, _, _, h => by rw [h]; rfl
  | .str, _, _, h => by rw [h.1]; rfl
  | .sl _, _, _, ⟨_, h, _⟩ => by rw [h]; rfl
  | .unit, _, _, h => by rw [h]; rfl
  | .cons _ _, _, _, ⟨_, _, h, h1, h2⟩ => by rw [h, List.length_append, h1.length, h2.length]; rfl

theorem OwnC.length {w : World} : ∀ {t : Ty} {x : t.den} {cs : List Value} {bs : List Nat}, OwnC w t x cs bs → cs.length = t.size
  | .int _, _, _, _, h => by rw [h.1]; rfl
  | .bool, _, _, _, h => by rw [h.1]; rfl
  | .str, _, _, _, h => by rw [h.1]; rfl
  | .sl _, _, _, _, ⟨_, h, _⟩ => by rw [h]; rfl
  | .unit, _, _, _, h => by rw [h.1]; rfl
  | .cons _ _, _, _, _, ⟨_, _, _, _, h, _, h1, h2⟩ => by rw [h, List.length_append, h1.length, h2.length]; rfl

theorem wf_slAt {w : World} {G : Nat → Prop} {e : Ty} {xs : List e.den} {v : Value} (ih : ∀ x cs, RepC w G e x cs → Wf e x) (h : SlAt w G (RepC w G e) e.size xs v) : Wf (.sl e) xs := by
  refine ⟨h.1, fun x hx => ?_⟩
  rcases h.2 with ⟨_, rfl⟩ | ⟨b, off, cap, _, _, _, _, hr⟩
  · cases hx
  · obtain ⟨i, hi⟩ := List.getElem?_of_mem hx
    obtain ⟨cs, _, _, h⟩ := hr i x hi
    exact ih x cs h

theorem RepC.wf {w : World} {G : Nat → Prop} : ∀ {t : Ty} {x : t.den} {cs : List Value}, RepC w G t x cs → Wf t x
  | .int _, _, _, h => h.2
  | .bool, _, _, _ => trivial
  | .str, _, _, h => h.2
  | .sl _, _, _, ⟨_, _, h⟩ => wf_slAt (fun _ _ => RepC.wf) h
  | .unit, _, _, _ => trivial
  | .cons _ _, _, _, ⟨_, _, _, h1, h2⟩ => ⟨h1.wf, h2.wf⟩

theorem wf_ownSl {w : World} {e : Ty} {xs : List e.den} {v : Value} {bs : List Nat} (ih : ∀ x cs bs, OwnC w e x cs bs → Wf e x) (h : OwnSl w (OwnC w e) e.size xs v bs) : Wf (.sl e) xs := by
  refine ⟨h.1, fun x hx => ?_⟩
  rcases h.2 with ⟨_, rfl, _⟩ | ⟨b, off, cap, cur, ty, fz, bss, _, _, _, _, _, _, hl, _, hr⟩
  · cases hx
  · obtain ⟨i, hi⟩ := List.getElem?_of_mem hx
    have hlt : i < bss.length := by rw [hl]; exact (List.getElem?_eq_some_iff.1 hi).1
    obtain ⟨cs, _, _, h⟩ := hr i x _ hi (List.getElem?_eq_getElem hlt)
    exact ih x cs _ h

theorem OwnC.wf {w : World} : ∀ {t : Ty} {x : t.den} {cs : List Value} {bs : List Nat}, OwnC w t x cs bs → Wf t x
  | .int _, _, _, _, h => h.2.1
  | .bool, _, _, _, _ => trivial
  | .str, _, _, _, h => h.2.1
  | .sl _, _, _, _, ⟨_, _, h⟩ => wf_ownSl (fun _ _ _ => OwnC.wf) h
  | .unit, _, _, _, _ => trivial
  | .cons _ _, _, _, _, ⟨_, _, _, _, _, _, h1, h2⟩ => ⟨h1.wf, h2.wf⟩

/-- The good blocks hold what they held. -/
theorem SlAt.keep {w w' : World} {G G' : Nat → Prop} {α : Type} {R R' : α → List Value → Prop} {sz : Nat} {xs : List α} {v : Value}
    (hR : ∀ x cs, R x cs → R' x cs) (hG : ∀ b, G b → G' b) (hw : ∀ b, G b → w'.heap[b]? = w.heap[b]?) (h : SlAt w G R sz xs v) : SlAt w' G' R' sz xs v := by
  refine ⟨h.1, ?_⟩
  rcases h.2 with h | ⟨b, off, cap, h1, h2, h3, h4, h5⟩
  · exact .inl h
  · refine .inr ⟨b, off, cap, h1, h2, h3, hG b h4, fun i x hx => ?_⟩
    obtain ⟨cs, hl, hc, hr⟩ := h5 i x hx
    exact ⟨cs, hl, fun j c hj => by rw [World.cell?_of_block (w := w) (hw b h4)]; exact hc j c hj, hR _ _ hr⟩

theorem RepC.keep {w w' : World} {G G' : Nat → Prop} (hG : ∀ b, G b → G' b) (hw : ∀ b, G b → w'.heap[b]? = w.heap[b]?) : ∀ {t : Ty} {x : t.den} {cs : List Value}, RepC w G t x cs → RepC w' G' t x cs
  | .int _, _, _, h => h
  | .bool, _, _, h => h
  | .str, _, _, h => h
  | .sl _, _, _, ⟨v, h, h2⟩ => ⟨v, h, h2.keep (fun _ _ => RepC.keep hG hw) hG hw⟩
  | .unit, _, _, h => h
  | .cons _ _, _, _, ⟨c1, c2, h, h1, h2⟩ => ⟨c1, c2, h, h1.keep hG hw, h2.keep hG hw⟩

theorem mem_flatten_of_get {bss : List (List Nat)} {i : Nat} {bi : List Nat} (h : bss[i]? = some bi) : ∀ b ∈ bi, b ∈ bss.flatten :=
  fun b hb => List.mem_flatten.2 ⟨bi, List.mem_of_getElem? h, hb⟩

theorem OwnSl.keep {w w' : World} {α : Type} {R R' : α → List Value → List Nat → Prop} {sz : Nat} {xs : List α} {v : Value} {bs : List Nat}
    (hR : ∀ x cs bi, (∀ b ∈ bi, b ∈ bs) → R x cs bi → R' x cs bi) (hw : ∀ b ∈ bs, w'.heap[b]? = w.heap[b]?) (h : OwnSl w R sz xs v bs) : OwnSl w' R' sz xs v bs := by
  refine ⟨h.1, ?_⟩
  rcases h.2 with h | ⟨b, off, cap, cur, ty, fz, bss, h1, h2, h3, h4, h5, h6, h7, h8, h9⟩
  · exact .inl h
  · refine .inr ⟨b, off, cap, cur, ty, fz, bss, h1, h2, h3, h4, by rw [hw b (by rw [h8]; exact List.mem_cons_self ..)]; exact h5, h6, h7, h8, fun i x bi hx hb => ?_⟩
    obtain ⟨cs, hl, hc, hr⟩ := h9 i x bi hx hb
    exact ⟨cs, hl, hc, hR _ _ _ (fun b hb' => by rw [h8]; exact List.mem_cons_of_mem _ (mem_flatten_of_get hb b hb')) hr⟩

theorem OwnC.keep {w w' : World} : ∀ {t : Ty} {x : t.den} {cs : List Value} {bs : List Nat}, (∀ b ∈ bs, w'.heap[b]? = w.heap[b]?) → OwnC w t x cs bs → OwnC w' t x cs bs
  | .int _, _, _, _, _, h => h
  | .bool, _, _, _, _, h => h
  | .str, _, _, _, _, h => h
  | .sl _, _, _, _, hw, ⟨v, h, h2⟩ => ⟨v, h, h2.keep (fun _ _ _ hs => OwnC.keep (fun b hb => hw b (hs b hb))) hw⟩
  | .unit, _, _, _, _, h => h
  | .cons _ _, _, _, _, hw, ⟨c1, c2, b1, b2, h, hb, h1, h2⟩ =>
    ⟨c1, c2, b1, b2, h, hb, h1.keep (fun b hb' => hw b (by rw [hb]; exact List.mem_append_left _ hb')), h2.keep (fun b hb' => hw b (by rw [hb]; exact List.mem_append_right _ hb'))⟩

/-- A flat tree hangs on no memory. -/
theorem RepC.flat {w w' : World} {G G' : Nat → Prop} : ∀ {t : Ty} {x : t.den} {cs : List Value}, t.flat = true → RepC w G t x cs → RepC w' G' t x cs
  | .int _, _, _, _, h => h
  | .bool, _, _, _, h => h
  | .str, _, _, _, h => h
  | .unit, _, _, _, h => h
  | .cons _ _, _, _, hf, ⟨c1, c2, h, h1, h2⟩ => by
    simp only [Ty.flat, Bool.and_eq_true] at hf
    exact ⟨c1, c2, h, h1.flat hf.1, h2.flat hf.2⟩

theorem OwnC.flat {w : World} {G : Nat → Prop} {w' : World} : ∀ {t : Ty} {x : t.den} {cs : List Value} {bs : List Nat}, t.flat = true → OwnC w t x cs bs → RepC w' G t x cs ∧ bs = []
  | .int _, _, _, _, _, h => ⟨⟨h.1, h.2.1⟩, h.2.2⟩
  | .bool, _, _, _, _, h => h
  | .str, _, _, _, _, h => ⟨⟨h.1, h.2.1⟩, h.2.2⟩
  | .unit, _, _, _, _, h => h
  | .cons _ _, _, _, _, hf, ⟨c1, c2, b1, b2, h, hb, h1, h2⟩ => by
    simp only [Ty.flat, Bool.and_eq_true] at hf
    obtain ⟨a1, e1⟩ := h1.flat (w' := w') (G := G) hf.1
    obtain ⟨a2, e2⟩ := h2.flat (w' := w') (G := G) hf.2
    exact ⟨⟨c1, c2, h, a1, a2⟩, by rw [hb, e1, e2]; rfl⟩

theorem RepC.own {w w' : World} {G : Nat → Prop} : ∀ {t : Ty} {x : t.den} {cs : List Value}, t.flat = true → RepC w G t x cs → OwnC w' t x cs []
  | .int _, _, _, _, h => ⟨h.1, h.2, rfl⟩
  | .bool, _, _, _, h => ⟨h, rfl⟩
  | .str, _, _, _, h => ⟨h.1, h.2, rfl⟩
  | .unit, _, _, _, h => ⟨h, rfl⟩
  | .cons _ _, _, _, hf, ⟨c1, c2, h, h1, h2⟩ => by
    simp only [Ty.flat, Bool.and_eq_true] at hf
    exact ⟨c1, c2, [], [], h, rfl, h1.own hf.1, h2.own hf.2⟩

/-- What is owned can be read. -/
theorem OwnSl.read {w : World} {G : Nat → Prop} {α : Type} {R : α → List Value → List Nat → Prop} {R' : α → List Value → Prop} {sz : Nat} {xs : List α} {v : Value} {bs : List Nat}
    (hR : ∀ x cs bi, (∀ b ∈ bi, b ∈ bs) → R x cs bi → R' x cs) (hG : ∀ b ∈ bs, G b) (h : OwnSl w R sz xs v bs) : SlAt w G R' sz xs v := by
  refine ⟨h.1, ?_⟩
  rcases h.2 with ⟨h1, h2, _⟩ | ⟨b, off, cap, cur, ty, fz, bss, h1, h2, h3, h4, h5, h6, h7, h8, h9⟩
  · exact .inl ⟨h1, h2⟩
  · refine .inr ⟨b, off, cap, h1, h2, h3, hG b (by rw [h8]; exact List.mem_cons_self ..), fun i x hx => ?_⟩
    have hlt : i < bss.length := by rw [h7]; exact (List.getElem?_eq_some_iff.1 hx).1
    obtain ⟨cs, hl, hc, hr⟩ := h9 i x _ hx (List.getElem?_eq_getElem hlt)
    refine ⟨cs, hl, fun j c hj => ?_, hR _ _ _ (fun b hb' => by rw [h8]; exact List.mem_cons_of_mem _ (mem_flatten_of_get (List.getElem?_eq_getElem hlt) b hb')) hr⟩
    simp only [World.cell?, h5]
    exact hc j c hj

theorem OwnC.read {w : World} {G : Nat → Prop} : ∀ {t : Ty} {x : t.den} {cs : List Value} {bs : List Nat}, (∀ b ∈ bs, G b) → OwnC w t x cs bs → RepC w G t x cs
  | .int _, _, _, _, _, h => ⟨h.1, h.2.1⟩
  | .bool, _, _, _, _, h => h.1
  | .str, _, _, _, _, h => ⟨h.1, h.2.1⟩
  | .sl _, _, _, _, hG, ⟨v, h, h2⟩ => ⟨v, h, h2.read (fun _ _ _ hs => OwnC.read (fun b hb => hG b (hs b hb))) hG⟩
  | .unit, _, _, _, _, h => h.1
  | .cons _ _, _, _, _, hG, ⟨c1, c2, b1, b2, h, hb, h1, h2⟩ =>
    ⟨c1, c2, h, h1.read (fun b hb' => hG b (by rw [hb]; exact List.mem_append_left _ hb')), h2.read (fun b hb' => hG b (by rw [hb]; exact List.mem_append_right _ hb'))⟩

theorem OwnC.lt {w : World} : ∀ {t : Ty} {x : t.den} {cs : List Value} {bs : List Nat}, OwnC w t x cs bs → ∀ b ∈ bs, b < w.heap.size
  | .int _, _, _, _, h, b, hb => by rw [h.2.2] at hb; cases hb
  | .bool, _, _, _, h, b, hb => by rw [h.2] at hb; cases hb
  | .str, _, _, _, h, b, hb => by rw [h.2.2] at hb; cases hb
  | .unit, _, _, _, h, b, hb => by rw [h.2] at hb; cases hb
  | .sl e, xs, _, bs, ⟨v, _, h⟩, b, hb => by
    rcases h.2 with ⟨_, _, h⟩ | ⟨b', off, cap, cur, ty, fz, bss, h1, h2, h3, h4, h5, h6, h7, h8, h9⟩
    · rw [h] at hb; cases hb
    · rw [h8] at hb
      rcases List.mem_cons.1 hb with rfl | hb
      · rcases Nat.lt_or_ge b w.heap.size with hlt | hge
        · exact hlt
        · rw [Array.getElem?_eq_none hge] at h5; cases h5
      · obtain ⟨bi, hm, hbi⟩ := List.mem_flatten.1 hb
        obtain ⟨i, hi⟩ := List.getElem?_of_mem hm
        have hlt : i < xs.length := by rw [← h7]; exact (List.getElem?_eq_some_iff.1 hi).1
        obtain ⟨cs, _, _, hr⟩ := h9 i _ bi (List.getElem?_eq_getElem hlt) hi
        exact OwnC.lt hr b hbi
  | .cons _ _, _, _, _, ⟨c1, c2, b1, b2, _, hb', h1, h2⟩, b, hb => by
    rw [hb'] at hb
    rcases List.mem_append.1 hb with hb | hb
    · exact h1.lt b hb
    · exact h2.lt b hb

end Go.Am
