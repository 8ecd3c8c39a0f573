/- Several texts in one: the abstract machine. -/
import Derived.WalkKit
import Derived.Below
import Derived.Lib.ItoaNum
import Derived.Lib.LaidTab
import Derived.Deep.Quiet

/- The abstract machine, part 0: what holds of the library's variables in every world that a call comes to: integers of their kinds, tables, interface values. -/
namespace Go.Am
set_option linter.unusedVariables false

/-- What a variable of the library is known to hold: some integer of a kind; a table of integers; some interface value. -/
inductive GK where
  | int (k : IntKind)
  | tab (k : IntKind) (zs : List Int)
  | ifc

/-- The variables that count, each with what it holds. -/
def glist : List (Nat × GK) := []

def gtop : List (Nat × GK) → Nat
  | [] => 0
  | p :: r => Nat.max (p.1 + 1) (gtop r)

/-- The blocks below this one are the variables'. -/
def GN : Nat := gtop glist

def GHas (w : World) (g : Nat) : GK → Prop
  | .int k => ∃ m, w.cell? ⟨g, 0, none⟩ = some (.int k m)
  | .tab k zs => ∃ t fz, w.heap[g]? = some (.cells (zs.map fun z => Value.int k z).toArray t fz)
  | .ifc => ∃ t fz u v, w.heap[g]? = some (.cells #[.iface u v] t fz)

def GInvL (w : World) : List (Nat × GK) → Prop
  | [] => True
  | p :: r => GHas w p.1 p.2 ∧ GInvL w r

def GInv (w : World) : Prop := GInvL w glist

theorem GHas.lt {w : World} {g : Nat} : ∀ {k : GK}, GHas w g k → g < w.heap.size
  | .int k, ⟨m, hm⟩ => by
    rcases Nat.lt_or_ge g w.heap.size with h | h
    · exact h
    · simp [World.cell?, Array.getElem?_eq_none h] at hm
  | .tab k zs, ⟨_, _, hm⟩ => by
    rcases Nat.lt_or_ge g w.heap.size with h | h
    · exact h
    · rw [Array.getElem?_eq_none h] at hm; cases hm
  | .ifc, ⟨_, _, _, _, hm⟩ => by
    rcases Nat.lt_or_ge g w.heap.size with h | h
    · exact h
    · rw [Array.getElem?_eq_none h] at hm; cases hm

theorem GHas.keep {w w' : World} {g : Nat} (hb : w'.heap[g]? = w.heap[g]?) : ∀ {k : GK}, GHas w g k → GHas w' g k
  | .int k, ⟨m, hm⟩ => ⟨m, by simp only [World.cell?] at hm ⊢; rw [hb]; exact hm⟩
  | .tab k zs, ⟨t, fz, hm⟩ => ⟨t, fz, by rw [hb]; exact hm⟩
  | .ifc, ⟨t, fz, u, v, hm⟩ => ⟨t, fz, u, v, by rw [hb]; exact hm⟩

theorem GInvL.keep {w w' : World} : ∀ {l : List (Nat × GK)}, GInvL w l → (∀ b, b < gtop l → b < w.heap.size → w'.heap[b]? = w.heap[b]?) → GInvL w' l
  | [], _, _ => trivial
  | p :: r, h, hb => by
    refine ⟨h.1.keep (hb _ ?_ h.1.lt), h.2.keep fun b hb' => hb b ?_⟩
    · exact Nat.lt_of_lt_of_le (Nat.lt_succ_self _) (Nat.le_max_left _ _)
    · exact Nat.lt_of_lt_of_le hb' (Nat.le_max_right _ _)

theorem GInv.keep {w w' : World} (h : GInv w) (hb : ∀ b, b < GN → b < w.heap.size → w'.heap[b]? = w.heap[b]?) : GInv w' := GInvL.keep h hb

theorem GInvL.size {w : World} : ∀ {l : List (Nat × GK)}, GInvL w l → gtop l ≤ w.heap.size
  | [], _ => Nat.zero_le _
  | p :: r, h => Nat.max_le.2 ⟨h.1.lt, h.2.size⟩

theorem GInv.size {w : World} (h : GInv w) : GN ≤ w.heap.size := GInvL.size h

theorem GHas.tab {w : World} {P : Program} {g : Nat} {k : IntKind} {zs : List Int} {name : String} (hg : P.globalNamed name = some g) (h : GHas w g (.tab k zs)) : Lib.TabIs P w name k zs := by
  obtain ⟨t, fz, h⟩ := h
  unfold Lib.TabIs World.var?
  rw [hg]
  show (match w.heap[g]? with | some (.cells cs _ _) => some cs | _ => none) = _
  rw [h]

theorem GHas.ofTab {w : World} {P : Program} {g : Nat} {k : IntKind} {zs : List Int} {name : String} (hg : P.globalNamed name = some g) (h : Lib.TabIs P w name k zs) : GHas w g (.tab k zs) := by
  unfold Lib.TabIs World.var? at h
  rw [hg] at h
  have h : (match w.heap[g]? with | some (.cells cs _ _) => some cs | _ => none) = some (zs.map fun z => Value.int k z).toArray := h
  split at h
  · rename_i cs t fz he
    cases h
    exact ⟨t, fz, he⟩
  · cases h

/-- The variables are well where a call begins, and what it is handed lies elsewhere. -/
structure GOk (w : World) (O : List Nat) : Prop where
  inv : GInv w
  size : GN ≤ w.heap.size
  out : ∀ b ∈ O, GN ≤ b

end Go.Am

/- The abstract machine, part 1: typed trees, how they lie in memory, and how these facts carry over from world to world. -/
namespace Go.Am
set_option linter.unusedVariables false
open Go.RowKit (Below)

/-- The types of the trees: a struct is a chain of 'cons' that ends in 'unit'. -/
inductive Ty where
  | int (k : IntKind) | bool | str | sl (e : Ty) | unit | cons (a b : Ty)
  deriving DecidableEq

@[reducible] def Ty.den : Ty → Type
  | .int _ => Int
  | .bool => Bool
  | .str => ByteArray
  | .sl e => List e.den
  | .unit => Unit
  | .cons a b => a.den × b.den

def Ty.dflt : (t : Ty) → t.den
  | .int _ => (0 : Int)
  | .bool => false
  | .str => ByteArray.empty
  | .sl _ => []
  | .unit => ()
  | .cons a b => (a.dflt, b.dflt)

def Ty.size : Ty → Nat
  | .unit => 0
  | .cons a b => a.size + b.size
  | _ => 1

/-- No slice inside. -/
def Ty.flat : Ty → Bool
  | .sl _ => false
  | .cons a b => a.flat && b.flat
  | _ => true

def InR (k : IntKind) (n : Int) : Prop := k.min ≤ n ∧ n ≤ k.max

def Wf : (t : Ty) → t.den → Prop
  | .int k, n => InR k n
  | .bool, _ => True
  | .str, s => s.size ≤ maxLen
  | .sl e, xs => xs.length ≤ maxLen ∧ ∀ x ∈ xs, Wf e x
  | .unit, _ => True
  | .cons a b, x => Wf a x.1 ∧ Wf b x.2

/-- The slice value v reads as xs; all blocks that are met are good. -/
def SlAt (w : World) (G : Nat → Prop) {α : Type} (R : α → List Value → Prop) (sz : Nat) (xs : List α) (v : Value) : Prop :=
  xs.length ≤ maxLen ∧ ((∃ ad, v = .slice ad 0 0 ∧ xs = []) ∨
   ∃ b off cap, v = .slice (some ⟨b, off, none⟩) xs.length cap ∧ xs.length ≤ cap ∧ cap ≤ maxLen ∧ G b ∧
     ∀ i x, xs[i]? = some x → ∃ cs, cs.length = sz ∧ (∀ j c, cs[j]? = some c → w.cell? ⟨b, off + i * sz + j, none⟩ = some c) ∧ R x cs)

/-- The cells cs read as the tree x. -/
def RepC (w : World) (G : Nat → Prop) : (t : Ty) → t.den → List Value → Prop
  | .int k, n, cs => cs = [.int k n] ∧ InR k n
  | .bool, b, cs => cs = [.bool b]
  | .str, s, cs => cs = [.string s] ∧ s.size ≤ maxLen
  | .sl e, xs, cs => ∃ v, cs = [v] ∧ SlAt w G (RepC w G e) e.size xs v
  | .unit, _, cs => cs = []
  | .cons a b, x, cs => ∃ c1 c2, cs = c1 ++ c2 ∧ RepC w G a x.1 c1 ∧ RepC w G b x.2 c2

/-- No cell below n is frozen. -/
def Free (fz : Nat × Nat) (n : Nat) : Prop := ∀ j, j < n → ¬ (fz.1 ≤ j ∧ j < fz.2)

/-- .. nor is the mark behind the cells of memory that a string was turned into. -/
def FreeS (sz : Nat) (fz : Nat × Nat) (n : Nat) : Prop := Free fz n ∧ (sz = 1 ∨ Free fz (n + 1))

/-- The slice value v reads as xs, and the blocks bs, all that are met, are met once. -/
def OwnSl (w : World) {α : Type} (R : α → List Value → List Nat → Prop) (sz : Nat) (xs : List α) (v : Value) (bs : List Nat) : Prop :=
  xs.length ≤ maxLen ∧ ((∃ ad, v = .slice ad 0 0 ∧ xs = [] ∧ bs = []) ∨
   ∃ (b off cap : Nat) (cur : Array Value) (ty : TypeId) (fz : Nat × Nat) (bss : List (List Nat)), v = .slice (some ⟨b, off, none⟩) xs.length cap ∧ xs.length ≤ cap ∧ cap ≤ maxLen ∧ off + cap * sz ≤ cur.size ∧
     w.heap[b]? = some (.cells cur ty fz) ∧ FreeS sz fz cur.size ∧ bss.length = xs.length ∧ bs = b :: bss.flatten ∧
     ∀ i x bi, xs[i]? = some x → bss[i]? = some bi → ∃ cs, cs.length = sz ∧ (∀ j c, cs[j]? = some c → cur[off + i * sz + j]? = some c) ∧ R x cs bi)

def OwnC (w : World) : (t : Ty) → t.den → List Value → List Nat → Prop
  | .int k, n, cs, bs => cs = [.int k n] ∧ InR k n ∧ bs = []
  | .bool, b, cs, bs => cs = [.bool b] ∧ bs = []
  | .str, s, cs, bs => cs = [.string s] ∧ s.size ≤ maxLen ∧ bs = []
  | .sl e, xs, cs, bs => ∃ v, cs = [v] ∧ OwnSl w (OwnC w e) e.size xs v bs
  | .unit, _, cs, bs => cs = [] ∧ bs = []
  | .cons a b, x, cs, bs => ∃ c1 c2 b1 b2, cs = c1 ++ c2 ∧ bs = b1 ++ b2 ∧ OwnC w a x.1 c1 b1 ∧ OwnC w b x.2 c2 b2

theorem RepC.length {w : World} {G : Nat → Prop} : ∀ {t : Ty} {x : t.den} {cs : List Value}, RepC w G t x cs → cs.length = t.size
  | .int _, _, _, h => by rw [h.1]; rfl
  | .bool, _, _, h => by rw [h]; rfl
  | .str, _, _, h => by rw [h.1]; rfl
  | .sl _, _, _, ⟨_, h, _⟩ => by rw [h]; rfl
  | .unit, _, _, h => by rw [h]; rfl
  | .cons _ _, _, _, ⟨_, _, h, h1, h2⟩ => by rw [h, List.length_append, h1.length, h2.length]; rfl

theorem OwnC.length {w : World} : ∀ {t : Ty} {x : t.den} {cs : List Value} {bs : List Nat}, OwnC w t x cs bs → cs.length = t.size
  | .int _, _, _, _, h => by rw [h.1]; rfl
  | .bool, _, _, _, h => by rw [h.1]; rfl
  | .str, _, _, _, h => by rw [h.1]; rfl
  | .sl _, _, _, _, ⟨_, h, _⟩ => by rw [h]; rfl
  | .unit, _, _, _, h => by rw [h.1]; rfl
  | .cons _ _, _, _, _, ⟨_, _, _, _, h, _, h1, h2⟩ => by rw [h, List.length_append, h1.length, h2.length]; rfl

theorem wf_slAt {w : World} {G : Nat → Prop} {e : Ty} {xs : List e.den} {v : Value} (ih : ∀ x cs, RepC w G e x cs → Wf e x) (h : SlAt w G (RepC w G e) e.size xs v) : Wf (.sl e) xs := by
  refine ⟨h.1, fun x hx => ?_⟩
  rcases h.2 with ⟨_, _, rfl⟩ | ⟨b, off, cap, _, _, _, _, hr⟩
  · cases hx
  · obtain ⟨i, hi⟩ := List.getElem?_of_mem hx
    obtain ⟨cs, _, _, h⟩ := hr i x hi
    exact ih x cs h

theorem RepC.wf {w : World} {G : Nat → Prop} : ∀ {t : Ty} {x : t.den} {cs : List Value}, RepC w G t x cs → Wf t x
  | .int _, _, _, h => h.2
  | .bool, _, _, _ => trivial
  | .str, _, _, h => h.2
  | .sl _, _, _, ⟨_, _, h⟩ => wf_slAt (fun _ _ => RepC.wf) h
  | .unit, _, _, _ => trivial
  | .cons _ _, _, _, ⟨_, _, _, h1, h2⟩ => ⟨h1.wf, h2.wf⟩

theorem wf_ownSl {w : World} {e : Ty} {xs : List e.den} {v : Value} {bs : List Nat} (ih : ∀ x cs bs, OwnC w e x cs bs → Wf e x) (h : OwnSl w (OwnC w e) e.size xs v bs) : Wf (.sl e) xs := by
  refine ⟨h.1, fun x hx => ?_⟩
  rcases h.2 with ⟨_, _, rfl, _⟩ | ⟨b, off, cap, cur, ty, fz, bss, _, _, _, _, _, _, hl, _, hr⟩
  · cases hx
  · obtain ⟨i, hi⟩ := List.getElem?_of_mem hx
    have hlt : i < bss.length := by rw [hl]; exact (List.getElem?_eq_some_iff.1 hi).1
    obtain ⟨cs, _, _, h⟩ := hr i x _ hi (List.getElem?_eq_getElem hlt)
    exact ih x cs _ h

theorem OwnC.wf {w : World} : ∀ {t : Ty} {x : t.den} {cs : List Value} {bs : List Nat}, OwnC w t x cs bs → Wf t x
  | .int _, _, _, _, h => h.2.1
  | .bool, _, _, _, _ => trivial
  | .str, _, _, _, h => h.2.1
  | .sl _, _, _, _, ⟨_, _, h⟩ => wf_ownSl (fun _ _ _ => OwnC.wf) h
  | .unit, _, _, _, _ => trivial
  | .cons _ _, _, _, _, ⟨_, _, _, _, _, _, h1, h2⟩ => ⟨h1.wf, h2.wf⟩

/-- The good blocks hold what they held. -/
theorem SlAt.keep {w w' : World} {G G' : Nat → Prop} {α : Type} {R R' : α → List Value → Prop} {sz : Nat} {xs : List α} {v : Value}
    (hR : ∀ x cs, R x cs → R' x cs) (hG : ∀ b, G b → G' b) (hw : ∀ b, G b → w'.heap[b]? = w.heap[b]?) (h : SlAt w G R sz xs v) : SlAt w' G' R' sz xs v := by
  refine ⟨h.1, ?_⟩
  rcases h.2 with h | ⟨b, off, cap, h1, h2, h3, h4, h5⟩
  · exact .inl h
  · refine .inr ⟨b, off, cap, h1, h2, h3, hG b h4, fun i x hx => ?_⟩
    obtain ⟨cs, hl, hc, hr⟩ := h5 i x hx
    exact ⟨cs, hl, fun j c hj => by rw [World.cell?_of_block (w := w) (hw b h4)]; exact hc j c hj, hR _ _ hr⟩

theorem RepC.keep {w w' : World} {G G' : Nat → Prop} (hG : ∀ b, G b → G' b) (hw : ∀ b, G b → w'.heap[b]? = w.heap[b]?) : ∀ {t : Ty} {x : t.den} {cs : List Value}, RepC w G t x cs → RepC w' G' t x cs
  | .int _, _, _, h => h
  | .bool, _, _, h => h
  | .str, _, _, h => h
  | .sl _, _, _, ⟨v, h, h2⟩ => ⟨v, h, h2.keep (fun _ _ => RepC.keep hG hw) hG hw⟩
  | .unit, _, _, h => h
  | .cons _ _, _, _, ⟨c1, c2, h, h1, h2⟩ => ⟨c1, c2, h, h1.keep hG hw, h2.keep hG hw⟩

theorem mem_flatten_of_get {bss : List (List Nat)} {i : Nat} {bi : List Nat} (h : bss[i]? = some bi) : ∀ b ∈ bi, b ∈ bss.flatten :=
  fun b hb => List.mem_flatten.2 ⟨bi, List.mem_of_getElem? h, hb⟩

theorem OwnSl.keep {w w' : World} {α : Type} {R R' : α → List Value → List Nat → Prop} {sz : Nat} {xs : List α} {v : Value} {bs : List Nat}
    (hR : ∀ x cs bi, (∀ b ∈ bi, b ∈ bs) → R x cs bi → R' x cs bi) (hw : ∀ b ∈ bs, w'.heap[b]? = w.heap[b]?) (h : OwnSl w R sz xs v bs) : OwnSl w' R' sz xs v bs := by
  refine ⟨h.1, ?_⟩
  rcases h.2 with h | ⟨b, off, cap, cur, ty, fz, bss, h1, h2, h3, h4, h5, h6, h7, h8, h9⟩
  · exact .inl h
  · refine .inr ⟨b, off, cap, cur, ty, fz, bss, h1, h2, h3, h4, by rw [hw b (by rw [h8]; exact List.mem_cons_self ..)]; exact h5, h6, h7, h8, fun i x bi hx hb => ?_⟩
    obtain ⟨cs, hl, hc, hr⟩ := h9 i x bi hx hb
    exact ⟨cs, hl, hc, hR _ _ _ (fun b hb' => by rw [h8]; exact List.mem_cons_of_mem _ (mem_flatten_of_get hb b hb')) hr⟩

theorem OwnC.keep {w w' : World} : ∀ {t : Ty} {x : t.den} {cs : List Value} {bs : List Nat}, (∀ b ∈ bs, w'.heap[b]? = w.heap[b]?) → OwnC w t x cs bs → OwnC w' t x cs bs
  | .int _, _, _, _, _, h => h
  | .bool, _, _, _, _, h => h
  | .str, _, _, _, _, h => h
  | .sl _, _, _, _, hw, ⟨v, h, h2⟩ => ⟨v, h, h2.keep (fun _ _ _ hs => OwnC.keep (fun b hb => hw b (hs b hb))) hw⟩
  | .unit, _, _, _, _, h => h
  | .cons _ _, _, _, _, hw, ⟨c1, c2, b1, b2, h, hb, h1, h2⟩ =>
    ⟨c1, c2, b1, b2, h, hb, h1.keep (fun b hb' => hw b (by rw [hb]; exact List.mem_append_left _ hb')), h2.keep (fun b hb' => hw b (by rw [hb]; exact List.mem_append_right _ hb'))⟩

/-- A flat tree hangs on no memory. -/
theorem RepC.flat {w w' : World} {G G' : Nat → Prop} : ∀ {t : Ty} {x : t.den} {cs : List Value}, t.flat = true → RepC w G t x cs → RepC w' G' t x cs
  | .int _, _, _, _, h => h
  | .bool, _, _, _, h => h
  | .str, _, _, _, h => h
  | .unit, _, _, _, h => h
  | .cons _ _, _, _, hf, ⟨c1, c2, h, h1, h2⟩ => by
    simp only [Ty.flat, Bool.and_eq_true] at hf
    exact ⟨c1, c2, h, h1.flat hf.1, h2.flat hf.2⟩

theorem OwnC.flat {w : World} {G : Nat → Prop} {w' : World} : ∀ {t : Ty} {x : t.den} {cs : List Value} {bs : List Nat}, t.flat = true → OwnC w t x cs bs → RepC w' G t x cs ∧ bs = []
  | .int _, _, _, _, _, h => ⟨⟨h.1, h.2.1⟩, h.2.2⟩
  | .bool, _, _, _, _, h => h
  | .str, _, _, _, _, h => ⟨⟨h.1, h.2.1⟩, h.2.2⟩
  | .unit, _, _, _, _, h => h
  | .cons _ _, _, _, _, hf, ⟨c1, c2, b1, b2, h, hb, h1, h2⟩ => by
    simp only [Ty.flat, Bool.and_eq_true] at hf
    obtain ⟨a1, e1⟩ := h1.flat (w' := w') (G := G) hf.1
    obtain ⟨a2, e2⟩ := h2.flat (w' := w') (G := G) hf.2
    exact ⟨⟨c1, c2, h, a1, a2⟩, by rw [hb, e1, e2]; rfl⟩

theorem RepC.own {w w' : World} {G : Nat → Prop} : ∀ {t : Ty} {x : t.den} {cs : List Value}, t.flat = true → RepC w G t x cs → OwnC w' t x cs []
  | .int _, _, _, _, h => ⟨h.1, h.2, rfl⟩
  | .bool, _, _, _, h => ⟨h, rfl⟩
  | .str, _, _, _, h => ⟨h.1, h.2, rfl⟩
  | .unit, _, _, _, h => ⟨h, rfl⟩
  | .cons _ _, _, _, hf, ⟨c1, c2, h, h1, h2⟩ => by
    simp only [Ty.flat, Bool.and_eq_true] at hf
    exact ⟨c1, c2, [], [], h, rfl, h1.own hf.1, h2.own hf.2⟩

/-- What is owned can be read. -/
theorem OwnSl.read {w : World} {G : Nat → Prop} {α : Type} {R : α → List Value → List Nat → Prop} {R' : α → List Value → Prop} {sz : Nat} {xs : List α} {v : Value} {bs : List Nat}
    (hR : ∀ x cs bi, (∀ b ∈ bi, b ∈ bs) → R x cs bi → R' x cs) (hG : ∀ b ∈ bs, G b) (h : OwnSl w R sz xs v bs) : SlAt w G R' sz xs v := by
  refine ⟨h.1, ?_⟩
  rcases h.2 with ⟨ad, h1, h2, _⟩ | ⟨b, off, cap, cur, ty, fz, bss, h1, h2, h3, h4, h5, h6, h7, h8, h9⟩
  · exact .inl ⟨ad, h1, h2⟩
  · refine .inr ⟨b, off, cap, h1, h2, h3, hG b (by rw [h8]; exact List.mem_cons_self ..), fun i x hx => ?_⟩
    have hlt : i < bss.length := by rw [h7]; exact (List.getElem?_eq_some_iff.1 hx).1
    obtain ⟨cs, hl, hc, hr⟩ := h9 i x _ hx (List.getElem?_eq_getElem hlt)
    refine ⟨cs, hl, fun j c hj => ?_, hR _ _ _ (fun b hb' => by rw [h8]; exact List.mem_cons_of_mem _ (mem_flatten_of_get (List.getElem?_eq_getElem hlt) b hb')) hr⟩
    simp only [World.cell?, h5]
    exact hc j c hj

theorem OwnC.read {w : World} {G : Nat → Prop} : ∀ {t : Ty} {x : t.den} {cs : List Value} {bs : List Nat}, (∀ b ∈ bs, G b) → OwnC w t x cs bs → RepC w G t x cs
  | .int _, _, _, _, _, h => ⟨h.1, h.2.1⟩
  | .bool, _, _, _, _, h => h.1
  | .str, _, _, _, _, h => ⟨h.1, h.2.1⟩
  | .sl _, _, _, _, hG, ⟨v, h, h2⟩ => ⟨v, h, h2.read (fun _ _ _ hs => OwnC.read (fun b hb => hG b (hs b hb))) hG⟩
  | .unit, _, _, _, _, h => h.1
  | .cons _ _, _, _, _, hG, ⟨c1, c2, b1, b2, h, hb, h1, h2⟩ =>
    ⟨c1, c2, h, h1.read (fun b hb' => hG b (by rw [hb]; exact List.mem_append_left _ hb')), h2.read (fun b hb' => hG b (by rw [hb]; exact List.mem_append_right _ hb'))⟩

theorem OwnC.lt {w : World} : ∀ {t : Ty} {x : t.den} {cs : List Value} {bs : List Nat}, OwnC w t x cs bs → ∀ b ∈ bs, b < w.heap.size
  | .int _, _, _, _, h, b, hb => by rw [h.2.2] at hb; cases hb
  | .bool, _, _, _, h, b, hb => by rw [h.2] at hb; cases hb
  | .str, _, _, _, h, b, hb => by rw [h.2.2] at hb; cases hb
  | .unit, _, _, _, h, b, hb => by rw [h.2] at hb; cases hb
  | .sl e, xs, _, bs, ⟨v, _, h⟩, b, hb => by
    rcases h.2 with ⟨_, _, _, h⟩ | ⟨b', off, cap, cur, ty, fz, bss, h1, h2, h3, h4, h5, h6, h7, h8, h9⟩
    · rw [h] at hb; cases hb
    · rw [h8] at hb
      rcases List.mem_cons.1 hb with rfl | hb
      · rcases Nat.lt_or_ge b w.heap.size with hlt | hge
        · exact hlt
        · rw [Array.getElem?_eq_none hge] at h5; cases h5
      · obtain ⟨bi, hm, hbi⟩ := List.mem_flatten.1 hb
        obtain ⟨i, hi⟩ := List.getElem?_of_mem hm
        have hlt : i < xs.length := by rw [← h7]; exact (List.getElem?_eq_some_iff.1 hi).1
        obtain ⟨cs, _, _, hr⟩ := h9 i _ bi (List.getElem?_eq_getElem hlt) hi
        exact OwnC.lt hr b hbi
  | .cons _ _, _, _, _, ⟨c1, c2, b1, b2, _, hb', h1, h2⟩, b, hb => by
    rw [hb'] at hb
    rcases List.mem_append.1 hb with hb | hb
    · exact h1.lt b hb
    · exact h2.lt b hb

end Go.Am

/- The abstract machine, part 2: abstract values, the tables of types, contracts, and the relation to the model's state. -/
namespace Go.Am
set_option linter.unusedVariables false

structure Dyn where
  t : Ty
  x : t.den

inductive Atom where
  | val (v : Value)
  | sl (t : Ty) (xs : List t.den)
  | ptr (t : Ty) (x : t.den)
  | st (t : Ty) (x : t.den)
  | osl (r : Nat) (rg : Option (Nat × Nat))
  | optr (r i : Nat) (p : List Nat)
  | junk

inductive PV where
  | a (x : Atom)
  | tup (xs : List Atom)
  | fn (f : FuncId) (caps : List Atom)

/-- An owned array. 'bor': the slices inside are borrowed, not owned. -/
structure Arr where
  t : Ty
  xs : List t.den
  bor : Bool := false

/-- A list with its type. -/
structure Lst where
  t : Ty
  xs : List t.den

abbrev Env := List (Nat × PV)
abbrev Heap := List (Option Arr)

def Env.get : Env → Nat → PV
  | [], _ => .a .junk
  | (j, p) :: r, i => cond (Nat.beq j i) p (Env.get r i)

def Env.set (E : Env) (i : Nat) (p : PV) : Env := (i, p) :: E.filter fun q => !(Nat.beq q.1 i)

def hget : Heap → Nat → Option Arr
  | [], _ => none
  | a :: _, 0 => a
  | _ :: l, n + 1 => hget l n

def hset : Heap → Nat → Option Arr → Heap
  | [], _, _ => []
  | _ :: l, 0, a => a :: l
  | b :: l, n + 1, a => b :: hset l n a

theorem nbeq_false {i j : Nat} (h : ¬ i = j) : Nat.beq i j = false := Bool.eq_false_iff.2 fun hb => h (Nat.eq_of_beq_eq_true hb)

theorem Env.get_set (E : Env) (i j : Nat) (p : PV) : (E.set i p).get j = if i = j then p else E.get j := by
  unfold Env.set
  simp only [Env.get]
  by_cases h : i = j
  · subst h; simp
  · rw [if_neg h]
    have hb : Nat.beq i j = false := nbeq_false h
    rw [hb, cond_false]
    induction E with
    | nil => rfl
    | cons q r ih =>
      obtain ⟨k, u⟩ := q
      by_cases hk : k = i
      · subst hk
        have : Nat.beq k k = true := by simp
        simp only [List.filter_cons, this, Bool.not_true, Bool.false_eq_true, if_false, Env.get, hb, cond_false]
        exact ih
      · have : Nat.beq k i = false := nbeq_false hk
        simp only [List.filter_cons, this, Bool.not_false, if_true, Env.get]
        rw [ih]

theorem hget_hset (L : Heap) (r s : Nat) (a : Option Arr) : hget (hset L r a) s = if r = s ∧ r < L.length then a else hget L s := by
  induction L generalizing r s with
  | nil => simp [hset, hget]
  | cons b l ih =>
    cases r with
    | zero => cases s with
      | zero => simp [hset, hget]
      | succ s => simp [hset, hget]
    | succ r => cases s with
      | zero => simp [hset, hget]
      | succ s => simp only [hset, hget, ih, List.length_cons, Nat.add_lt_add_iff_right, Nat.add_right_cancel_iff]

theorem hget_lt {L : Heap} {r : Nat} {A : Arr} (h : hget L r = some A) : r < L.length := by
  induction L generalizing r with
  | nil => cases h
  | cons b l ih => cases r with
    | zero => simp
    | succ r => simp only [hget] at h; have := ih h; simp; omega

theorem hget_append (L M : Heap) (r : Nat) : hget (L ++ M) r = if r < L.length then hget L r else hget M (r - L.length) := by
  induction L generalizing r with
  | nil => simp
  | cons b l ih => cases r with
    | zero => simp [hget]
    | succ r => simp only [List.cons_append, hget, ih, List.length_cons, Nat.add_lt_add_iff_right, Nat.add_sub_add_right]

/-- The frame between two worlds: what was there stays, but for the blocks of O. -/
structure Kept (O : List Nat) (w w' : World) : Prop where
  os : w'.os = w.os
  tape : w'.tape = w.tape
  output : w'.output = w.output
  size : w.heap.size ≤ w'.heap.size
  block : ∀ k, k < w.heap.size → k ∉ O → w'.heap[k]? = w.heap[k]?

theorem Kept.refl (O : List Nat) (w : World) : Kept O w w := ⟨rfl, rfl, rfl, Nat.le_refl _, fun _ _ _ => rfl⟩
theorem Kept.trans {O : List Nat} {a b c : World} (h : Kept O a b) (k : Kept O b c) : Kept O a c :=
  ⟨k.os.trans h.os, k.tape.trans h.tape, k.output.trans h.output, Nat.le_trans h.size k.size, fun i hi ho => (k.block i (Nat.lt_of_lt_of_le hi h.size) ho).trans (h.block i hi ho)⟩
theorem Kept.mono {O O' : List Nat} {a b : World} (h : Kept O a b) (hO : ∀ k ∈ O, k ∈ O') : Kept O' a b :=
  ⟨h.os, h.tape, h.output, h.size, fun i hi ho => h.block i hi fun hk => ho (hO i hk)⟩
theorem Kept.of_nil {O : List Nat} {a b : World} (h : Kept [] a b) : Kept O a b := h.mono (fun _ h => by cases h)
theorem Kept.drew {O : List Nat} {a w : World} (h : Kept O a w) : Kept O a w.drew := ⟨h.os, h.tape, h.output, h.size, h.block⟩
theorem Kept.below {a b : World} (h : Kept [] a b) : Go.RowKit.Below a.heap.size a b := ⟨h.os, h.tape, h.output, h.size, fun k hk => h.block k hk (by simp)⟩
theorem Kept.of_below {a b : World} (h : Go.RowKit.Below a.heap.size a b) : Kept [] a b := ⟨h.os, h.tape, h.output, h.size, fun k hk _ => h.block k hk⟩
theorem Kept.alloc {O : List Nat} {a w : World} (h : Kept O a w) (o : Obj) : Kept O a (w.alloc o) :=
  h.trans ⟨rfl, rfl, rfl, by simp, fun k hk _ => Go.RowKit.Below.heap_alloc _ _ _ hk⟩

def Good (w0 : World) (O : List Nat) (b : Nat) : Prop := b < w0.heap.size ∧ b ∉ O

theorem Kept.good {O : List Nat} {w0 w : World} (h : Kept O w0 w) : ∀ b, Good w0 O b → w.heap[b]? = w0.heap[b]? := fun b hb => h.block b hb.1 hb.2

/-- What is known of a value that is its own abstraction. -/
def OkV : Value → Prop
  | .int k n => InR k n
  | .string s => s.size ≤ maxLen
  | .slice none n c => n = 0 ∧ c = 0
  | _ => True

/-! ### Fields -/

def fldD : (t : Ty) → t.den → Nat → Option Dyn
  | .cons a _, x, 0 => some ⟨a, x.1⟩
  | .cons _ b, x, n + 1 => fldD b x.2 n
  | _, _, _ => none

def pathD : List Nat → Dyn → Option Dyn
  | [], d => some d
  | f :: p, d => match fldD d.t d.x f with
    | some d' => pathD p d'
    | none => none

def fldOff : Ty → Nat → Option (Nat × Ty)
  | .cons a _, 0 => some (0, a)
  | .cons a b, n + 1 => match fldOff b n with
    | some (o, t) => some (a.size + o, t)
    | none => none
  | _, _ => none

def pathOff : List Nat → Ty → Option (Nat × Ty)
  | [], t => some (0, t)
  | f :: p, t => match fldOff t f with
    | some (o, t') => match pathOff p t' with
      | some (o', t'') => some (o + o', t'')
      | none => none
    | none => none

/-- Put a tree of the right type at a path. -/
def setD : (t : Ty) → t.den → List Nat → Dyn → Option t.den
  | t, _, [], d => if h : d.t = t then some (h ▸ d.x) else none
  | .cons a b, x, 0 :: p, d => match setD a x.1 p d with
    | some y => some (y, x.2)
    | none => none
  | .cons a b, x, (n + 1) :: p, d => match setD b x.2 (n :: p) d with
    | some y => some (x.1, y)
    | none => none
  | _, _, _, _ => none

def toAtom : (t : Ty) → t.den → Atom
  | .int k, n => .val (.int k n)
  | .bool, b => .val (.bool b)
  | .str, s => .val (.string s)
  | .sl e, xs => .sl e xs
  | .unit, x => .st .unit x
  | .cons a b, x => .st (.cons a b) x

def Dyn.atom (d : Dyn) : Atom := toAtom d.t d.x

/-! ### The relation -/

def rgLo : Option (Nat × Nat) → Nat
  | some (lo, _) => lo
  | none => 0
def rgHi (n : Nat) : Option (Nat × Nat) → Nat
  | some (_, hi) => hi
  | none => n

/-- The slice value v is the part lo .. hi of the slice value V of n elements. -/
def SubSl (sz n : Nat) (V : Value) (lo hi : Nat) (v : Value) : Prop :=
  lo ≤ hi ∧ hi ≤ n ∧ ((∃ ad ad', V = .slice ad 0 0 ∧ v = .slice ad' 0 0 ∧ n = 0 ∧ ad' = ad) ∨
    ∃ b off m cap o c, V = .slice (some ⟨b, off, none⟩) m cap ∧ v = .slice (some ⟨b, o, none⟩) (hi - lo) c ∧ hi - lo ≤ c ∧ ((o = off + lo * sz ∧ lo + c ≤ cap) ∨ (c = 0 ∧ o ≤ off + cap * sz)))

/-- The pointer value v points to a part of element i of the slice value V. -/
def SubPt (t : Ty) (n : Nat) (V : Value) (i : Nat) (p : List Nat) (v : Value) : Prop :=
  i < n ∧ ∃ b off m cap po t', V = .slice (some ⟨b, off, none⟩) m cap ∧ pathOff p t = some (po, t') ∧ v = .pointer (some ⟨b, off + i * t.size + po, none⟩)

/-- Cells of a block. -/
def CellsAt (w : World) (b off : Nat) (cs : List Value) : Prop := ∀ j c, cs[j]? = some c → w.cell? ⟨b, off + j, none⟩ = some c

def PtrAt (w : World) (G : Nat → Prop) (t : Ty) (x : t.den) (v : Value) : Prop :=
  ∃ b off cs, v = .pointer (some ⟨b, off, none⟩) ∧ G b ∧ CellsAt w b off cs ∧ RepC w G t x cs

/-- A borrowed atom. -/
def RepB (w : World) (G : Nat → Prop) : Atom → Value → Prop
  | .val u, v => v = u ∧ OkV u
  | .sl t xs, v => SlAt w G (RepC w G t) t.size xs v
  | .ptr t x, v => PtrAt w G t x v
  | .st t x, v => ∃ cs, v = .agg cs.toArray ∧ RepC w G t x cs
  | .junk, _ => True
  | _, _ => False

def RepA (w0 : World) (G : Nat → Prop) (L : Heap) (V : Nat → Value) : Atom → Value → Prop
  | .osl r rg, v => ∃ A, hget L r = some A ∧ (rg = none → v = V r) ∧ SubSl A.t.size A.xs.length (V r) (rgLo rg) (rgHi A.xs.length rg) v
  | .optr r i p, v => ∃ A, hget L r = some A ∧ SubPt A.t A.xs.length (V r) i p v
  | x, v => RepB w0 G x v

def RepAs (w0 : World) (G : Nat → Prop) (L : Heap) (V : Nat → Value) : List Atom → List Value → Prop
  | [], vs => vs = []
  | x :: xs, vs => ∃ v r, vs = v :: r ∧ RepA w0 G L V x v ∧ RepAs w0 G L V xs r

def RepP (w0 : World) (G : Nat → Prop) (L : Heap) (V : Nat → Value) : PV → Value → Prop
  | .a x, v => RepA w0 G L V x v
  | .tup xs, v => ∃ vs, v = .tuple vs.toArray ∧ RepAs w0 G L V xs vs
  | .fn f caps, v => ∃ vs, v = .func (.func f) #[] vs.toArray ∧ RepAs w0 G L V caps vs

def entR (w0 : World) (G : Nat → Prop) (w : World) (t : Ty) (bor : Bool) (x : t.den) (cs : List Value) (bi : List Nat) : Prop :=
  match bor with
  | true => RepC w0 G t x cs ∧ bi = []
  | false => OwnC w t x cs bi

/-- An owned array in memory. -/
def EntC (w0 : World) (G : Nat → Prop) (w : World) (A : Arr) (v : Value) (bs : List Nat) : Prop := OwnSl w (entR w0 G w A.t A.bor) A.t.size A.xs v bs

theorem EntC.keep {w0 w w' : World} {G : Nat → Prop} {A : Arr} {v : Value} {bs : List Nat} (hw : ∀ b ∈ bs, w'.heap[b]? = w.heap[b]?) (h : EntC w0 G w A v bs) : EntC w0 G w' A v bs := by
  refine OwnSl.keep (fun x cs bi hs hr => ?_) hw h
  revert hr
  unfold entR
  cases A.bor with
  | true => exact id
  | false => exact fun hr => OwnC.keep (fun b hb => hw b (hs b hb)) hr

theorem EntC.lt {w0 w : World} {G : Nat → Prop} {A : Arr} {v : Value} {bs : List Nat} (h : EntC w0 G w A v bs) : ∀ b ∈ bs, b < w.heap.size := by
  intro b hb
  rcases h.2 with ⟨_, _, _, h⟩ | ⟨b', off, cap, cur, ty, fz, bss, h1, h2, h3, h4, h5, h6, h7, h8, h9⟩
  · rw [h] at hb; cases hb
  · rw [h8] at hb
    rcases List.mem_cons.1 hb with rfl | hb
    · rcases Nat.lt_or_ge b w.heap.size with hlt | hge
      · exact hlt
      · rw [Array.getElem?_eq_none hge] at h5; cases h5
    · obtain ⟨bi, hm, hbi⟩ := List.mem_flatten.1 hb
      obtain ⟨i, hi⟩ := List.getElem?_of_mem hm
      have hlt : i < A.xs.length := by rw [← h7]; exact (List.getElem?_eq_some_iff.1 hi).1
      obtain ⟨cs, _, _, hr⟩ := h9 i _ bi (List.getElem?_eq_getElem hlt) hi
      unfold entR at hr
      cases hbor : A.bor with
      | true => rw [hbor] at hr; rw [hr.2] at hbi; cases hbi
      | false => rw [hbor] at hr; exact hr.lt b hbi

theorem EntC.len {w0 w : World} {G : Nat → Prop} {A : Arr} {v : Value} {bs : List Nat} (h : EntC w0 G w A v bs) : A.xs.length ≤ maxLen := h.1

theorem EntC.wf {w0 w : World} {G : Nat → Prop} {A : Arr} {v : Value} {bs : List Nat} (h : EntC w0 G w A v bs) : Wf (.sl A.t) A.xs := by
  refine ⟨h.1, fun x hx => ?_⟩
  rcases h.2 with ⟨_, _, h, _⟩ | ⟨b, off, cap, cur, ty, fz, bss, _, _, _, _, _, _, hl, _, hr⟩
  · rw [h] at hx; cases hx
  · obtain ⟨i, hi⟩ := List.getElem?_of_mem hx
    have hlt : i < bss.length := by rw [hl]; exact (List.getElem?_eq_some_iff.1 hi).1
    obtain ⟨cs, _, _, h⟩ := hr i x _ hi (List.getElem?_eq_getElem hlt)
    unfold entR at h
    cases hbor : A.bor with
    | true => rw [hbor] at h; exact h.1.wf
    | false => rw [hbor] at h; exact h.wf

theorem EntC.own {w0 w : World} {G : Nat → Prop} {t : Ty} {xs : List t.den} {v : Value} {bs : List Nat} : EntC w0 G w ⟨t, xs, false⟩ v bs ↔ OwnC w (.sl t) xs [v] bs :=
  ⟨fun h => ⟨v, rfl, h⟩, fun ⟨v', hv, h⟩ => by cases hv; exact h⟩

structure RelV (n : Nat) (w0 : World) (O : List Nat) (w : World) (a : Act) (E : Env) (L : Heap) (V : Nat → Value) (own : Nat → List Nat) : Prop where
  glob : GOk w0 O
  kept : Kept O w0 w
  size : a.tmps.size = n
  defers : a.defers = []
  heap : ∀ r A, hget L r = some A → EntC w0 (Good w0 O) w A (V r) (own r)
  good : ∀ r A, hget L r = some A → ∀ b ∈ own r, ¬ Good w0 O b
  nodup : ∀ r A, hget L r = some A → (own r).Nodup
  apart : ∀ r s A B, hget L r = some A → hget L s = some B → r ≠ s → ∀ b ∈ own r, b ∉ own s
  env : ∀ i, RepP w0 (Good w0 O) L V (E.get i) (a.tmps.getD i undef)

def Rel (n : Nat) (w0 : World) (O : List Nat) (w : World) (a : Act) (E : Env) (L : Heap) : Prop := ∃ V own, RelV n w0 O w a E L V own

theorem RelV.ext {n : Nat} {w0 : World} {O : List Nat} {w w' : World} {a : Act} {E : Env} {L : Heap} {V : Nat → Value} {own : Nat → List Nat}
    (h : RelV n w0 O w a E L V own) (k : Kept [] w w') : RelV n w0 O w' a E L V own where
  glob := h.glob
  kept := h.kept.trans k.of_nil
  size := h.size
  defers := h.defers
  heap := fun r A hr => (h.heap r A hr).keep fun b hb => k.block b ((h.heap r A hr).lt b hb) (by simp)
  good := h.good
  nodup := h.nodup
  apart := h.apart
  env := h.env

theorem RelV.put {n : Nat} {w0 : World} {O : List Nat} {w : World} {a : Act} {E : Env} {L : Heap} {V : Nat → Value} {own : Nat → List Nat}
    (h : RelV n w0 O w a E L V own) {d : Nat} {p : PV} {v : Value} (hd : d < n) (hv : RepP w0 (Good w0 O) L V p v) : RelV n w0 O w (a.put (some d) v) (E.set d p) L V own where
  glob := h.glob
  kept := h.kept
  size := by simp [Act.put, h.size]
  defers := h.defers
  heap := h.heap
  good := h.good
  nodup := h.nodup
  apart := h.apart
  env := fun i => by
    rw [Env.get_set]
    simp only [Act.put]
    by_cases hi : d = i
    · subst hi
      have hs : d < a.tmps.size := by rw [h.size]; exact hd
      simpa [Array.getD_eq_getD_getElem?, hs] using hv
    · rw [if_neg hi]
      have := h.env i
      simpa [Array.getD_eq_getD_getElem?, Array.getElem?_setIfInBounds_ne hi] using this

theorem RelV.ginv {n : Nat} {w0 : World} {O : List Nat} {w : World} {a : Act} {E : Env} {L : Heap} {V : Nat → Value} {own : Nat → List Nat}
    (h : RelV n w0 O w a E L V own) : GInv w :=
  h.glob.inv.keep fun b hb hs => h.kept.block b hs fun ho => by have := h.glob.out b ho; omega

/-- For a call in a later world that is handed arrays of its own. -/
theorem RelV.gok {n : Nat} {w0 : World} {O : List Nat} {w : World} {a : Act} {E : Env} {L : Heap} {V : Nat → Value} {own : Nat → List Nat}
    (h : RelV n w0 O w a E L V own) {w' : World} (k : Kept [] w w') {O' : List Nat} (hO : ∀ b ∈ O', ¬ Good w0 O b) : GOk w' O' where
  inv := (h.ext k).ginv
  size := Nat.le_trans h.glob.size (Nat.le_trans h.kept.size k.size)
  out := fun b hb => by
    have h1 := hO b hb
    rcases Nat.lt_or_ge b w0.heap.size with hlt | hge
    · by_cases ho : b ∈ O
      · exact h.glob.out b ho
      · exact absurd ⟨hlt, ho⟩ h1
    · exact Nat.le_trans h.glob.size hge

/-! ### Contracts -/

inductive AT where
  | v (t : Ty)
  | p (t : Ty)
  | own (t : Ty)
  | fn (f : FuncId) (caps : List (Bool × Ty))

@[reducible] def capsDen : List (Bool × Ty) → Type
  | [] => Unit
  | (_, t) :: r => t.den × capsDen r

@[reducible] def AT.den : AT → Type
  | .v t => t.den
  | .p t => t.den
  | .own t => List t.den
  | .fn _ caps => capsDen caps

@[reducible] def sigDen : List AT → Type
  | [] => Unit
  | a :: r => a.den × sigDen r

/-- A borrowed value, as a function sees it. -/
def RepV (w : World) (G : Nat → Prop) (t : Ty) (x : t.den) (v : Value) : Prop := ∃ cs, RepC w G t x cs ∧ cs.toArray = v.cells

def CapsRep (w : World) (G : Nat → Prop) : (caps : List (Bool × Ty)) → capsDen caps → List Value → Prop
  | [], _, vs => vs = []
  | (true, t) :: r, x, vs => ∃ v s, vs = v :: s ∧ PtrAt w G t x.1 v ∧ CapsRep w G r x.2 s
  | (false, t) :: r, x, vs => ∃ v s, vs = v :: s ∧ RepB w G (toAtom t x.1) v ∧ CapsRep w G r x.2 s

def ArgRep (w : World) (G : Nat → Prop) : (a : AT) → a.den → Value → List Nat → Prop
  | .v t, x, v, bs => bs = [] ∧ RepB w G (toAtom t x) v
  | .p t, x, v, bs => bs = [] ∧ PtrAt w G t x v
  | .own t, xs, v, bs => OwnC w (.sl t) xs [v] bs
  | .fn f caps, x, v, bs => bs = [] ∧ ∃ vs, v = .func (.func f) #[] vs.toArray ∧ CapsRep w G caps x vs

def ArgsRep (w : World) (G : Nat → Prop) : (sig : List AT) → sigDen sig → List Value → List (List Nat) → Prop
  | [], _, vs, bss => vs = [] ∧ bss = []
  | a :: r, x, vs, bss => ∃ v s b bs, vs = v :: s ∧ bss = b :: bs ∧ ArgRep w G a x.1 v b ∧ ArgsRep w G r x.2 s bs

structure Spec where
  sig : List AT
  pre : sigDen sig → Prop
  /-- what each owned argument holds behind the call; none: it is used up -/
  upd : sigDen sig → List (Option Lst) := fun _ => []
  res : sigDen sig → List Dyn

def IsVal (t : Ty) (cs : List Value) (v : Value) : Prop :=
  match t with
  | .unit | .cons _ _ => v = .agg cs.toArray
  | _ => cs = [v]

/-- Results: each owned by whoever called. -/
def ResRep (w : World) : List Dyn → List Value → List (List Nat) → Prop
  | [], vs, bss => vs = [] ∧ bss = []
  | d :: r, vs, bss => ∃ v s b bs cs, vs = v :: s ∧ bss = b :: bs ∧ OwnC w d.t d.x cs b ∧ IsVal d.t cs v ∧ ResRep w r s bs

/-- The owned arguments that are given back. -/
def UpdRep (w : World) : List (Option Lst) → List Value → List (List Nat) → Prop
  | [], vs, bss => vs = [] ∧ bss = []
  | none :: r, vs, bss => ∃ v s bs, vs = v :: s ∧ bss = [] :: bs ∧ UpdRep w r s bs
  | some A :: r, vs, bss => ∃ v s b bs, vs = v :: s ∧ bss = b :: bs ∧ OwnC w (.sl A.t) A.xs [v] b ∧ UpdRep w r s bs

/-- The values of the owned arguments. -/
def ownVals : List AT → List Value → List Value
  | .own _ :: r, v :: s => v :: ownVals r s
  | _ :: r, _ :: s => ownVals r s
  | _, _ => []

/-- How results are handed back: one as it is, others as a tuple. -/
def packV : List Value → Value
  | [v] => v
  | vs => .tuple vs.toArray

/-- **The contract of a function.** -/
def Contract (P : Program) (f : FuncId) (S : Spec) : Prop :=
  ∀ (w : World) (x : sigDen S.sig) (vs : List Value) (bss : List (List Nat)), GOk w bss.flatten → S.pre x → ArgsRep w (Good w bss.flatten) S.sig x vs bss → bss.flatten.Nodup →
    Calls P f vs.toArray w fun e w' => ∃ rs ubs rbs, e = .returned (packV rs) ∧ Kept bss.flatten w w' ∧ ResRep w' (S.res x) rs rbs ∧ UpdRep w' (S.upd x) (ownVals S.sig vs) ubs ∧
      (ubs.flatten ++ rbs.flatten).Nodup ∧ ∀ b ∈ ubs.flatten ++ rbs.flatten, ¬ Good w bss.flatten b

end Go.Am

/- The abstract machine, part 3: the tables of types, and what loads, fields and indexes yield. -/
namespace Go.Am
set_option linter.unusedVariables false

def Ty.agg : Ty → Bool
  | .unit | .cons _ _ => true
  | _ => false

def dcells : Ty → List Value
  | .int k => [.int k 0]
  | .bool => [.bool false]
  | .str => [.string ByteArray.empty]
  | .sl _ => [.slice none 0 0]
  | .unit => []
  | .cons a b => dcells a ++ dcells b

/-- The value whose cells these are. -/
def valOf (t : Ty) (cs : List Value) : Value := if t.agg then .agg cs.toArray else cs.headD undef

def descFits : TypeDesc → Ty → Bool
  | .bool, .bool | .string, .str | .slice _, .sl _ | .struct _, .unit | .struct _, .cons _ _ => true
  | .int k, .int k' => k == k'
  | _, _ => false

structure TyOk (P : Program) (T : TypeId) (t : Ty) : Prop where
  und : ∃ d, P.underlying T = some d ∧ descFits d t = true
  info : ∃ i, P.info? T = some i ∧ i.size = t.size ∧ ∃ z, i.zero = some z ∧ z.cells.toList = dcells t ∧ z = valOf t (dcells t)

def FieldsOk (P : Program) : List Field → Ty → Nat → Prop
  | [], .unit, _ => True
  | f :: fs, .cons a b, o => f.offset = o ∧ TyOk P f.type a ∧ a.size ≠ 0 ∧ FieldsOk P fs b (o + a.size)
  | _, _, _ => False

inductive TI where
  | scal (t : Ty)
  | slice (e : TypeId) (t : Ty) (bytes : Nat)
  | struct (t : Ty)
  | other

def TI.ty : TI → Option Ty
  | .scal t => some t
  | .slice _ t _ => some (.sl t)
  | .struct t => some t
  | .other => none

/-! The check, by the kernel. -/

def vEq : Value → Value → Bool
  | .int k a, .int k' b => k == k' && a == b
  | .bool a, .bool b => a == b
  | .string a, .string b => a.size == 0 && b.size == 0
  | .slice none 0 0, .slice none 0 0 => true
  | _, _ => false

def vEqs : List Value → List Value → Bool
  | [], [] => true
  | a :: r, b :: s => vEq a b && vEqs r s
  | _, _ => false

theorem size_zero {s : ByteArray} (h : s.size = 0) : s = ByteArray.empty := by
  cases s with | mk d => cases d with | mk l => cases l with
    | nil => rfl
    | cons a r => simp [ByteArray.size] at h

theorem vEq_eq {a b : Value} (h : vEq a b = true) : a = b := by
  unfold vEq at h
  split at h
  · simp at h; rw [h.1, h.2]
  · simp at h; rw [h]
  · simp only [Bool.and_eq_true, beq_iff_eq] at h; rw [size_zero h.1, size_zero h.2]
  · rfl
  · cases h

theorem vEqs_eq : ∀ {a b : List Value}, vEqs a b = true → a = b
  | [], [], _ => rfl
  | a :: r, b :: s, h => by
    simp only [vEqs, Bool.and_eq_true] at h
    rw [vEq_eq h.1, vEqs_eq h.2]
  | [], _ :: _, h => by cases h
  | _ :: _, [], h => by cases h

def aggFits : Value → List Value → Bool
  | .agg cs, l => vEqs cs.toList l
  | _, _ => false

def zeroFits (z : Value) (t : Ty) : Bool := if t.agg then aggFits z (dcells t) else vEqs [z] (dcells t)

theorem zeroFits_spec {z : Value} {t : Ty} (h : zeroFits z t = true) : z.cells.toList = dcells t ∧ z = valOf t (dcells t) := by
  unfold zeroFits at h
  unfold valOf
  by_cases ha : t.agg = true
  · rw [if_pos ha] at h ⊢
    unfold aggFits at h
    split at h
    · have := vEqs_eq h
      refine ⟨by simpa [Value.cells] using this, by rw [← this]⟩
    · cases h
  · rw [if_neg ha] at h ⊢
    have hz := vEqs_eq h
    refine ⟨?_, by rw [← hz]; rfl⟩
    cases z with
    | agg cs => exfalso; cases t <;> simp [dcells, Ty.agg] at hz ha
    | _ => simpa [Value.cells] using hz

def tyCheck (P : Program) (T : TypeId) (t : Ty) : Bool :=
  (match P.underlying T with | some d => descFits d t | none => false) &&
  (match P.info? T with | some i => Nat.beq i.size t.size && (match i.zero with | some z => zeroFits z t | none => false) | none => false)

theorem tyCheck_ok {P : Program} {T : TypeId} {t : Ty} (h : tyCheck P T t = true) : TyOk P T t := by
  simp only [tyCheck, Bool.and_eq_true] at h
  obtain ⟨h1, h2⟩ := h
  split at h1
  · rename_i d hd
    split at h2
    · rename_i i hi
      simp only [Bool.and_eq_true] at h2
      obtain ⟨h2, h3⟩ := h2
      split at h3
      · rename_i z hz
        exact ⟨⟨d, hd, h1⟩, ⟨i, hi, Nat.eq_of_beq_eq_true h2, z, hz, zeroFits_spec h3⟩⟩
      · cases h3
    · cases h2
  · cases h1

def isIntB (k : IntKind) : Option TypeDesc → Bool
  | some (.int k') => decide (k' = k)
  | _ => false
def isBoolB : Option TypeDesc → Bool
  | some .bool => true
  | _ => false
def isStrB : Option TypeDesc → Bool
  | some .string => true
  | _ => false

theorem isIntB_eq {k : IntKind} {d : Option TypeDesc} (h : isIntB k d = true) : d = some (.int k) := by
  unfold isIntB at h
  split at h
  · simp at h; rw [h]
  · cases h
theorem isBoolB_eq {d : Option TypeDesc} (h : isBoolB d = true) : d = some .bool := by
  unfold isBoolB at h
  split at h
  · rfl
  · cases h
theorem isStrB_eq {d : Option TypeDesc} (h : isStrB d = true) : d = some .string := by
  unfold isStrB at h
  split at h
  · rfl
  · cases h

/-! Comparing. -/

def eqD : (t : Ty) → t.den → t.den → Bool
  | .int _, x, y => (x : Int) == y
  | .bool, x, y => (x : Bool) == y
  | .str, x, y => ByteArray.toList x == ByteArray.toList y
  | .sl _, _, _ => false
  | .unit, _, _ => true
  | .cons a b, x, y => eqD a x.1 y.1 && eqD b x.2 y.2

def dep : Ty → Nat
  | .cons a b => Nat.max (dep a + 1) (dep b)
  | _ => 0

def wrapE (P : Program) (agg : Bool) (T : TypeId) (k : TypeId ⊕ (List Field × Nat) → Bool) : Bool :=
  match agg with
  | true => match P.underlying T with
    | some (.struct fs) => !P.stoodInHeld T && k (.inr (fs.toList, 0))
    | _ => false
  | false => k (.inl T)

def eqB (P : Program) : Ty → TypeId ⊕ (List Field × Nat) → Bool
  | .int k, .inl T => isIntB k (P.underlying T)
  | .bool, .inl T => isBoolB (P.underlying T)
  | .str, .inl T => isStrB (P.underlying T)
  | .unit, .inr ([], _) => true
  | .cons a b, .inr (f :: fs, o) => f.name != "_" && (Nat.beq f.offset o && (tyCheck P f.type a && (wrapE P a.agg f.type (eqB P a) && eqB P b (.inr (fs, o + a.size)))))
  | _, _ => false

def eqT (P : Program) (t : Ty) (T : TypeId) : Bool := Nat.ble (dep t) 9999 && (!P.eqGuardType P.depth T && wrapE P t.agg T (eqB P t))

def TIOk (P : Program) (T : TypeId) : TI → Prop
  | .scal t => TyOk P T t
  | .slice e t by' => TyOk P T (.sl t) ∧ P.underlying T = some (.slice e) ∧ TyOk P e t ∧ (P.info? e).map (·.bytes) = some by'
  | .struct t => TyOk P T t ∧ ∃ fs, P.underlying T = some (.struct fs) ∧ FieldsOk P fs.toList t 0 ∧ (t.flat = true → eqT P t T = true)
  | .other => True

def tabGet : List TI → Nat → TI
  | [], _ => .other
  | a :: _, 0 => a
  | _ :: r, n + 1 => tabGet r n

def TabOk (P : Program) (tab : List TI) : Prop := ∀ T, TIOk P T (tabGet tab T)

def fieldsCheck (P : Program) : List Field → Ty → Nat → Bool
  | [], .unit, _ => true
  | f :: fs, .cons a b, o => Nat.beq f.offset o && tyCheck P f.type a && !(Nat.beq a.size 0) && fieldsCheck P fs b (o + a.size)
  | _, _, _ => false

theorem fieldsCheck_ok {P : Program} : ∀ {fs : List Field} {t : Ty} {o : Nat}, fieldsCheck P fs t o = true → FieldsOk P fs t o
  | [], .unit, _, _ => trivial
  | f :: fs, .cons a b, o, h => by
    simp only [fieldsCheck, Bool.and_eq_true] at h
    obtain ⟨⟨⟨h1, h2⟩, h3⟩, h4⟩ := h
    exact ⟨Nat.eq_of_beq_eq_true h1, tyCheck_ok h2, fun e => by rw [e] at h3; simp at h3, fieldsCheck_ok h4⟩
  | [], .int _, _, h => by cases h
  | [], .bool, _, h => by cases h
  | [], .str, _, h => by cases h
  | [], .sl _, _, h => by cases h
  | [], .cons _ _, _, h => by cases h
  | _ :: _, .int _, _, h => by cases h
  | _ :: _, .bool, _, h => by cases h
  | _ :: _, .str, _, h => by cases h
  | _ :: _, .sl _, _, h => by cases h
  | _ :: _, .unit, _, h => by cases h

def tiCheck (P : Program) (T : TypeId) : TI → Bool
  | .scal t => tyCheck P T t
  | .slice e t by' => tyCheck P T (.sl t) && (match P.underlying T with | some (.slice e') => Nat.beq e e' | _ => false) && tyCheck P e t && (match P.info? e with | some i => Nat.beq i.bytes by' | none => false)
  | .struct t => tyCheck P T t && (match P.underlying T with | some (.struct fs) => fieldsCheck P fs.toList t 0 && (!t.flat || eqT P t T) | _ => false)
  | .other => true

theorem tiCheck_ok {P : Program} {T : TypeId} {i : TI} (h : tiCheck P T i = true) : TIOk P T i := by
  cases i with
  | scal t => exact tyCheck_ok h
  | slice e t by' =>
    simp only [tiCheck, Bool.and_eq_true] at h
    obtain ⟨⟨⟨h1, h2⟩, h3⟩, h4⟩ := h
    refine ⟨tyCheck_ok h1, ?_, tyCheck_ok h3, ?_⟩
    · split at h2
      · rename_i e' he; rw [he, Nat.eq_of_beq_eq_true h2]
      · cases h2
    · split at h4
      · rename_i j hj; rw [hj]; simp [Nat.eq_of_beq_eq_true h4]
      · cases h4
  | struct t =>
    simp only [tiCheck, Bool.and_eq_true] at h
    refine ⟨tyCheck_ok h.1, ?_⟩
    have h2 := h.2
    split at h2
    · rename_i fs hf
      simp only [Bool.and_eq_true] at h2
      refine ⟨fs, hf, fieldsCheck_ok h2.1, fun ht => ?_⟩
      have h3 := h2.2
      rw [ht] at h3
      exact h3
    · cases h2
  | other => trivial

def tabCheckFrom (P : Program) : List TI → Nat → Bool
  | [], _ => true
  | i :: r, T => tiCheck P T i && tabCheckFrom P r (T + 1)

theorem tabCheckFrom_ok {P : Program} : ∀ {tab : List TI} {S : Nat}, tabCheckFrom P tab S = true → ∀ T, TIOk P (S + T) (tabGet tab T)
  | [], _, _, _ => trivial
  | i :: r, S, h, 0 => by
    simp only [tabCheckFrom, Bool.and_eq_true] at h
    exact tiCheck_ok h.1
  | i :: r, S, h, T + 1 => by
    simp only [tabCheckFrom, Bool.and_eq_true] at h
    have := tabCheckFrom_ok h.2 T
    rwa [show S + (T + 1) = S + 1 + T from by omega]

theorem tabOk_of_check {P : Program} {tab : List TI} (h : tabCheckFrom P tab 0 = true) : TabOk P tab := fun T => by
  have := tabCheckFrom_ok h T
  rwa [Nat.zero_add] at this

/-! ### Runs of the small operations -/

section
variable {P : Program} {w : World}

theorem TyOk.size_run {T : TypeId} {t : Ty} (h : TyOk P T t) (w : World) : (sizeOf T).run P w = .ok t.size w := by
  obtain ⟨i, hi, hs, _⟩ := h.info
  simp [sizeOf, typeInfo, hi, hs]

theorem TyOk.agg_run {T : TypeId} {t : Ty} (h : TyOk P T t) (w : World) : (isAgg T).run P w = .ok t.agg w := by
  obtain ⟨d, hd, hf⟩ := h.und
  unfold isAgg
  simp only [Sem.run_bind, run_underlying hd, Result.andThen_ok]
  cases d <;> cases t <;> simp_all [descFits, Ty.agg]

theorem TyOk.zero_run {T : TypeId} {t : Ty} (h : TyOk P T t) (w : World) : (zeroValue T).run P w = .ok (valOf t (dcells t)) w := by
  obtain ⟨i, hi, _, z, hz, _, hv⟩ := h.info
  simp [zeroValue, typeInfo, hi, hz, hv]

theorem loadVar_run {T : TypeId} {t : Ty} (h : TyOk P T t) {b off : Nat} {cs : List Value} (hl : cs.length = t.size) (hc : CellsAt w b off cs) :
    (loadVar T ⟨b, off, none⟩).run P w = .ok (valOf t cs) w := by
  unfold loadVar valOf
  simp only [Sem.run_bind, h.agg_run, Result.andThen_ok]
  cases ha : t.agg with
  | true =>
    have := run_loadCells_list (P := P) w ⟨b, off, none⟩ cs (fun j v hj => by rw [Addr.add_lit]; exact hc j v hj)
    simp [h.size_run, ← hl, this]
  | false =>
    have h1 : t.size = 1 := by cases t <;> simp_all [Ty.agg, Ty.size]
    rw [h1] at hl
    match cs, hl with
    | [c], _ =>
      have := hc 0 c rfl
      simp at this
      simp [this]

theorem RepC.repB {G : Nat → Prop} {t : Ty} {x : t.den} {cs : List Value} (h : RepC w G t x cs) : RepB w G (toAtom t x) (valOf t cs) := by
  cases t with
  | int k => obtain ⟨rfl, h⟩ := h; exact ⟨rfl, h⟩
  | bool => cases h; exact ⟨rfl, trivial⟩
  | str => obtain ⟨rfl, h⟩ := h; exact ⟨rfl, h⟩
  | sl e => obtain ⟨v, rfl, h⟩ := h; exact h
  | unit => exact ⟨cs, rfl, h⟩
  | cons a b => exact ⟨cs, rfl, h⟩

theorem fldD_spec {G : Nat → Prop} : ∀ {t : Ty} {x : t.den} {n : Nat} {d : Dyn} {cs : List Value}, fldD t x n = some d → RepC w G t x cs →
    ∃ o, fldOff t n = some (o, d.t) ∧ RepC w G d.t d.x ((cs.drop o).take d.t.size) ∧ o + d.t.size ≤ cs.length
  | .cons a b, x, 0, d, cs, h, hr => by
    obtain ⟨c1, c2, rfl, h1, h2⟩ := hr
    cases h
    refine ⟨0, rfl, ?_, by rw [List.length_append, h1.length]; simp⟩
    simp only [List.drop_zero]
    rw [← h1.length, List.take_left]
    exact h1
  | .cons a b, x, n + 1, d, cs, h, hr => by
    obtain ⟨c1, c2, rfl, h1, h2⟩ := hr
    obtain ⟨o, ho, hro, hl⟩ := fldD_spec (t := b) h h2
    refine ⟨a.size + o, by simp [fldOff, ho], ?_, by rw [List.length_append, h1.length]; omega⟩
    rw [← h1.length, List.drop_append, List.drop_of_length_le (by omega), List.nil_append, Nat.add_sub_cancel_left]
    exact hro
  | .int _, _, _, _, _, h, _ => by cases h
  | .bool, _, _, _, _, h, _ => by cases h
  | .str, _, _, _, _, h, _ => by cases h
  | .sl _, _, _, _, _, h, _ => by cases h
  | .unit, _, _, _, _, h, _ => by cases h

theorem fields_get : ∀ {fs : List Field} {t : Ty} {o n : Nat} {fo : Nat} {ft : Ty}, FieldsOk P fs t o → fldOff t n = some (fo, ft) →
    ∃ f, fs[n]? = some f ∧ f.offset = o + fo ∧ TyOk P f.type ft ∧ ft.size ≠ 0
  | f :: fs, .cons a b, o, 0, fo, ft, h, h2 => by
    cases h2
    exact ⟨f, rfl, h.1, h.2.1, h.2.2.1⟩
  | f :: fs, .cons a b, o, n + 1, fo, ft, h, h2 => by
    simp only [fldOff] at h2
    split at h2
    · rename_i o' t' h3
      cases h2
      obtain ⟨g, h4, h5, h6, h7⟩ := fields_get (n := n) h.2.2.2 h3
      exact ⟨g, by simpa using h4, by rw [h5]; omega, h6, h7⟩
    · cases h2
  | [], .unit, _, _, _, _, _, h2 => by cases h2
  | [], .int _, _, _, _, _, h, _ => h.elim
  | [], .bool, _, _, _, _, h, _ => h.elim
  | [], .str, _, _, _, _, h, _ => h.elim
  | [], .sl _, _, _, _, _, h, _ => h.elim
  | [], .cons _ _, _, _, _, _, h, _ => h.elim
  | _ :: _, .int _, _, _, _, _, h, _ => h.elim
  | _ :: _, .bool, _, _, _, _, h, _ => h.elim
  | _ :: _, .str, _, _, _, _, h, _ => h.elim
  | _ :: _, .sl _, _, _, _, _, h, _ => h.elim
  | _ :: _, .unit, _, _, _, _, h, _ => h.elim

theorem fieldAt_run {S : TypeId} {t : Ty} (h : TIOk P S (.struct t)) {n fo : Nat} {ft : Ty} (hf : fldOff t n = some (fo, ft)) (b off : Nat) :
    (Instr.fieldAt S (.pointer (some ⟨b, off, none⟩)) n).run P w = .ok (.pointer (some ⟨b, off + fo, none⟩)) w := by
  obtain ⟨_, fs, hu, hfs, _⟩ := h
  obtain ⟨f, h1, h2, h3, h4⟩ := fields_get hfs hf
  have h1' : fs[n]? = some f := by simpa using h1
  unfold Instr.fieldAt
  simp only [Sem.run_bind, run_underlying hu, Result.andThen_ok, h1', Instr.sureAddr, Sem.run_pure, fieldPlace, h3.size_run, if_neg h4, h2, Nat.zero_add, Addr.add_lit]

theorem part_run {T : TypeId} {t : Ty} (h : TyOk P T t) (cs : List Value) (o : Nat) (hl : o + t.size ≤ cs.length) :
    (part T cs.toArray o).run P w = .ok (valOf t ((cs.drop o).take t.size)) w := by
  unfold part valOf
  simp only [Sem.run_bind, h.agg_run, Result.andThen_ok]
  cases ha : t.agg with
  | true => simp [h.size_run, List.extract_toArray, List.extract_eq_take_drop]
  | false =>
    have h1 : t.size = 1 := by cases t <;> simp_all [Ty.agg, Ty.size]
    rw [h1] at hl ⊢
    have hlt : o < cs.length := by omega
    simp [hlt, List.take_one, List.head?_drop]

theorem field_run {S : TypeId} {t : Ty} (h : TIOk P S (.struct t)) {n fo : Nat} {ft : Ty} (hf : fldOff t n = some (fo, ft)) (cs : List Value) (hl : fo + ft.size ≤ cs.length) :
    (Instr.field S (.agg cs.toArray) n).run P w = .ok (valOf ft ((cs.drop fo).take ft.size)) w := by
  obtain ⟨_, fs, hu, hfs, _⟩ := h
  obtain ⟨f, h1, h2, h3, h4⟩ := fields_get hfs hf
  have h1' : fs[n]? = some f := by simpa using h1
  unfold Instr.field
  simp only [Sem.run_bind, run_underlying hu, Result.andThen_ok, h1', asAgg, Sem.run_pure, h2, Nat.zero_add]
  exact part_run h3 cs fo hl

theorem indexAt_run {T e : TypeId} {t : Ty} {by' : Nat} (h : TIOk P T (.slice e t by')) {k : IntKind} {i : Int} (b off len cap : Nat) (h0 : 0 ≤ i) (h1 : i < len) :
    (Instr.indexAt T (.slice (some ⟨b, off, none⟩) len cap) (.int k i)).run P w = .ok (.pointer (some ⟨b, off + i.toNat * t.size, none⟩)) w := by
  obtain ⟨_, hu, he, _⟩ := h
  unfold Instr.indexAt
  simp [asIntOf, run_underlying hu, h0, h1, he.size_run, Addr.add_lit]

end
end Go.Am

/- The abstract machine, part 4: operations that only read. -/
namespace Go.Am
set_option linter.unusedVariables false
set_option linter.unusedSimpArgs false

def All : List Prop → Prop
  | [] => True
  | p :: r => p ∧ All r

theorem All.append {l m : List Prop} : All (l ++ m) ↔ All l ∧ All m := by
  induction l with
  | nil => simp [All]
  | cons p r ih => simp [All, ih, and_assoc]

theorem wrap_inR (k : IntKind) (n : Int) : InR k (k.wrap n) := by
  cases k <;> simp [InR, IntKind.wrap, IntKind.min, IntKind.max, IntKind.bits, IntKind.signed] <;> (try split) <;> omega

theorem wrap_of_inR {k : IntKind} {n : Int} (h : InR k n) : k.wrap n = n := by
  cases k <;> simp [InR, IntKind.wrap, IntKind.min, IntKind.max, IntKind.bits, IntKind.signed] at h ⊢ <;> (try split) <;> omega

/-! ### Arithmetic -/

def bitsV (op : BinOp) (k : IntKind) (x y : Int) : Int :=
  let a := BitVec.ofInt k.bits x
  let b := BitVec.ofInt k.bits y
  match op with
  | .and => k.wrap (a &&& b).toNat
  | .or => k.wrap (a ||| b).toNat
  | .xor => k.wrap (a ^^^ b).toNat
  | _ => k.wrap (a &&& ~~~b).toNat

def shlV (k : IntKind) (x y : Int) : Int := k.wrap (x * 2 ^ min y.toNat k.bits)
def shrV (k : IntKind) (x y : Int) : Int := x.fdiv (2 ^ min y.toNat k.bits)

def intV (wr : Bool) (op : BinOp) (k : IntKind) (a b : Int) : Option (List Prop × Value) :=
  match op with
  | .add => match wr with | true => some ([], .int k (k.wrap (a + b))) | false => some ([InR k (a + b)], .int k (a + b))
  | .sub => match wr with | true => some ([], .int k (k.wrap (a - b))) | false => some ([InR k (a - b)], .int k (a - b))
  | .mul => match wr with | true => some ([], .int k (k.wrap (a * b))) | false => some ([InR k (a * b)], .int k (a * b))
  | .quo => some ([b ≠ 0, InR k (a.tdiv b)], .int k (a.tdiv b))
  | .rem => some ([b ≠ 0, InR k (a.tmod b)], .int k (a.tmod b))
  | .and => some ([], .int k (bitsV .and k a b))
  | .or => some ([], .int k (bitsV .or k a b))
  | .xor => some ([], .int k (bitsV .xor k a b))
  | .andNot => some ([], .int k (bitsV .andNot k a b))
  | .eql => some ([], .bool (a == b))
  | .neq => some ([], .bool (a != b))
  | .lss => some ([], .bool (decide (a < b)))
  | .leq => some ([], .bool (decide (a ≤ b)))
  | .gtr => some ([], .bool (decide (a > b)))
  | .geq => some ([], .bool (decide (a ≥ b)))
  | .shl => some ([0 ≤ b], .int k (shlV k a b))
  | .shr => some ([0 ≤ b, InR k (shrV k a b)], .int k (shrV k a b))

def strV (op : BinOp) (a b : ByteArray) : Option (List Prop × Value) :=
  match op with
  | .add => some ([a.size + b.size ≤ maxLen], .string (a ++ b))
  | .eql => some ([], .bool (a.toList == b.toList))
  | .neq => some ([], .bool (!(a.toList == b.toList)))
  | .lss => some ([], .bool (Op.bytesLess a.toList b.toList))
  | .leq => some ([], .bool (Op.bytesLess a.toList b.toList || a.toList == b.toList))
  | .gtr => some ([], .bool (!(Op.bytesLess a.toList b.toList || a.toList == b.toList)))
  | .geq => some ([], .bool (!Op.bytesLess a.toList b.toList))
  | _ => none

def binV (wr : Bool) (op : BinOp) : Value → Value → Option (List Prop × Value)
  | .int k a, .int k' b => match op with
    | .shl => intV wr .shl k a b
    | .shr => intV wr .shr k a b
    | op => if k = k' then intV wr op k a b else none
  | .string a, .string b => strV op a b
  | _, _ => none

section
variable {P : Program} {w : World}

theorem intV_run {wr : Bool} {op : BinOp} {k k' : IntKind} {a b : Int} {cs : List Prop} {r : Value} (h : intV wr op k a b = some (cs, r)) (hc : All cs) (hk : k = k' ∨ op = .shl ∨ op = .shr) (T : TypeId) :
    (binOp op T (.int k a) (.int k' b)).run P w = .ok r w ∧ OkV r := by
  unfold intV at h
  cases op <;> simp only at h
  case add => cases wr <;> cases h <;> (obtain rfl := hk.resolve_right (by simp)) <;> simp_all [binOp, Op.intArith, OkV, wrap_inR, All, wrap_of_inR]
  case sub => cases wr <;> cases h <;> (obtain rfl := hk.resolve_right (by simp)) <;> simp_all [binOp, Op.intArith, OkV, wrap_inR, All, wrap_of_inR]
  case mul => cases wr <;> cases h <;> (obtain rfl := hk.resolve_right (by simp)) <;> simp_all [binOp, Op.intArith, OkV, wrap_inR, All, wrap_of_inR]
  case quo => cases h; obtain rfl := hk.resolve_right (by simp); simp only [All] at hc; simp [binOp, Op.intDiv, OkV, hc.1, hc.2.1, wrap_of_inR]
  case rem => cases h; obtain rfl := hk.resolve_right (by simp); simp only [All] at hc; simp [binOp, Op.intDiv, OkV, hc.1, hc.2.1]
  case and => cases h; obtain rfl := hk.resolve_right (by simp); simp [binOp, Op.intBits, OkV, bitsV, wrap_inR]
  case or => cases h; obtain rfl := hk.resolve_right (by simp); simp [binOp, Op.intBits, OkV, bitsV, wrap_inR]
  case xor => cases h; obtain rfl := hk.resolve_right (by simp); simp [binOp, Op.intBits, OkV, bitsV, wrap_inR]
  case andNot => cases h; obtain rfl := hk.resolve_right (by simp); simp [binOp, Op.intBits, OkV, bitsV, wrap_inR]
  case shl => cases h; simp only [All] at hc; have h0 : ¬ b < 0 := (by omega); simp [binOp, Op.shift, OkV, shlV, wrap_inR, h0]
  case shr => cases h; simp only [All] at hc; have h0 : ¬ b < 0 := (by omega); simp [binOp, Op.shift, OkV, shrV, h0]; exact hc.2.1
  all_goals cases h; obtain rfl := hk.resolve_right (by simp); simp [binOp, Op.intCmp, OkV]

theorem strV_run {op : BinOp} {a b : ByteArray} {cs : List Prop} {r : Value} (h : strV op a b = some (cs, r)) (hc : All cs) (T : TypeId) :
    (binOp op T (.string a) (.string b)).run P w = .ok r w ∧ OkV r := by
  unfold strV at h
  cases op <;> simp only at h <;> first | (cases h; done) | cases h
  case add =>
    simp only [All] at hc
    have h0 : ¬ ((a.size + b.size : Nat) : Int) > 9223372036854775807 := by have := hc.1; unfold maxLen at this; omega
    have h1 : ¬ (9223372036854775807 : Int) < (a.size : Int) + (b.size : Int) := by omega
    simp [binOp, Op.stringOp, h1, OkV]
    exact hc.1
  all_goals simp [binOp, Op.stringOp, OkV]

theorem binV_run {wr : Bool} {op : BinOp} {u v : Value} {cs : List Prop} {r : Value} (h : binV wr op u v = some (cs, r)) (hc : All cs) (T : TypeId) (x y : Operand) :
    (do eqGuard op T x y u v; binOp op T u v : Sem Value).run P w = .ok r w ∧ OkV r := by
  unfold binV at h
  split at h
  · rename_i k a k' b
    rw [eqGuard_at_int]
    simp only [Sem.run_bind, Sem.run_pure, Result.andThen_ok]
    split at h
    · exact intV_run h hc (.inr (.inl rfl)) T
    · exact intV_run h hc (.inr (.inr rfl)) T
    · by_cases hk : k = k'
      · rw [if_pos hk] at h; exact intV_run h hc (.inl hk) T
      · rw [if_neg hk] at h; cases h
  · rw [eqGuard_at_string]
    simp only [Sem.run_bind, Sem.run_pure, Result.andThen_ok]
    exact strV_run h hc T
  · cases h
end

/-! ### Operands -/

def okC : Value → Bool
  | .int k n => decide (k.min ≤ n) && decide (n ≤ k.max)
  | .string s => Nat.ble s.size 1048576
  | .slice none n c => Nat.beq n 0 && Nat.beq c 0
  | .bool _ => true
  | _ => false

theorem okC_ok {v : Value} (h : okC v = true) : OkV v := by
  unfold okC at h
  split at h
  · simp at h; exact h
  · simp at h; simp only [OkV, maxLen]; omega
  · simp at h; exact h
  · trivial
  · cases h

def opnd (E : Env) : Operand → PV
  | .tmp t => E.get t
  | .const v => match okC v with | true => .a (.val v) | false => .a .junk
  | .func f => .fn f []
  | .global _ => .a .junk

section
variable {n : Nat} {w0 w : World} {O : List Nat} {a : Act} {E : Env} {L : Heap} {V : Nat → Value} {own : Nat → List Nat}

theorem RelV.opnd (h : RelV n w0 O w a E L V own) (x : Operand) : RepP w0 (Good w0 O) L V (opnd E x) (a.eval x) := by
  cases x with
  | tmp t => exact h.env t
  | const v =>
    simp only [Am.opnd]
    cases hc : okC v with
    | true => exact ⟨rfl, okC_ok hc⟩
    | false => trivial
  | func f => exact ⟨[], rfl, rfl⟩
  | global g => trivial

theorem RelV.atom (h : RelV n w0 O w a E L V own) {x : Operand} {A : Atom} (hx : Am.opnd E x = .a A) : RepA w0 (Good w0 O) L V A (a.eval x) := by
  have := h.opnd x
  rw [hx] at this
  exact this

theorem RelV.valEq (h : RelV n w0 O w a E L V own) {x : Operand} {v : Value} (hx : Am.opnd E x = .a (.val v)) : a.eval x = v ∧ OkV v := h.atom hx

end
end Go.Am

/- The abstract machine, part 5: what the reading operations yield. -/
namespace Go.Am
set_option linter.unusedVariables false
set_option linter.unusedSimpArgs false

/-! ### Parts of trees -/

theorem fldD_own {w : World} : ∀ {t : Ty} {x : t.den} {n : Nat} {d : Dyn} {cs : List Value} {bs : List Nat}, fldD t x n = some d → OwnC w t x cs bs →
    ∃ o bs', fldOff t n = some (o, d.t) ∧ OwnC w d.t d.x ((cs.drop o).take d.t.size) bs' ∧ o + d.t.size ≤ cs.length ∧ ∀ b ∈ bs', b ∈ bs
  | .cons a b, x, 0, d, cs, bs, h, hr => by
    obtain ⟨c1, c2, b1, b2, rfl, rfl, h1, h2⟩ := hr
    cases h
    refine ⟨0, b1, rfl, ?_, by rw [List.length_append, h1.length]; simp, fun b hb => List.mem_append_left _ hb⟩
    simp only [List.drop_zero]
    rw [← h1.length, List.take_left]
    exact h1
  | .cons a b, x, n + 1, d, cs, bs, h, hr => by
    obtain ⟨c1, c2, b1, b2, rfl, rfl, h1, h2⟩ := hr
    obtain ⟨o, bs', ho, hro, hl, hb⟩ := fldD_own (t := b) h h2
    refine ⟨a.size + o, bs', by simp [fldOff, ho], ?_, by rw [List.length_append, h1.length]; omega, fun b hb' => List.mem_append_right _ (hb b hb')⟩
    rw [← h1.length, List.drop_append, List.drop_of_length_le (by omega), List.nil_append, Nat.add_sub_cancel_left]
    exact hro
  | .int _, _, _, _, _, _, h, _ => by cases h
  | .bool, _, _, _, _, _, h, _ => by cases h
  | .str, _, _, _, _, _, h, _ => by cases h
  | .sl _, _, _, _, _, _, h, _ => by cases h
  | .unit, _, _, _, _, _, h, _ => by cases h

theorem take_drop_sub {α : Type} (l : List α) (o n o' n' : Nat) (h : o' + n' ≤ n) : (((l.drop o).take n).drop o').take n' = (l.drop (o + o')).take n' := by
  rw [List.drop_take, List.take_take, List.drop_drop]
  congr 1
  omega

theorem pathD_own {w : World} : ∀ {p : List Nat} {d0 d : Dyn} {cs : List Value} {bs : List Nat}, pathD p d0 = some d → OwnC w d0.t d0.x cs bs →
    ∃ o bs', pathOff p d0.t = some (o, d.t) ∧ OwnC w d.t d.x ((cs.drop o).take d.t.size) bs' ∧ o + d.t.size ≤ cs.length ∧ ∀ b ∈ bs', b ∈ bs
  | [], d0, d, cs, bs, h, hr => by
    cases h
    refine ⟨0, bs, rfl, ?_, by rw [hr.length]; simp, fun _ h => h⟩
    rw [List.drop_zero, ← hr.length, List.take_length]
    exact hr
  | f :: p, d0, d, cs, bs, h, hr => by
    simp only [pathD] at h
    split at h
    · rename_i d1 h1
      obtain ⟨o1, b1, ho1, hr1, hl1, hb1⟩ := fldD_own h1 hr
      obtain ⟨o2, b2, ho2, hr2, hl2, hb2⟩ := pathD_own h hr1
      have hl2' : o2 + d.t.size ≤ d1.t.size := by
        rw [hr1.length] at hl2; exact hl2
      refine ⟨o1 + o2, b2, by simp [pathOff, ho1, ho2], ?_, by omega, fun b hb => hb1 b (hb2 b hb)⟩
      rw [take_drop_sub _ _ _ _ _ hl2'] at hr2
      exact hr2
    · cases h

theorem pathD_rep {w : World} {G : Nat → Prop} : ∀ {p : List Nat} {d0 d : Dyn} {cs : List Value}, pathD p d0 = some d → RepC w G d0.t d0.x cs →
    ∃ o, pathOff p d0.t = some (o, d.t) ∧ RepC w G d.t d.x ((cs.drop o).take d.t.size) ∧ o + d.t.size ≤ cs.length
  | [], d0, d, cs, h, hr => by
    cases h
    refine ⟨0, rfl, ?_, by rw [hr.length]; simp⟩
    rw [List.drop_zero, ← hr.length, List.take_length]
    exact hr
  | f :: p, d0, d, cs, h, hr => by
    simp only [pathD] at h
    split at h
    · rename_i d1 h1
      obtain ⟨o1, ho1, hr1, hl1⟩ := fldD_spec h1 hr
      obtain ⟨o2, ho2, hr2, hl2⟩ := pathD_rep h hr1
      have hl2' : o2 + d.t.size ≤ d1.t.size := by
        rw [hr1.length] at hl2; exact hl2
      refine ⟨o1 + o2, by simp [pathOff, ho1, ho2], ?_, by omega⟩
      rw [take_drop_sub _ _ _ _ _ hl2'] at hr2
      exact hr2
    · cases h

/-! ### The pieces of the evaluator -/

def loadA (L : Heap) (t : Ty) : Atom → Option Atom
  | .ptr t' x => match decide (t' = t) with | true => some (toAtom t' x) | false => none
  | .optr r i p => match hget L r with
    | some A => match pathD p ⟨A.t, A.xs.getD i A.t.dflt⟩ with
      | some d => match decide (d.t = t) && (A.bor || d.t.flat) with | true => some d.atom | false => none
      | none => none
    | none => none
  | _ => none

def fldAddrA (L : Heap) (t : Ty) (f : Nat) : Atom → Option Atom
  | .ptr t' x => match decide (t' = t) with
    | true => match fldD t' x f with | some d => some (.ptr d.t d.x) | none => none
    | false => none
  | .optr r i p => match hget L r with
    | some A => match pathOff p A.t with
      | some (_, t') => match decide (t' = t) with
        | true => match fldOff t' f with | some _ => some (.optr r i (p ++ [f])) | none => none
        | false => none
      | none => none
    | none => none
  | _ => none

def fieldA (t : Ty) (f : Nat) : Atom → Option Atom
  | .st t' x => match decide (t' = t) with
    | true => match fldD t' x f with | some d => some d.atom | none => none
    | false => none
  | _ => none

def byteAt (s : ByteArray) (i : Int) : Int := ((s.data.toList.getD i.toNat 0).toNat : Int)

def idxAddrA (L : Heap) (t : Ty) (n : Int) : Atom → Option (List Prop × Atom)
  | .sl t' xs => match decide (t' = t) with
    | true => some ([0 ≤ n, n < (xs.length : Int)], .ptr t' (xs.getD n.toNat t'.dflt))
    | false => none
  | .osl r rg => match hget L r with
    | some A => match decide (A.t = t) with
      | true => match rg with
        | none => some ([0 ≤ n, n < (A.xs.length : Int)], .optr r n.toNat [])
        | some (lo, hi) => some ([0 ≤ n, n < ((hi - lo : Nat) : Int)], .optr r (lo + n.toNat) [])
      | false => none
    | none => none
  | _ => none

def lenA (L : Heap) : Atom → Option Int
  | .val (.string s) => some (s.size : Int)
  | .val (.slice none _ _) => some 0
  | .sl _ xs => some (xs.length : Int)
  | .osl r rg => match hget L r with
    | some A => match rg with
      | none => some (A.xs.length : Int)
      | some (lo, hi) => some ((hi - lo : Nat) : Int)
    | none => none
  | _ => none

section
variable {P : Program} {n : Nat} {w0 w : World} {O : List Nat} {a : Act} {E : Env} {L : Heap} {V : Nat → Value} {own : Nat → List Nat}

/-- What is borrowed stays. -/
theorem RelV.keepG (h : RelV n w0 O w a E L V own) {w' : World} (k : Kept [] w w') : ∀ b, Good w0 O b → w'.heap[b]? = w0.heap[b]? :=
  (h.kept.trans k.of_nil).good

theorem CellsAt.keep {w w' : World} {b off : Nat} {cs : List Value} (hb : w'.heap[b]? = w.heap[b]?) (h : CellsAt w b off cs) : CellsAt w' b off cs :=
  fun j c hj => by rw [World.cell?_of_block (w := w) hb]; exact h j c hj

/-- The element i of an owned array, its cells in memory. -/
theorem own_elem {A : Arr} {G : Nat → Prop} {v : Value} {bs : List Nat} {b off m cap : Nat} (h : EntC w0 G w A v bs) (hv : v = .slice (some ⟨b, off, none⟩) m cap) {i : Nat} {x : A.t.den} (hx : A.xs[i]? = some x) :
    ∃ cs bi, CellsAt w b (off + i * A.t.size) cs ∧ entR w0 G w A.t A.bor x cs bi ∧ (∀ k ∈ bi, k ∈ bs) ∧ b ∈ bs := by
  rcases h.2 with ⟨_, _, h0, _⟩ | ⟨b', off', cap', cur, ty, fz, bss, h1, h2, h3, h4, h5, h6, h7, h8, h9⟩
  · rw [h0] at hx; cases hx
  · rw [h1] at hv
    cases hv
    have hlt : i < bss.length := by rw [h7]; exact (List.getElem?_eq_some_iff.1 hx).1
    obtain ⟨cs, hl, hc, hr⟩ := h9 i x _ hx (List.getElem?_eq_getElem hlt)
    refine ⟨cs, _, fun j c hj => ?_, hr, fun k hk => by rw [h8]; exact List.mem_cons_of_mem _ (mem_flatten_of_get (List.getElem?_eq_getElem hlt) k hk), by rw [h8]; exact List.mem_cons_self ..⟩
    simp only [World.cell?, h5]
    exact hc j c hj

theorem getD_of_lt {α : Type} (xs : List α) (i : Nat) (d : α) (h : i < xs.length) : xs[i]? = some (xs.getD i d) := by
  rw [List.getD_eq_getElem?_getD, List.getElem?_eq_getElem h]; rfl

theorem CellsAt.sub {w : World} {b off : Nat} {cs : List Value} (h : CellsAt w b off cs) (o m : Nat) : CellsAt w b (off + o) ((cs.drop o).take m) := fun j c hj => by
  rw [List.getElem?_take] at hj
  split at hj
  · rw [List.getElem?_drop] at hj
    rw [Nat.add_assoc]
    exact h _ _ hj
  · cases hj

theorem repA_toAtom {G : Nat → Prop} {t : Ty} {x : t.den} {v : Value} (h : RepB w0 G (toAtom t x) v) : RepA w0 G L V (toAtom t x) v := by
  cases t <;> exact h

theorem loadA_spec (hR : RelV n w0 O w a E L V own) {T : TypeId} {t : Ty} (hT : TyOk P T t) {A A' : Atom} {u : Value} (hu : RepA w0 (Good w0 O) L V A u) (h : loadA L t A = some A') :
    ∃ v, RepA w0 (Good w0 O) L V A' v ∧ ∀ w', Kept [] w w' → (Instr.loadAt T u).run P w' = .ok v w' := by
  unfold loadA at h
  split at h
  · rename_i t' x
    split at h
    · rename_i ht
      obtain rfl := of_decide_eq_true ht
      cases h
      obtain ⟨b, off, cs, rfl, hb, hc, hr⟩ := hu
      refine ⟨valOf t' cs, repA_toAtom hr.repB, fun w' k => ?_⟩
      · unfold Instr.loadAt Instr.sureAddr
        simp only [Sem.run_bind, Sem.run_pure, Result.andThen_ok]
        exact loadVar_run hT hr.length (hc.keep (hR.keepG k b hb))
    · cases h
  · rename_i r i p
    split at h
    · rename_i B hB
      split at h
      · rename_i d hd
        split at h
        · rename_i hdt
          simp only [Bool.and_eq_true, decide_eq_true_eq] at hdt
          obtain ⟨hdt, hfl⟩ := hdt
          cases h
          obtain ⟨B', hB', hi, b, off, m, cap, po, t', hv, hp, rfl⟩ := hu
          rw [hB] at hB'; cases hB'
          have hown := hR.heap r B hB
          obtain ⟨cs, bi, hc, ho, hsub, hb⟩ := own_elem hown hv (getD_of_lt B.xs i B.t.dflt hi)
          have hrep : RepC w0 (Good w0 O) d.t d.x ((cs.drop po).take d.t.size) ∧ t' = d.t := by
            revert ho hfl
            unfold entR
            cases hbor : B.bor with
            | true =>
              intro hfl ho
              obtain ⟨o, ho1, ho2, ho3⟩ := pathD_rep hd ho.1
              rw [hp] at ho1; cases ho1
              exact ⟨ho2, rfl⟩
            | false =>
              intro hfl ho
              obtain ⟨o, bs', ho1, ho2, ho3, ho4⟩ := pathD_own hd ho
              rw [hp] at ho1; cases ho1
              exact ⟨(ho2.flat (w' := w0) (G := Good w0 O) (by simpa using hfl)).1, rfl⟩
          obtain ⟨hrep, rfl⟩ := hrep
          have hblt : b < w.heap.size := hown.lt b hb
          refine ⟨valOf d.t ((cs.drop po).take d.t.size), repA_toAtom hrep.repB, fun w' k => ?_⟩
          · unfold Instr.loadAt Instr.sureAddr
            simp only [Sem.run_bind, Sem.run_pure, Result.andThen_ok]
            subst hdt
            exact loadVar_run hT hrep.length ((hc.sub po _).keep (k.block b hblt (by simp)))
        · cases h
      · cases h
    · cases h
  · cases h

theorem pathOff_snoc : ∀ {p : List Nat} {t t' t'' : Ty} {o o' f : Nat}, pathOff p t = some (o, t') → fldOff t' f = some (o', t'') → pathOff (p ++ [f]) t = some (o + o', t'')
  | [], t, t', t'', o, o', f, h, h2 => by cases h; simp [pathOff, h2]
  | g :: p, t, t', t'', o, o', f, h, h2 => by
    simp only [pathOff] at h
    split at h
    · rename_i o1 t1 h1
      split at h
      · rename_i o2 t2 h3
        cases h
        have := pathOff_snoc h3 h2
        simp [pathOff, h1, this, Nat.add_assoc]
      · cases h
    · cases h

theorem fldAddrA_spec {S : TypeId} {t : Ty} (hS : TIOk P S (.struct t)) {f : Nat} {A A' : Atom} {u : Value} (hu : RepA w0 (Good w0 O) L V A u) (h : fldAddrA L t f A = some A') :
    ∃ v, RepA w0 (Good w0 O) L V A' v ∧ ∀ w', (Instr.fieldAt S u f).run P w' = .ok v w' := by
  unfold fldAddrA at h
  split at h
  · rename_i t' x
    split at h
    · rename_i ht
      obtain rfl := of_decide_eq_true ht
      split at h
      · rename_i d hd
        cases h
        obtain ⟨b, off, cs, rfl, hb, hc, hr⟩ := hu
        obtain ⟨o, ho, hr', hl⟩ := fldD_spec hd hr
        exact ⟨_, ⟨b, off + o, _, rfl, hb, hc.sub o _, hr'⟩, fun w' => fieldAt_run hS ho b off⟩
      · cases h
    · cases h
  · rename_i r i p
    split at h
    · rename_i B hB
      split at h
      · rename_i po t' hp
        split at h
        · rename_i ht
          obtain rfl := of_decide_eq_true ht
          split at h
          · rename_i y hy
            obtain ⟨o', t''⟩ := y
            cases h
            obtain ⟨B', hB', hi, b, off, m, cap, po', t2, hv, hp', rfl⟩ := hu
            rw [hB] at hB'; cases hB'
            rw [hp] at hp'; cases hp'
            refine ⟨_, ⟨B, hB, hi, b, off, m, cap, po + o', t'', hv, pathOff_snoc hp hy, rfl⟩, fun w' => ?_⟩
            have := fieldAt_run (P := P) (w := w') hS hy b (off + i * B.t.size + po)
            rw [this]
            simp [Nat.add_assoc]
          · cases h
        · cases h
      · cases h
    · cases h
  · cases h

theorem fieldA_spec {S : TypeId} {t : Ty} (hS : TIOk P S (.struct t)) {f : Nat} {A A' : Atom} {u : Value} (hu : RepA w0 (Good w0 O) L V A u) (h : fieldA t f A = some A') :
    ∃ v, RepA w0 (Good w0 O) L V A' v ∧ ∀ w', (Instr.field S u f).run P w' = .ok v w' := by
  unfold fieldA at h
  split at h
  · rename_i t' x
    split at h
    · rename_i ht
      obtain rfl := of_decide_eq_true ht
      split at h
      · rename_i d hd
        cases h
        obtain ⟨cs, rfl, hr⟩ := hu
        obtain ⟨o, ho, hr', hl⟩ := fldD_spec hd hr
        exact ⟨valOf d.t ((cs.drop o).take d.t.size), repA_toAtom hr'.repB, fun w' => field_run hS ho cs hl⟩
      · cases h
    · cases h
  · cases h

theorem idxAddrA_spec {T e : TypeId} {t : Ty} {by' : Nat} (hT : TIOk P T (.slice e t by')) {k : IntKind} {i : Int} {A A' : Atom} {cs : List Prop} {u : Value} (hu : RepA w0 (Good w0 O) L V A u)
    (h : idxAddrA L t i A = some (cs, A')) (hc : All cs) :
    ∃ v, RepA w0 (Good w0 O) L V A' v ∧ ∀ w', (Instr.indexAt T u (.int k i)).run P w' = .ok v w' := by
  unfold idxAddrA at h
  split at h
  · rename_i t' xs
    split at h
    · rename_i ht
      obtain rfl := of_decide_eq_true ht
      cases h
      simp only [All] at hc
      obtain ⟨h0, h1, _⟩ := hc
      rcases hu.2 with ⟨_, _, rfl⟩ | ⟨b, off, cap, rfl, _, _, hb, hx⟩
      · simp at h1; omega
      · have hlt : i.toNat < xs.length := by omega
        obtain ⟨cs, hl, hc, hr⟩ := hx i.toNat _ (getD_of_lt xs i.toNat t'.dflt hlt)
        exact ⟨_, ⟨b, off + i.toNat * t'.size, cs, rfl, hb, hc, hr⟩, fun w' => indexAt_run hT b off _ cap h0 h1⟩
    · cases h
  · rename_i r rg
    split at h
    · rename_i B hB
      split at h
      · rename_i ht
        have ht := of_decide_eq_true ht
        obtain ⟨B', hB', _, hs1, hs2, hs3⟩ := hu
        rw [hB] at hB'; cases hB'
        have key : ∀ (lo hi : Nat), rgLo rg = lo → rgHi B.xs.length rg = hi → 0 ≤ i → i < ((hi - lo : Nat) : Int) →
            ∃ v, RepA w0 (Good w0 O) L V (.optr r (lo + i.toNat) []) v ∧ ∀ w', (Instr.indexAt T u (.int k i)).run P w' = .ok v w' := by
          intro lo hi hlo hhi h0 h1
          rw [hlo, hhi] at hs1 hs3
          rw [hhi] at hs2
          rcases hs3 with ⟨_, _, _, _, h3⟩ | ⟨b, off, m, cap, o, c, hv, rfl, hle, hcase⟩
          · omega
          · have hcase := (hcase.resolve_right (by omega)).1
            subst hcase
            subst ht
            refine ⟨_, ⟨B, hB, by omega, b, off, m, cap, 0, B.t, hv, rfl, rfl⟩, fun w' => ?_⟩
            rw [indexAt_run hT b (off + lo * B.t.size) (hi - lo) c h0 h1, Nat.add_zero, Nat.add_mul, Nat.add_assoc]
        split at h
        · cases h
          simp only [All] at hc
          have := key 0 B.xs.length rfl rfl hc.1 (by simpa using hc.2.1)
          rwa [Nat.zero_add] at this
        · cases h
          simp only [All] at hc
          exact key _ _ rfl rfl hc.1 hc.2.1
      · cases h
    · cases h
  · cases h
end
end Go.Am

/- The abstract machine, part 6: slices, lengths, strings, conversions, structs built in place. -/
namespace Go.Am
set_option linter.unusedVariables false
set_option linter.unusedSimpArgs false

/-! ### Slicing -/

def optV : Option (IntKind × Int) → Option Value
  | none => none
  | some (k, n) => some (.int k n)

def optI : Option (IntKind × Int) → Option Int
  | some (_, n) => some n
  | none => none

theorem sliceBounds_run {P : Program} {w : World} (isS : Bool) (len cap : Nat) (lo hi : Option (IntKind × Int)) (hlc : len ≤ cap) {l h : Int}
    (hl : l = (optI lo).getD 0) (hh : h = (optI hi).getD len) (h0 : 0 ≤ l) (h1 : l ≤ h) (h2 : h ≤ len) :
    (Instr.sliceBounds isS len cap (optV lo) (optV hi) none).run P w = .ok (l.toNat, h.toNat, cap) w := by
  have hcap : h ≤ (cap : Int) := by omega
  unfold Instr.sliceBounds
  cases lo with
  | none => cases hi with
    | none => simp only [optI, Option.getD] at hl hh; subst hl hh; simp [optV]
    | some y =>
      obtain ⟨k, m⟩ := y
      simp only [optI, Option.getD] at hl hh
      subst hl hh
      simp [optV, run_sliceBound (P := P) w k h cap _ h1 hcap]
  | some x =>
    obtain ⟨k, m⟩ := x
    simp only [optI, Option.getD] at hl
    subst hl
    cases hi with
    | none =>
      simp only [optI, Option.getD] at hh
      subst hh
      simp [optV, run_sliceBound (P := P) w k l len _ h0 h1]
    | some y =>
      obtain ⟨k', m'⟩ := y
      simp only [optI, Option.getD] at hh
      subst hh
      have e : (h.toNat : Int) = h := by omega
      simp [optV, run_sliceBound (P := P) w k' h cap _ (by omega) hcap, run_sliceBound (P := P) w k l h.toNat _ h0 (by omega)]

/-- The conditions of a slice expression, and its two bounds. -/
def bounds (len : Int) : Option Int → Option Int → List Prop × Int × Int
  | none, none => ([], 0, len)
  | some l, none => ([0 ≤ l, l ≤ len], l, len)
  | none, some h => ([0 ≤ h, h ≤ len], 0, h)
  | some l, some h => ([0 ≤ l, l ≤ h, h ≤ len], l, h)

def subL {α : Type} (xs : List α) : Option Int → Option Int → List α
  | none, none => xs
  | some l, none => xs.drop l.toNat
  | none, some h => xs.take h.toNat
  | some l, some h => (xs.take h.toNat).drop l.toNat

def sliceA (L : Heap) (lo hi : Option Int) : Atom → Option (List Prop × Atom)
  | .val (.string s) => match bounds s.size lo hi with
    | (cs, l, h) => some (cs, .val (.string (s.extract l.toNat h.toNat)))
  | .sl t xs => match bounds xs.length lo hi with
    | (cs, _, _) => some (cs, .sl t (subL xs lo hi))
  | .osl r rg => match hget L r with
    | some A => match bounds ((rgHi A.xs.length rg - rgLo rg : Nat) : Int) lo hi with
      | (cs, l, h) => some (cs, .osl r (some (rgLo rg + l.toNat, rgLo rg + h.toNat)))
    | none => none
  | _ => none

theorem bounds_ok {len : Nat} {lo hi : Option Int} {cs : List Prop} {l h : Int} (hb : bounds len lo hi = (cs, l, h)) (hc : All cs) :
    0 ≤ l ∧ l ≤ h ∧ h ≤ len ∧ l = lo.getD 0 ∧ h = hi.getD len := by
  unfold bounds at hb
  split at hb <;> cases hb <;> simp_all [All]

theorem subL_get {α : Type} {xs : List α} {lo hi : Option Int} {cs : List Prop} {l h : Int} (hb : bounds xs.length lo hi = (cs, l, h)) (hc : All cs) :
    (subL xs lo hi).length = h.toNat - l.toNat ∧ ∀ i y, (subL xs lo hi)[i]? = some y → xs[l.toNat + i]? = some y := by
  obtain ⟨h0, h1, h2, hl, hh⟩ := bounds_ok hb hc
  unfold subL
  split <;> simp only [Option.getD] at hl hh <;> subst hl hh
  · refine ⟨?_, fun i y hy => ?_⟩ <;> simp_all
  · refine ⟨by simp <;> omega, fun i y hy => by rw [List.getElem?_drop] at hy; exact hy⟩
  · refine ⟨by simp <;> omega, fun i y hy => ?_⟩
    rw [List.getElem?_take] at hy
    split at hy
    · simpa using hy
    · cases hy
  · refine ⟨by simp <;> omega, fun i y hy => ?_⟩
    rw [List.getElem?_drop, List.getElem?_take] at hy
    split at hy
    · exact hy
    · cases hy

section
variable {P : Program} {n : Nat} {w0 w : World} {O : List Nat} {a : Act} {E : Env} {L : Heap} {V : Nat → Value} {own : Nat → List Nat}

theorem sliceAt_slice_run {T e : TypeId} {t : Ty} {by' : Nat} (hT : TIOk P T (.slice e t by')) (w : World) (adr : Option Addr) (len cap : Nat) (lo hi : Option (IntKind × Int)) (hlc : len ≤ cap) {l h : Int}
    (hl : l = (optI lo).getD 0) (hh : h = (optI hi).getD len) (h0 : 0 ≤ l) (h1 : l ≤ h) (h2 : h ≤ len) :
    (Instr.sliceAt T (.slice adr len cap) (optV lo) (optV hi) none).run P w = .ok (.slice (if cap = l.toNat then adr else adr.map (·.add (l.toNat * t.size))) (h.toNat - l.toNat) (cap - l.toNat)) w := by
  obtain ⟨_, hu, he, _⟩ := hT
  have hb := sliceBounds_run (P := P) (w := w) true len cap lo hi hlc hl hh h0 h1 h2
  unfold Instr.sliceAt Instr.slice
  simp only [Sem.run_bind, run_underlying hu, Result.andThen_ok, hb, he.size_run, Sem.run_pure]

theorem sliceAt_string_run {T : TypeId} (hT : TyOk P T .str) (w : World) (s : ByteArray) (lo hi : Option (IntKind × Int)) {l h : Int}
    (hl : l = (optI lo).getD 0) (hh : h = (optI hi).getD s.size) (h0 : 0 ≤ l) (h1 : l ≤ h) (h2 : h ≤ s.size) :
    (Instr.sliceAt T (.string s) (optV lo) (optV hi) none).run P w = .ok (.string (s.extract l.toNat h.toNat)) w := by
  obtain ⟨d, hd, hf⟩ := hT.und
  have hd' : d = .string := by cases d <;> simp [descFits] at hf; rfl
  subst hd'
  have hb := sliceBounds_run (P := P) (w := w) false s.size s.size lo hi (Nat.le_refl _) hl hh h0 h1 h2
  unfold Instr.sliceAt Instr.slice
  simp [run_underlying hd, hb]

theorem extract_size_le (s : ByteArray) (l h : Nat) : (s.extract l h).size ≤ s.size := by
  rw [ByteArray.size_extract]; omega

theorem rgLo_some (x y : Nat) : rgLo (some (x, y)) = x := rfl
theorem rgHi_some (n x y : Nat) : rgHi n (some (x, y)) = y := rfl

def SlTy (L : Heap) (ti : TI) : Atom → Prop
  | .sl t _ => ∃ e b, ti = .slice e t b
  | .osl r _ => ∃ B, hget L r = some B ∧ ∃ e b, ti = .slice e B.t b
  | .val (.string _) => ti = .scal .str
  | _ => True

def LenTy (ti : TI) : Atom → Prop
  | .val (.string _) => ti = .scal .str
  | _ => ∃ e t b, ti = .slice e t b

theorem sliceA_spec {T : TypeId} {ti : TI} (hT : TIOk P T ti) (hok : (∃ e t b, ti = .slice e t b) ∨ ti = .scal .str) {lo hi : Option (IntKind × Int)} {A A' : Atom} {cs : List Prop} {u : Value} (hu : RepA w0 (Good w0 O) L V A u)
    (hty : SlTy L ti A)
    (h : sliceA L (optI lo) (optI hi) A = some (cs, A')) (hc : All cs) :
    ∃ v, RepA w0 (Good w0 O) L V A' v ∧ ∀ w', (Instr.sliceAt T u (optV lo) (optV hi) none).run P w' = .ok v w' := by
  unfold sliceA at h
  split at h
  · rename_i s
    simp only [SlTy, LenTy] at hty
    subst hty
    split at h
    rename_i cs' l h' hb
    cases h
    obtain ⟨h0, h1, h2, hl, hh⟩ := bounds_ok hb hc
    obtain ⟨rfl, hs⟩ := hu
    exact ⟨_, ⟨rfl, Nat.le_trans (extract_size_le _ _ _) hs⟩, fun w' => sliceAt_string_run hT w' s lo hi hl hh h0 h1 h2⟩
  · rename_i t xs
    obtain ⟨e, b, rfl⟩ := hty
    split at h
    rename_i cs' l h' hb
    cases h
    obtain ⟨h0, h1, h2, hl, hh⟩ := bounds_ok hb hc
    obtain ⟨hlen, hget⟩ := subL_get hb hc
    rcases hu.2 with ⟨ad, rfl, rfl⟩ | ⟨b', off, cap, rfl, h3, h4, h5, h6⟩
    · refine ⟨.slice ad 0 0, ⟨by rw [hlen]; simp at h2; unfold maxLen; omega, .inl ⟨ad, rfl, List.eq_nil_of_length_eq_zero (by rw [hlen]; simp at h2; omega)⟩⟩, fun w' => ?_⟩
      simp at h2
      have e0 : l = 0 := by omega
      have e1 : h' = 0 := by omega
      subst e0 e1
      rw [sliceAt_slice_run hT w' ad 0 0 lo hi (Nat.le_refl _) hl hh h0 h1 h2]
      rfl
    · refine ⟨_, ⟨?_, .inr ⟨b', if cap = l.toNat then off else off + l.toNat * t.size, cap - l.toNat, rfl, ?_, ?_, h5, ?_⟩⟩, fun w' => ?_⟩
      · have := hu.1; rw [hlen]; omega
      · rw [hlen]; omega
      · omega
      · intro i y hy
        have hi : i < h'.toNat - l.toNat := by rw [← hlen]; exact (List.getElem?_eq_some_iff.1 hy).1
        obtain ⟨cs, hl', hc', hr'⟩ := h6 _ y (hget i y hy)
        refine ⟨cs, hl', fun j c hj => ?_, hr'⟩
        rw [if_neg (by omega)]
        have := hc' j c hj
        rwa [Nat.add_mul, ← Nat.add_assoc] at this
      · rw [sliceAt_slice_run hT w' _ xs.length cap lo hi h3 hl hh h0 h1 h2, hlen]
        by_cases hcl : cap = l.toNat
        · rw [if_pos hcl, if_pos hcl]
        · rw [if_neg hcl, if_neg hcl]; simp [Addr.add_lit]
  · rename_i r rg
    obtain ⟨B, hB, e, b, rfl⟩ := hty
    obtain ⟨B', hB', _, hs1, hs2, hs3⟩ := hu
    rw [hB] at hB'; cases hB'
    rw [hB] at h
    obtain ⟨cs', l, h', hb⟩ : ∃ cs' l h', bounds ((rgHi B.xs.length rg - rgLo rg : Nat) : Int) (optI lo) (optI hi) = (cs', l, h') := ⟨_, _, _, rfl⟩
    simp only [hb] at h
    cases h
    obtain ⟨h0, h1, h2, hl, hh⟩ := bounds_ok hb hc
    rcases hs3 with ⟨ad, ad', hV, rfl, hz⟩ | ⟨b', off, m, cap, o, c, hV, rfl, hle, hcase⟩
    · have e2 : rgHi B.xs.length rg - rgLo rg = 0 := by omega
      rw [e2] at h2 hh
      have e0 : l = 0 := by omega
      have e1 : h' = 0 := by omega
      subst e0 e1
      refine ⟨_, ⟨B, hB, (fun h => by cases h), ?_, ?_, .inl ⟨ad, ad', hV, rfl, hz⟩⟩, fun w' => ?_⟩
      · simp only [rgLo_some, rgHi_some]; simp
      · simp only [rgHi_some]; simp; omega
      · rw [sliceAt_slice_run hT w' ad' 0 0 lo hi (Nat.le_refl _) hl hh h0 h1 h2]
        rfl
    · refine ⟨_, ⟨B, hB, (fun h => by cases h), ?_, ?_, .inr ⟨b', off, m, cap, if c = l.toNat then o else o + l.toNat * B.t.size, c - l.toNat, hV, rfl, ?_, ?_⟩⟩, fun w' => ?_⟩
      · simp only [rgLo_some, rgHi_some]; omega
      · simp only [rgHi_some]; omega
      · simp only [rgLo_some, rgHi_some]; omega
      · by_cases hcl : c = l.toNat
        · right
          refine ⟨by omega, ?_⟩
          rw [if_pos hcl]
          rcases hcase with ⟨ho, hcap⟩ | ⟨_, ho⟩
          · rw [ho]
            exact Nat.add_le_add_left (Nat.mul_le_mul_right _ (by omega)) _
          · exact ho
        · left
          rw [if_neg hcl]
          obtain ⟨ho, hcap⟩ := hcase.resolve_right (by omega)
          refine ⟨?_, ?_⟩
          · rw [ho]; simp only [rgLo_some, Nat.add_mul, Nat.add_assoc]
          · simp only [rgLo_some]; omega
      · rw [sliceAt_slice_run hT w' _ _ c lo hi hle hl hh h0 h1 h2]
        simp only [rgLo_some, rgHi_some]
        have e3 : rgLo rg + h'.toNat - (rgLo rg + l.toNat) = h'.toNat - l.toNat := by omega
        rw [e3]
        by_cases hcl : c = l.toNat
        · rw [if_pos hcl, if_pos hcl]
        · rw [if_neg hcl, if_neg hcl]; simp [Addr.add_lit]
  · cases h

/-! ### Lengths -/

theorem lenA_spec (hR : RelV n w0 O w a E L V own) {T : TypeId} {ti : TI} (hT : TIOk P T ti) (hok : (∃ e t b, ti = .slice e t b) ∨ ti = .scal .str) {A : Atom} {i : Int} {u : Value} (hu : RepA w0 (Good w0 O) L V A u) (h : lenA L A = some i)
    (hty : LenTy ti A) (ty : TypeId) :
    OkV (.int .i64 i) ∧ ∀ w', (Builtin.len_ #[T] ty #[u]).run P w' = .ok (.int .i64 i) w' := by
  have slrun : ∀ (e : TypeId) (t : Ty) (b : Nat), ti = .slice e t b → ∀ (adr : Option Addr) (l c : Nat) (w' : World), (Builtin.len_ #[T] ty #[.slice adr l c]).run P w' = .ok (.int .i64 l) w' := by
    rintro e t b rfl adr l c w'
    obtain ⟨_, hu, _, _⟩ := hT
    simp [Builtin.len_, run_underlying hu, goInt]
  have i64 : ∀ m : Nat, m ≤ maxLen → OkV (.int .i64 (m : Int)) := by
    intro m hm; unfold maxLen at hm; simp [OkV, InR, IntKind.min, IntKind.max, IntKind.bits, IntKind.signed]; omega
  unfold lenA at h
  split at h
  · rename_i s
    cases h
    simp only [SlTy, LenTy] at hty
    subst hty
    obtain ⟨rfl, hs⟩ := hu
    refine ⟨i64 _ hs, fun w' => ?_⟩
    obtain ⟨d, hd, hf⟩ := hT.und
    have hd' : d = .string := by cases d <;> simp [descFits] at hf; rfl
    subst hd'
    simp [Builtin.len_, run_underlying hd, goInt]
  · cases h
    obtain ⟨e, t, b, rfl⟩ := hty
    obtain ⟨rfl, h1, h2⟩ := hu
    subst h1
    exact ⟨i64 0 (Nat.zero_le _), fun w' => slrun e t b rfl _ _ _ w'⟩
  · rename_i t xs
    cases h
    obtain ⟨e, t', b, rfl⟩ := hty
    refine ⟨i64 _ hu.1, fun w' => ?_⟩
    rcases hu.2 with ⟨ad, rfl, rfl⟩ | ⟨b', off, cap, rfl, _⟩
    · exact slrun e t' b rfl _ _ _ w'
    · exact slrun e t' b rfl _ _ _ w'
  · rename_i r rg
    obtain ⟨e, t', b, rfl⟩ := hty
    try simp only at h
    split at h
    · rename_i B hB
      obtain ⟨B', hB', _, hs1, hs2, hs3⟩ := hu
      rw [hB] at hB'; cases hB'
      have hown := hR.heap r B hB
      have hwf := hown.len
      have key : i = ((rgHi B.xs.length rg - rgLo rg : Nat) : Int) := by
        split at h <;> cases h <;> simp [rgLo, rgHi]
      subst key
      refine ⟨i64 _ (by omega), fun w' => ?_⟩
      rcases hs3 with ⟨ad, ad', hV, rfl, hz⟩ | ⟨b', off, m, cap, o, c, hV, rfl, hle, hcase⟩
      · have e2 : rgHi B.xs.length rg - rgLo rg = 0 := by omega
        rw [e2]
        exact slrun e t' b rfl _ _ _ w'
      · exact slrun e t' b rfl _ _ _ w'
    · cases h
  · cases h
end
end Go.Am

/- The abstract machine, part 7: the evaluator of reading operations, and that it is sound. -/
namespace Go.Am
set_option linter.unusedVariables false
set_option linter.unusedSimpArgs false

/-! ### From atoms back to trees -/

def decB : (t : Ty) → Atom → Option t.den
  | .int k, .val (.int k' n) => match decide (k = k') with | true => some n | false => none
  | .bool, .val (.bool b) => some b
  | .str, .val (.string s) => some s
  | .sl _, .val (.slice none _ _) => some []
  | .sl e, .sl t xs => if h : t = e then some (h ▸ xs) else none
  | .unit, .st t x => if h : t = .unit then some () else none
  | .cons a b, .st t x => if h : t = .cons a b then some (h ▸ x) else none
  | _, _ => none

theorem decB_spec {w : World} {G : Nat → Prop} : ∀ {t : Ty} {A : Atom} {x : t.den} {v : Value}, RepB w G A v → decB t A = some x → ∃ cs, RepC w G t x cs ∧ v = valOf t cs
  | .int k, A, x, v, hr, h => by
    cases A with
    | val u => cases u with
      | int k' n =>
        simp only [decB] at h
        split at h
        · rename_i hd
          have := of_decide_eq_true hd
          cases h
          obtain ⟨rfl, ho⟩ := hr
          subst this
          exact ⟨_, ⟨rfl, ho⟩, rfl⟩
        · cases h
      | _ => cases h
    | _ => cases h
  | .bool, A, x, v, hr, h => by
    cases A with
    | val u => cases u with
      | bool b => cases h; obtain ⟨rfl, ho⟩ := hr; exact ⟨_, rfl, rfl⟩
      | _ => cases h
    | _ => cases h
  | .str, A, x, v, hr, h => by
    cases A with
    | val u => cases u with
      | string b => cases h; obtain ⟨rfl, ho⟩ := hr; exact ⟨_, ⟨rfl, ho⟩, rfl⟩
      | _ => cases h
    | _ => cases h
  | .sl e, A, x, v, hr, h => by
    cases A with
    | val u => cases u with
      | slice b n c => cases b with
        | none =>
          cases h
          obtain ⟨rfl, h1, h2⟩ := hr
          subst h1 h2
          exact ⟨_, ⟨_, rfl, Nat.zero_le _, .inl ⟨_, rfl, rfl⟩⟩, rfl⟩
        | some b => cases h
      | _ => cases h
    | sl t xs =>
      simp only [decB] at h
      split at h
      · rename_i ht
        subst ht
        cases h
        exact ⟨_, ⟨v, rfl, hr⟩, rfl⟩
      · cases h
    | _ => cases h
  | .unit, A, x, v, hr, h => by
    cases A with
    | st t y =>
      simp only [decB] at h
      split at h
      · rename_i ht
        subst ht
        cases h
        obtain ⟨cs, rfl, hc⟩ := hr
        exact ⟨cs, hc, rfl⟩
      · cases h
    | val u => cases u <;> cases h
    | _ => cases h
  | .cons a b, A, x, v, hr, h => by
    cases A with
    | st t y =>
      simp only [decB] at h
      split at h
      · rename_i ht
        subst ht
        cases h
        obtain ⟨cs, rfl, hc⟩ := hr
        exact ⟨cs, hc, rfl⟩
      · cases h
    | val u => cases u <;> cases h
    | _ => cases h

/-! ### A struct out of its parts -/

def setA : (t : Ty) → t.den → Nat → Atom → Option t.den
  | .cons a _, x, 0, A => match decB a A with | some y => some (y, x.2) | none => none
  | .cons _ b, x, n + 1, A => match setA b x.2 n A with | some y => some (x.1, y) | none => none
  | _, _, _, _ => none

def splice (cs : List Value) (o : Nat) (c : List Value) : List Value := cs.take o ++ c ++ cs.drop (o + c.length)

theorem setA_spec {w : World} {G : Nat → Prop} {A : Atom} {v : Value} (hA : ∀ t (x : t.den), decB t A = some x → RepB w G A v) : ∀ {t : Ty} {x x' : t.den} {n : Nat} {cs : List Value}, setA t x n A = some x' → RepC w G t x cs →
    ∃ o ft c, fldOff t n = some (o, ft) ∧ v = valOf ft c ∧ (∃ y, RepC w G ft y c) ∧ o + ft.size ≤ cs.length ∧ RepC w G t x' (splice cs o c)
  | .cons a b, x, x', 0, cs, h, hr => by
    obtain ⟨c1, c2, rfl, h1, h2⟩ := hr
    simp only [setA] at h
    split at h
    · rename_i y hy
      cases h
      obtain ⟨c, hc, hv⟩ := decB_spec (hA _ _ hy) hy
      refine ⟨0, a, c, rfl, hv, ⟨y, hc⟩, by rw [List.length_append, h1.length]; omega, c, c2, ?_, hc, h2⟩
      simp [splice, hc.length, ← h1.length]
    · cases h
  | .cons a b, x, x', n + 1, cs, h, hr => by
    obtain ⟨c1, c2, rfl, h1, h2⟩ := hr
    simp only [setA] at h
    split at h
    · rename_i y hy
      cases h
      obtain ⟨o, ft, c, ho, hv, hl, hle, hc⟩ := setA_spec hA (t := b) hy h2
      refine ⟨a.size + o, ft, c, by simp [fldOff, ho], hv, hl, by rw [List.length_append, h1.length]; omega, c1, splice c2 o c, ?_, h1, hc⟩
      simp [splice, ← h1.length, List.take_append, List.drop_append, List.take_of_length_le, Nat.add_assoc]
    · cases h
  | .int _, _, _, _, _, h, _ => by cases h
  | .bool, _, _, _, _, h, _ => by cases h
  | .str, _, _, _, _, h, _ => by cases h
  | .sl _, _, _, _, _, h, _ => by cases h
  | .unit, _, _, _, _, h, _ => by cases h

def buildA (t : Ty) : t.den → List (Nat × PV) → Option t.den
  | x, [] => some x
  | x, (n, .a A) :: r => match setA t x n A with | some y => buildA t y r | none => none
  | _, _ => none

theorem dcells_rep (w : World) (G : Nat → Prop) : ∀ t : Ty, RepC w G t t.dflt (dcells t)
  | .int k => ⟨rfl, by cases k <;> simp [InR, IntKind.min, IntKind.max, IntKind.bits, IntKind.signed, Ty.dflt]⟩
  | .bool => rfl
  | .str => ⟨rfl, Nat.zero_le _⟩
  | .sl e => ⟨_, rfl, Nat.zero_le _, .inl ⟨_, rfl, rfl⟩⟩
  | .unit => rfl
  | .cons a b => ⟨_, _, rfl, dcells_rep w G a, dcells_rep w G b⟩

theorem fill_splice (cells : Array Value) (off : Nat) (c : List Value) (h : off + c.length ≤ cells.size) :
    (c.toArray.zipIdx.foldl (fun cs (x : Value × Nat) => cs.setIfInBounds (off + x.2) x.1) cells).toList = splice cells.toList off c := by
  have key : ∀ (c : List Value) (k : Nat) (cells : Array Value), off + k + c.length ≤ cells.size →
      ((c.zipIdx k).foldl (fun cs (x : Value × Nat) => cs.setIfInBounds (off + x.2) x.1) cells).toList = cells.toList.take (off + k) ++ c ++ cells.toList.drop (off + k + c.length) := by
    intro c
    induction c with
    | nil => intro k cells h; simp
    | cons v r ih =>
      intro k cells h
      simp only [List.length_cons] at h
      simp only [List.zipIdx_cons, List.foldl_cons]
      rw [ih (k + 1) _ (by simp; omega)]
      simp only [Array.toList_setIfInBounds]
      have h1 : off + (k + 1) = off + k + 1 := by omega
      have hlt : off + k < cells.toList.length := by rw [Array.length_toList]; omega
      rw [h1, List.take_add_one]
      simp only [List.getElem?_set_self hlt, Option.toList_some, List.append_assoc, List.cons_append, List.nil_append, List.length_cons]
      rw [List.take_set_of_le (Nat.le_refl _), List.drop_set_of_lt (by omega)]
      rw [show off + k + 1 + r.length = off + k + (r.length + 1) from by omega]
  have := key c 0 cells (by simpa using h)
  simpa [splice] using this

section
variable {P : Program}

theorem fill_step (place : Nat → Option (Nat × Nat)) (cells : List Value) (n o : Nat) (v : Value) (c : List Value) (sz : Nat) (rest : List (Nat × Value)) (hp : place n = some (o, sz)) (hv : v.cells.toList = c) (hl : c.length = sz) (hle : o + sz ≤ cells.length) :
    Instr.fill place cells.toArray ((n, v) :: rest) = Instr.fill place (splice cells o c).toArray rest := by
  have hs : v.cells.size = sz := by rw [← Array.length_toList, hv, hl]
  have hcs : v.cells = c.toArray := by rw [← hv]
  simp only [Instr.fill, hp, hs]
  rw [if_neg (by simp; omega)]
  congr 1
  rw [hcs]
  have h3 := fill_splice cells.toArray o c (by simp; omega)
  have h4 := congrArg List.toArray h3
  simpa using h4

theorem valOf_cells {t : Ty} {cs : List Value} {w : World} {G : Nat → Prop} {x : t.den} (h : RepC w G t x cs) : (valOf t cs).cells.toList = cs := by
  unfold valOf
  by_cases ha : t.agg = true
  · rw [if_pos ha]; simp [Value.cells]
  · rw [if_neg ha]
    have h1 : t.size = 1 := by cases t <;> simp_all [Ty.agg, Ty.size]
    have hl := h.length
    rw [h1] at hl
    match cs, hl with
    | [c], _ =>
      cases t with
      | int k => obtain ⟨h, _⟩ := h; cases h; rfl
      | bool => cases h; rfl
      | str => obtain ⟨h, _⟩ := h; cases h; rfl
      | sl e =>
        obtain ⟨v, h, h2⟩ := h
        cases h
        rcases h2.2 with ⟨_, rfl, _⟩ | ⟨b, off, cap, rfl, _⟩ <;> rfl
      | unit => simp [Ty.agg] at ha
      | cons a b => simp [Ty.agg] at ha

def PartsRep (w : World) (G : Nat → Prop) : List (Nat × PV) → List (Nat × Value) → Prop
  | [], vs => vs = []
  | p :: r, vs => ∃ v s, vs = (p.1, v) :: s ∧ (∀ A, p.2 = .a A → ∀ t (x : t.den), decB t A = some x → RepB w G A v) ∧ PartsRep w G r s

theorem buildA_spec {w : World} {G : Nat → Prop} {t : Ty} {place : Nat → Option (Nat × Nat)} (hpl : ∀ n o ft, fldOff t n = some (o, ft) → place n = some (o, ft.size)) :
    ∀ {parts : List (Nat × PV)} {vs : List (Nat × Value)} {x x' : t.den} {cs : List Value}, buildA t x parts = some x' → PartsRep w G parts vs → RepC w G t x cs →
    ∃ cs', Instr.fill place cs.toArray vs = some cs'.toArray ∧ RepC w G t x' cs'
  | [], vs, x, x', cs, h, hv, hr => by
    cases hv; cases h
    exact ⟨cs, rfl, hr⟩
  | (n, .a A) :: r, vs, x, x', cs, h, hv, hr => by
    obtain ⟨v, s, rfl, h1, h2⟩ := hv
    simp only [buildA] at h
    split at h
    · rename_i y hy
      obtain ⟨o, ft, c, ho, hvc, ⟨z, hz⟩, hle, hrep⟩ := setA_spec (h1 A rfl) hy hr
      obtain ⟨cs', hf, hr'⟩ := buildA_spec hpl h h2 hrep
      refine ⟨cs', ?_, hr'⟩
      rw [fill_step place cs n o v c ft.size s (hpl n o ft ho) (by rw [hvc]; exact valOf_cells hz) hz.length hle]
      exact hf
    · cases h
  | (_, .tup _) :: _, _, _, _, _, h, _, _ => by cases h
  | (_, .fn _ _) :: _, _, _, _, _, h, _, _ => by cases h

theorem mapM_run {α β : Type} {w : World} (f : α → Sem β) (g : α → β) : ∀ (l : List α), (∀ x ∈ l, (f x).run P w = .ok (g x) w) → (l.mapM f).run P w = .ok (l.map g) w
  | [], _ => by simp
  | x :: r, h => by
    rw [List.mapM_cons]
    simp only [Sem.run_bind, h x (List.mem_cons_self ..), Result.andThen_ok, mapM_run f g r (fun y hy => h y (List.mem_cons_of_mem _ hy)), Sem.run_pure, List.map_cons]

theorem fieldsOk_size : ∀ {fs : List Field} {t : Ty} {o : Nat}, FieldsOk P fs t o → ∀ f ∈ fs, ∃ ft, TyOk P f.type ft
  | f :: fs, .cons a b, o, h, g, hg => by
    rcases List.mem_cons.1 hg with rfl | hg
    · exact ⟨a, h.2.1⟩
    · exact fieldsOk_size h.2.2.2 g hg
  | [], .unit, _, _, _, hg => by cases hg
  | [], .int _, _, h, _, _ => h.elim
  | [], .bool, _, h, _, _ => h.elim
  | [], .str, _, h, _, _ => h.elim
  | [], .sl _, _, h, _, _ => h.elim
  | [], .cons _ _, _, h, _, _ => h.elim
  | _ :: _, .int _, _, h, _, _ => h.elim
  | _ :: _, .bool, _, h, _, _ => h.elim
  | _ :: _, .str, _, h, _, _ => h.elim
  | _ :: _, .sl _, _, h, _, _ => h.elim
  | _ :: _, .unit, _, h, _, _ => h.elim

theorem build_run {T : TypeId} {t : Ty} (hT : TIOk P T (.struct t)) (ha : t.agg = true) {w0 : World} {G : Nat → Prop} {parts : List (Nat × PV)} {vs : List (Nat × Value)} {x : t.den}
    (h : buildA t t.dflt parts = some x) (hv : PartsRep w0 G parts vs) : ∃ cs, RepC w0 G t x cs ∧ ∀ w : World, (Instr.build T vs.toArray).run P w = .ok (.agg cs.toArray) w := by
  obtain ⟨ht, fs, hu, hfs, _⟩ := hT
  let place : Nat → Option (Nat × Nat) := fun i => (fs.toList.map fun f => (f.offset, P.cellsOf f.type)).toArray[i]?
  have hcell : ∀ {T : TypeId} {t : Ty}, TyOk P T t → P.cellsOf T = t.size := fun {T t} h => by
    obtain ⟨i, hi, hs, _⟩ := h.info
    simp [Program.cellsOf, hi, hs]
  have hpl : ∀ n o ft, fldOff t n = some (o, ft) → place n = some (o, ft.size) := fun n o ft hf => by
    obtain ⟨f, h1, h2, h3, _⟩ := fields_get hfs hf
    simp only [place, List.getElem?_toArray, List.getElem?_map, h1, Option.map_some, h2, hcell h3, Nat.zero_add]
  obtain ⟨cs, hf, hr⟩ := buildA_spec hpl h hv (dcells_rep w0 G t)
  refine ⟨cs, hr, fun w => ?_⟩
  unfold Instr.build
  have hz : (valOf t (dcells t)).cells = (dcells t).toArray := by
    have h5 := congrArg List.toArray (valOf_cells (dcells_rep w0 G t))
    simpa using h5
  have hm : (fs.mapM fun f => do pure (f.offset, ← sizeOf f.type) : Sem (Array (Nat × Nat))).run P w = .ok (fs.toList.map fun f => (f.offset, P.cellsOf f.type)).toArray w := by
    rw [Array.mapM_eq_mapM_toList]
    simp only [Sem.run_map]
    rw [mapM_run _ (fun f => (f.offset, P.cellsOf f.type)) fs.toList (fun f hf => by
      obtain ⟨ft, h⟩ := fieldsOk_size hfs f hf
      simp [h.size_run, hcell h])]
    rfl
  simp only [Sem.run_bind, ht.zero_run, Result.andThen_ok, run_underlying hu, hm, hz]
  have hf' : Instr.fill (fun x => (fs.toList.map fun f => (f.offset, P.cellsOf f.type)).toArray[x]?) (dcells t).toArray vs = some cs.toArray := hf
  rw [hf']
  rfl
end
end Go.Am

/- The abstract machine, part 8: the evaluator of the reading operations, whole. -/
namespace Go.Am
set_option linter.unusedVariables false
set_option linter.unusedSimpArgs false

def nthA : List Atom → Nat → Option Atom
  | [], _ => none
  | a :: _, 0 => some a
  | _ :: r, n + 1 => nthA r n

def atomsOf (E : Env) : List Operand → Option (List Atom)
  | [] => some []
  | x :: r => match opnd E x, atomsOf E r with
    | .a A, some s => some (A :: s)
    | _, _ => none

def bytesStr (xs : List Int) : ByteArray := xs.foldl (fun r n => r.push (UInt8.ofNat n.toNat)) ByteArray.empty

def slOk (L : Heap) (ti : TI) : Atom → Bool
  | .val (.string _) => match ti with | .scal .str => true | _ => false
  | .sl t _ => match ti with | .slice _ t' _ => decide (t = t') | _ => false
  | .osl r _ => match hget L r, ti with | some A, .slice _ t' _ => decide (A.t = t') | _, _ => false
  | _ => false

def isSl : TI → Bool
  | .slice _ _ _ => true
  | _ => false

def lenOk (ti : TI) : Atom → Bool
  | .val (.string _) => match ti with | .scal .str => true | _ => false
  | _ => isSl ti

def intO (E : Env) : Option Operand → Option (Option Int)
  | none => some none
  | some x => match opnd E x with | .a (.val (.int _ n)) => some (some n) | _ => none

def cmpV (isMax : Bool) (x y : Int) : Int := match isMax with | true => if x < y then y else x | false => if y < x then y else x

/-- What a builtin yields that only reads. -/
def builtinA (tab : List TI) (L : Heap) (b : Builtin) (args : List PV) (ts : List TypeId) : Option (List Prop × PV) :=
  match b, args, ts with
  | .len, [.a A], [T] => match lenOk (tabGet tab T) A, lenA L A with
    | true, some i => some ([], .a (.val (.int .i64 i)))
    | _, _ => none
  | .min, [.a (.val (.int k x)), .a (.val (.int k' y))], _ => match decide (k = k') with
    | true => some ([], .a (.val (.int k (cmpV false x y))))
    | false => none
  | .max, [.a (.val (.int k x)), .a (.val (.int k' y))], _ => match decide (k = k') with
    | true => some ([], .a (.val (.int k (cmpV true x y))))
    | false => none
  | _, _, _ => none

def binA (tab : List TI) (wr : Bool) (op : BinOp) (T : TypeId) : PV → PV → Option (List Prop × PV)
  | .a (.val (.bool a)), .a (.val (.bool b)) => match tabGet tab T, op with
    | .scal .bool, .eql => some ([], .a (.val (.bool (a == b))))
    | .scal .bool, .neq => some ([], .a (.val (.bool (!(a == b)))))
    | _, _ => none
  | .a (.val u), .a (.val v) => match binV wr op u v with
    | some (cs, r) => some (cs, .a (.val r))
    | none => none
  | .a (.st t x), .a (.st t' y) => match tabGet tab T, op with
    | .struct u, .eql => if h : t = u then if h' : t' = u then (match u.flat with | true => some ([], .a (.val (.bool (eqD u (h ▸ x) (h' ▸ y))))) | false => none) else none else none
    | .struct u, .neq => if h : t = u then if h' : t' = u then (match u.flat with | true => some ([], .a (.val (.bool (!eqD u (h ▸ x) (h' ▸ y))))) | false => none) else none else none
    | _, _ => none
  | _, _ => none

def unA (wr : Bool) (op : UnOp) : PV → Option (List Prop × PV)
  | .a (.val (.bool b)) => match op with | .not => some ([], .a (.val (.bool (!b)))) | _ => none
  | .a (.val (.int k n)) => match op, wr with
    | .neg, true => some ([], .a (.val (.int k (k.wrap (0 - n)))))
    | .neg, false => some ([InR k (0 - n)], .a (.val (.int k (0 - n))))
    | _, _ => none
  | _ => none

def convA (tab : List TI) (wr : Bool) (L : Heap) (src dst : TypeId) : PV → Option (List Prop × PV)
  | .a (.val (.int _ n)) => match tabGet tab src, tabGet tab dst, wr with
    | .scal (.int _), .scal (.int k), true => some ([], .a (.val (.int k (k.wrap n))))
    | .scal (.int _), .scal (.int k), false => some ([InR k n], .a (.val (.int k n)))
    | _, _, _ => none
  | _ => none

/-- **The evaluator of the operations that only read.** -/
def absQ (tab : List TI) (wr : Bool) (E : Env) (L : Heap) : Op → Option (List Prop × PV)
  | .move x | .assign x => some ([], opnd E x)
  | .nilCheck x => match opnd E x with
    | .a (.ptr t y) => some ([], .a (.ptr t y))
    | .a (.optr r i p) => some ([], .a (.optr r i p))
    | .fn f cs => some ([], .fn f cs)
    | _ => none
  | .binOp op T x y _ => binA tab wr op T (opnd E x) (opnd E y)
  | .unOp op _ x => unA wr op (opnd E x)
  | .convert s d x => convA tab wr L s d (opnd E x)
  | .extract x i => match opnd E x with
    | .tup xs => match nthA xs i with | some A => some ([], .a A) | none => none
    | _ => none
  | .makeFunc (.func f) first caps => match first.toList, atomsOf E caps.toList with
    | [], some ats => some ([], .fn f ats)
    | _, _ => none
  | .load T x => match opnd E x, (tabGet tab T).ty with
    | .a A, some t => match loadA L t A with | some B => some ([], .a B) | none => none
    | _, _ => none
  | .fieldAddr S x f => match opnd E x, tabGet tab S with
    | .a A, .struct t => match fldAddrA L t f A with | some B => some ([], .a B) | none => none
    | _, _ => none
  | .field S x f => match opnd E x, tabGet tab S with
    | .a A, .struct t => match fieldA t f A with | some B => some ([], .a B) | none => none
    | _, _ => none
  | .indexAddr T x i => match opnd E x, opnd E i, tabGet tab T with
    | .a A, .a (.val (.int _ n)), .slice _ t _ => match idxAddrA L t n A with | some (cs, B) => some (cs, .a B) | none => none
    | _, _, _ => none
  | .index T x i => match opnd E x, opnd E i, tabGet tab T with
    | .a (.val (.string s)), .a (.val (.int _ n)), .scal .str => some ([0 ≤ n, n < (s.size : Int)], .a (.val (.int .u8 (byteAt s n))))
    | _, _, _ => none
  | .slice T x lo hi none => match opnd E x, intO E lo, intO E hi with
    | .a A, some l, some h => match slOk L (tabGet tab T) A, sliceA L l h A with
      | true, some (cs, B) => some (cs, .a B)
      | _, _ => none
    | _, _, _ => none
  | .build T parts => match tabGet tab T with
    | .struct t => match t.agg, buildA t t.dflt (parts.toList.map fun p => (p.1, opnd E p.2)) with
      | true, some x => some ([], .a (.st t x))
      | _, _ => none
    | _ => none
  | .call { callee := .builtin b, args, argTypes } => builtinA tab L b (args.toList.map (opnd E)) argTypes.toList
  | _ => none

section
variable {P : Program} {n : Nat} {w0 w : World} {O : List Nat} {a : Act} {E : Env} {L : Heap} {V : Nat → Value} {own : Nat → List Nat}

theorem run_value (s : Sem Value) (v : Value) (w w' : World) (h : s.run P w = .ok v w') : (do pure (Next.value (← s)) : Sem Next).run P w = .ok (.value v) w' := by
  simp [h]

theorem TI.ty_ok {T : TypeId} {ti : TI} {t : Ty} (h : TIOk P T ti) (ht : ti.ty = some t) : TyOk P T t := by
  cases ti <;> cases ht
  · exact h
  · exact h.1
  · exact h.1

theorem TyOk.int_und {T : TypeId} {k : IntKind} (h : TyOk P T (.int k)) : P.underlying T = some (.int k) := by
  obtain ⟨d, hd, hf⟩ := h.und
  cases d <;> simp [descFits] at hf
  subst hf
  exact hd
theorem TyOk.bool_und {T : TypeId} (h : TyOk P T .bool) : P.underlying T = some .bool := by
  obtain ⟨d, hd, hf⟩ := h.und
  cases d <;> simp [descFits] at hf
  exact hd
theorem TyOk.str_und {T : TypeId} (h : TyOk P T .str) : P.underlying T = some .string := by
  obtain ⟨d, hd, hf⟩ := h.und
  cases d <;> simp [descFits] at hf
  exact hd

theorem flat_lists {G : Nat → Prop} : ∀ (t : Ty),
    (∀ T d x y c1 c2 w, wrapE P t.agg T (eqB P t) = true → dep t ≤ d → RepC w0 G t x c1 → RepC w0 G t y c2 → (Op.equalIn (d + 1) T (valOf t c1) (valOf t c2)).run P w = .ok (eqD t x y) w) ∧
    (∀ fs o d x y (xs ys : List Value) w, eqB P t (.inr (fs, o)) = true → dep t ≤ d → RepC w0 G t x (xs.drop o) → RepC w0 G t y (ys.drop o) → o + t.size ≤ xs.length → o + t.size ≤ ys.length →
      (Op.eqFields d xs.toArray ys.toArray fs).run P w = .ok (eqD t x y) w)
  | .int k => by
    refine ⟨fun T d x y c1 c2 w h _ h1 h2 => ?_, fun fs o d x y xs ys w h => by simp [eqB] at h⟩
    have hu := isIntB_eq (by simpa [wrapE, Ty.agg, eqB] using h)
    obtain ⟨rfl, _⟩ := h1
    obtain ⟨rfl, _⟩ := h2
    exact run_equalIn_int w d T k k x y hu
  | .bool => by
    refine ⟨fun T d x y c1 c2 w h _ h1 h2 => ?_, fun fs o d x y xs ys w h => by simp [eqB] at h⟩
    have hu := isBoolB_eq (by simpa [wrapE, Ty.agg, eqB] using h)
    have h1 : c1 = [.bool x] := h1
    have h2 : c2 = [.bool y] := h2
    subst h1 h2
    exact run_equalIn_bool' w d T x y hu
  | .str => by
    refine ⟨fun T d x y c1 c2 w h _ h1 h2 => ?_, fun fs o d x y xs ys w h => by simp [eqB] at h⟩
    have hu := isStrB_eq (by simpa [wrapE, Ty.agg, eqB] using h)
    obtain ⟨rfl, _⟩ := h1
    obtain ⟨rfl, _⟩ := h2
    exact run_equalIn_string w d T x y hu
  | .sl e => ⟨fun T d x y c1 c2 w h => by simp [wrapE, Ty.agg, eqB] at h, fun fs o d x y xs ys w h => by simp [eqB] at h⟩
  | .unit => by
    have hB : ∀ fs o d x y (xs ys : List Value) w, eqB P .unit (.inr (fs, o)) = true → (Op.eqFields d xs.toArray ys.toArray fs).run P w = .ok (eqD .unit x y) w := by
      intro fs o d x y xs ys w h
      match fs, h with
      | [], h => simp [Op.eqFields, eqD]
      | _ :: _, h => simp [eqB] at h
    refine ⟨fun T d x y c1 c2 w h _ h1 h2 => ?_, fun fs o d x y xs ys w h _ _ _ _ _ => hB fs o d x y xs ys w h⟩
    simp only [wrapE, Ty.agg] at h
    split at h
    · rename_i fs hu
      simp only [Bool.and_eq_true, Bool.not_eq_true'] at h
      have hf : P.fieldsOf T = fs := by simp [Program.fieldsOf, hu]
      show (Op.equalIn (d + 1) T (.agg c1.toArray) (.agg c2.toArray)).run P w = _
      rw [run_equalIn_agg w d T _ _ (by rw [hf]; exact hu) h.1, hf]
      exact hB _ _ d x y _ _ w h.2
    · cases h
  | .cons a b => by
    obtain ⟨ha, _⟩ := flat_lists a
    obtain ⟨_, hb⟩ := flat_lists b
    have hB : ∀ fs o d x y (xs ys : List Value) w, eqB P (.cons a b) (.inr (fs, o)) = true → dep (.cons a b) ≤ d → RepC w0 G (.cons a b) x (xs.drop o) → RepC w0 G (.cons a b) y (ys.drop o) → o + (Ty.cons a b).size ≤ xs.length → o + (Ty.cons a b).size ≤ ys.length →
        (Op.eqFields d xs.toArray ys.toArray fs).run P w = .ok (eqD (.cons a b) x y) w := by
      intro fs o d x y xs ys w h hd hx hy hlx hly
      match fs, h with
      | [], h => simp [eqB] at h
      | f :: fs, h =>
        simp only [eqB, Bool.and_eq_true, bne_iff_ne, ne_eq] at h
        obtain ⟨h0, h1, h2, h3, h4⟩ := h
        have h1 := Nat.eq_of_beq_eq_true h1
        have h2 := tyCheck_ok h2
        simp only [dep] at hd
        have hd1 : dep a + 1 ≤ d := Nat.le_trans (Nat.le_max_left _ _) hd
        have hd2 : dep b ≤ d := Nat.le_trans (Nat.le_max_right _ _) hd
        obtain ⟨d, rfl⟩ : ∃ d', d = d' + 1 := ⟨d - 1, by omega⟩
        simp only [Ty.size] at hlx hly
        obtain ⟨p1, p2, hp, hp1, hp2⟩ := hx
        obtain ⟨q1, q2, hq, hq1, hq2⟩ := hy
        have e1 : (xs.drop o).take a.size = p1 := by rw [hp, ← hp1.length, List.take_left']; rfl
        have e2 : (ys.drop o).take a.size = q1 := by rw [hq, ← hq1.length, List.take_left']; rfl
        have e3 : xs.drop (o + a.size) = p2 := by rw [← List.drop_drop, hp, ← hp1.length, List.drop_left']; rfl
        have e4 : ys.drop (o + a.size) = q2 := by rw [← List.drop_drop, hq, ← hq1.length, List.drop_left']; rfl
        have r1 : (part f.type xs.toArray f.offset).run P w = .ok (valOf a p1) w := by
          rw [h1, ← e1]; exact part_run h2 xs o (by omega)
        have r2 : (part f.type ys.toArray f.offset).run P w = .ok (valOf a q1) w := by
          rw [h1, ← e2]; exact part_run h2 ys o (by omega)
        have r3 := ha f.type d x.1 y.1 p1 q1 w h3 (by omega) hp1 hq1
        have r4 := hb fs (o + a.size) (d + 1) x.2 y.2 xs ys w h4 hd2 (by rw [e3]; exact hp2) (by rw [e4]; exact hq2) (by omega) (by omega)
        simp only [Op.eqFields, ne_eq, h0, not_false_eq_true, if_true, Sem.run_bind, r1, r2, r3, Result.andThen_ok, Sem.run_ite, Sem.run_pure]
        simp only [eqD]
        cases eqD a x.1 y.1 with
        | true => simpa using r4
        | false => simp
    refine ⟨fun T d x y c1 c2 w h hd h1 h2 => ?_, hB⟩
    have l1 := h1.length
    have l2 := h2.length
    simp only [wrapE, Ty.agg] at h
    split at h
    · rename_i fs hu
      simp only [Bool.and_eq_true, Bool.not_eq_true'] at h
      have hf : P.fieldsOf T = fs := by simp [Program.fieldsOf, hu]
      show (Op.equalIn (d + 1) T (.agg c1.toArray) (.agg c2.toArray)).run P w = _
      rw [run_equalIn_agg w d T _ _ (by rw [hf]; exact hu) h.1, hf]
      exact hB _ 0 d x y c1 c2 w h.2 hd (by simpa using h1) (by simpa using h2) (by omega) (by omega)
    · cases h

theorem st_eq {u : Ty} {T : TypeId} (hu : TIOk P T (.struct u)) (hf : u.flat = true) {x y : u.den} {v1 v2 : Value} {G : Nat → Prop} (h1 : ∃ cs, v1 = .agg cs.toArray ∧ RepC w0 G u x cs) (h2 : ∃ cs, v2 = .agg cs.toArray ∧ RepC w0 G u y cs) (w' : World) (ox oy : Operand) :
    (do eqGuard .eql T ox oy v1 v2; binOp .eql T v1 v2 : Sem Value).run P w' = .ok (.bool (eqD u x y)) w' ∧ (do eqGuard .neq T ox oy v1 v2; binOp .neq T v1 v2 : Sem Value).run P w' = .ok (.bool (!eqD u x y)) w' := by
  obtain ⟨c1, rfl, r1⟩ := h1
  obtain ⟨c2, rfl, r2⟩ := h2
  obtain ⟨hty, fs, hund, _, he⟩ := hu
  have he := he hf
  simp only [eqT, Bool.and_eq_true, Bool.not_eq_true'] at he
  obtain ⟨e1, e2, e3⟩ := he
  have hd := Nat.le_of_ble_eq_true e1
  have hag : u.agg = true := by
    cases hh : u.agg with
    | true => rfl
    | false =>
      obtain ⟨d, hd, hfit⟩ := hty.und
      rw [hund] at hd
      cases hd
      cases u <;> simp [descFits, Ty.agg] at hfit hh
  have hv1 : valOf u c1 = .agg c1.toArray := by simp [valOf, hag]
  have hv2 : valOf u c2 = .agg c2.toArray := by simp [valOf, hag]
  have heq := (flat_lists (G := G) u).1 T 9999 x y c1 c2 w' e3 hd r1 r2
  rw [hv1, hv2] at heq
  constructor
  · simp only [Sem.run_bind, run_eqGuard_agg w' .eql T ox oy _ _ e2, Result.andThen_ok, run_eql_struct, heq]
  · simp only [Sem.run_bind, run_eqGuard_agg w' .neq T ox oy _ _ e2, Result.andThen_ok, run_neq_struct, heq]

theorem binA_spec {tab : List TI} (hT : TabOk P tab) (hR : RelV n w0 O w a E L V own) {wr : Bool} {op : BinOp} {T : TypeId} {x y : Operand} {cs : List Prop} {pv : PV}
    (h : binA tab wr op T (opnd E x) (opnd E y) = some (cs, pv)) (hc : All cs) :
    ∃ v, RepP w0 (Good w0 O) L V pv v ∧ ∀ w', (do eqGuard op T x y (a.eval x) (a.eval y); binOp op T (a.eval x) (a.eval y) : Sem Value).run P w' = .ok v w' := by
  unfold binA at h
  split at h
  · rename_i b1 b2 hx hy
    obtain ⟨e1, _⟩ := hR.valEq hx
    obtain ⟨e2, _⟩ := hR.valEq hy
    rw [e1, e2, eqGuard_at_bool]
    split at h
    · rename_i ht
      cases h
      have hu := hT T
      rw [ht] at hu
      refine ⟨_, ⟨rfl, trivial⟩, fun w' => ?_⟩
      have h9 : (Op.equalIn 10000 T (.bool b1) (.bool b2)).run P w' = .ok (b1 == b2) w' := run_equalIn_bool' w' 9999 T b1 b2 (TyOk.bool_und hu)
      simp only [binOp, Op.equal, Op.maxDepth, Sem.run_bind, Sem.run_pure, Result.andThen_ok, h9]
    · rename_i ht
      cases h
      have hu := hT T
      rw [ht] at hu
      refine ⟨_, ⟨rfl, trivial⟩, fun w' => ?_⟩
      have h9 : (Op.equalIn 10000 T (.bool b1) (.bool b2)).run P w' = .ok (b1 == b2) w' := run_equalIn_bool' w' 9999 T b1 b2 (TyOk.bool_und hu)
      simp only [binOp, Op.equal, Op.maxDepth, Sem.run_bind, Sem.run_pure, Result.andThen_ok, h9]
    · cases h
  · rename_i u v _ hx hy
    obtain ⟨e1, _⟩ := hR.valEq hx
    obtain ⟨e2, _⟩ := hR.valEq hy
    rw [e1, e2]
    split at h
    · rename_i cs' r hb
      cases h
      exact ⟨r, ⟨rfl, (binV_run (P := P) (w := w) hb hc T x y).2⟩, fun w' => (binV_run hb hc T x y).1⟩
    · cases h
  · rename_i t x1 t' y1 hx hy
    have hvx := hR.atom hx
    have hvy := hR.atom hy
    split at h
    · rename_i u ht
      have hu := hT T
      rw [ht] at hu
      split at h
      · rename_i he
        subst he
        split at h
        · rename_i he
          subst he
          split at h
          · rename_i hf
            cases h
            exact ⟨_, ⟨rfl, trivial⟩, fun w' => (st_eq hu hf hvx hvy w' x y).1⟩
          · cases h
        · cases h
      · cases h
    · rename_i u ht
      have hu := hT T
      rw [ht] at hu
      split at h
      · rename_i he
        subst he
        split at h
        · rename_i he
          subst he
          split at h
          · rename_i hf
            cases h
            exact ⟨_, ⟨rfl, trivial⟩, fun w' => (st_eq hu hf hvx hvy w' x y).2⟩
          · cases h
        · cases h
      · cases h
    · cases h
  · cases h

theorem unA_spec (hR : RelV n w0 O w a E L V own) {wr : Bool} {op : UnOp} {x : Operand} {cs : List Prop} {pv : PV}
    (h : unA wr op (opnd E x) = some (cs, pv)) (hc : All cs) :
    ∃ v, RepP w0 (Good w0 O) L V pv v ∧ ∀ w', (Op.unary op (a.eval x)).run P w' = .ok v w' := by
  unfold unA at h
  split at h
  · rename_i b hx
    obtain ⟨e1, _⟩ := hR.valEq hx
    rw [e1]
    split at h
    · cases h; exact ⟨_, ⟨rfl, trivial⟩, fun w' => by simp [Op.unary]⟩
    · cases h
  · rename_i k m hx
    obtain ⟨e1, _⟩ := hR.valEq hx
    rw [e1]
    split at h
    · cases h; exact ⟨_, ⟨rfl, wrap_inR _ _⟩, fun w' => by simp [Op.unary, Op.intArith]⟩
    · cases h
      simp only [All] at hc
      exact ⟨_, ⟨rfl, hc.1⟩, fun w' => by simp only [Op.unary, Op.intArith, wrap_of_inR hc.1]; rfl⟩
    · cases h
  · cases h

theorem convA_spec {tab : List TI} (hT : TabOk P tab) (hR : RelV n w0 O w a E L V own) {wr : Bool} {s d : TypeId} {x : Operand} {cs : List Prop} {pv : PV}
    (h : convA tab wr L s d (opnd E x) = some (cs, pv)) (hc : All cs) :
    ∃ v, RepP w0 (Good w0 O) L V pv v ∧ ∀ w', (convert s d (a.eval x)).run P w' = .ok v w' := by
  unfold convA at h
  split at h
  · rename_i k0 m hx
    obtain ⟨e1, _⟩ := hR.valEq hx
    rw [e1]
    split at h
    · rename_i hs hd
      cases h
      have hu := hT s; rw [hs] at hu
      have hv := hT d; rw [hd] at hv
      exact ⟨_, ⟨rfl, wrap_inR _ _⟩, fun w' => by simp [convert, run_underlying (TyOk.int_und hu), run_underlying (TyOk.int_und hv), Conv.intToInt]⟩
    · rename_i hs hd
      cases h
      simp only [All] at hc
      have hu := hT s; rw [hs] at hu
      have hv := hT d; rw [hd] at hv
      exact ⟨_, ⟨rfl, hc.1⟩, fun w' => by simp [convert, run_underlying (TyOk.int_und hu), run_underlying (TyOk.int_und hv), Conv.intToInt, wrap_of_inR hc.1]⟩
    · cases h
  · cases h

theorem atomsOf_spec (hR : RelV n w0 O w a E L V own) : ∀ {xs : List Operand} {ats : List Atom}, atomsOf E xs = some ats → RepAs w0 (Good w0 O) L V ats (xs.map a.eval)
  | [], ats, h => by cases h; rfl
  | x :: r, ats, h => by
    simp only [atomsOf] at h
    split at h
    · rename_i A s hx hr
      cases h
      exact ⟨_, _, rfl, hR.atom hx, atomsOf_spec hR hr⟩
    · cases h

theorem nthA_spec : ∀ {xs : List Atom} {vs : List Value} {i : Nat} {A : Atom}, nthA xs i = some A → RepAs w0 (Good w0 O) L V xs vs → ∃ v, vs[i]? = some v ∧ RepA w0 (Good w0 O) L V A v
  | x :: r, vs, 0, A, h, hr => by
    cases h
    obtain ⟨v, s, rfl, h1, h2⟩ := hr
    exact ⟨v, rfl, h1⟩
  | x :: r, vs, i + 1, A, h, hr => by
    obtain ⟨v, s, rfl, h1, h2⟩ := hr
    obtain ⟨u, hu, hr'⟩ := nthA_spec (i := i) h h2
    exact ⟨u, by simpa using hu, hr'⟩
  | [], _, _, _, h, _ => by cases h

theorem intO_spec (hR : RelV n w0 O w a E L V own) {x : Option Operand} {i : Option Int} (h : intO E x = some i) : ∃ o, i = optI o ∧ x.map a.eval = optV o := by
  cases x with
  | none => cases h; exact ⟨none, rfl, rfl⟩
  | some x =>
    simp only [intO] at h
    split at h
    · rename_i k m hx
      cases h
      exact ⟨some (k, m), rfl, by simp [optV, (hR.valEq hx).1]⟩
    · cases h

theorem slOk_spec {ti : TI} {A : Atom} (h : slOk L ti A = true) : ((∃ e t b, ti = .slice e t b) ∨ ti = .scal .str) ∧ SlTy L ti A := by
  cases A with
  | val u => cases u with
    | string s =>
      simp only [slOk] at h
      split at h
      · exact ⟨.inr rfl, rfl⟩
      · cases h
    | _ => cases h
  | sl t xs =>
    simp only [slOk] at h
    split at h
    · rename_i e t' b
      obtain rfl := of_decide_eq_true h
      exact ⟨.inl ⟨_, _, _, rfl⟩, _, _, rfl⟩
    · cases h
  | osl r rg =>
    simp only [slOk] at h
    split at h
    · rename_i B e t' b hB
      have := of_decide_eq_true h
      subst this
      exact ⟨.inl ⟨_, _, _, rfl⟩, B, hB, _, _, rfl⟩
    · cases h
  | _ => cases h

theorem lenOk_spec {ti : TI} {A : Atom} (h : lenOk ti A = true) : ((∃ e t b, ti = .slice e t b) ∨ ti = .scal .str) ∧ LenTy ti A := by
  have key : isSl ti = true → ∃ e t b, ti = .slice e t b := by
    intro h; cases ti <;> first | (cases h; done) | exact ⟨_, _, _, rfl⟩
  cases A with
  | val u => cases u with
    | string s =>
      simp only [lenOk] at h
      split at h
      · exact ⟨.inr rfl, rfl⟩
      · cases h
    | _ => exact ⟨.inl (key h), key h⟩
  | _ => exact ⟨.inl (key h), key h⟩

theorem byteAt_run {T : TypeId} (hT : TyOk P T .str) (s : ByteArray) (k : IntKind) (i : Int) (h0 : 0 ≤ i) (h1 : i < s.size) (w : World) :
    (Instr.index T (.string s) (.int k i)).run P w = .ok (.int .u8 (byteAt s i)) w ∧ OkV (.int .u8 (byteAt s i)) := by
  have hlt : i.toNat < s.size := by omega
  have hb : byteAt s i = ((s[i.toNat]'hlt).toNat : Int) := by
    unfold byteAt
    rw [List.getD_eq_getElem?_getD, List.getElem?_eq_getElem (by simpa using hlt)]
    rfl
  refine ⟨?_, ?_⟩
  · rw [run_index_string (P := P) w T s k i hT.str_und, dif_pos ⟨h0, h1⟩, hb]
  · rw [hb]
    have := (s[i.toNat]'hlt).toNat_lt
    simp [OkV, InR, IntKind.min, IntKind.max, IntKind.bits, IntKind.signed]
    omega

theorem builtinA_spec {tab : List TI} (hT : TabOk P tab) (hR : RelV n w0 O w a E L V own) {b : Builtin} {xs : List Operand} {ts : List TypeId} {cs : List Prop} {pv : PV}
    (h : builtinA tab L b (xs.map (opnd E)) ts = some (cs, pv)) (hc : All cs) (ty : TypeId) (consts : Array Bool) :
    ∃ v, RepP w0 (Good w0 O) L V pv v ∧ ∀ w', (builtin b ts.toArray ty consts (xs.map a.eval).toArray).run P w' = .ok (.value v) w' := by
  unfold builtinA at h
  split at h
  · rename_i A T hxs
    have : ∃ x, xs = [x] ∧ opnd E x = .a A := by
      cases xs with
      | nil => simp at hxs
      | cons x r => cases r with
        | nil => simp at hxs; exact ⟨x, rfl, hxs⟩
        | cons y s => simp at hxs
    obtain ⟨x, rfl, hx⟩ := this
    split at h
    · rename_i i hok hl
      cases h
      obtain ⟨h1, h2⟩ := lenOk_spec hok
      obtain ⟨h3, h4⟩ := lenA_spec hR (hT T) h1 (hR.atom hx) hl h2 ty
      refine ⟨_, ⟨rfl, h3⟩, fun w' => ?_⟩
      simp only [builtin, List.map_cons, List.map_nil]
      exact run_value _ _ _ _ (h4 w')
    · cases h
  · rename_i k x k' y hxs
    have : ∃ o1 o2, xs = [o1, o2] ∧ opnd E o1 = .a (.val (.int k x)) ∧ opnd E o2 = .a (.val (.int k' y)) := by
      cases xs with
      | nil => simp at hxs
      | cons o1 r => cases r with
        | nil => simp at hxs
        | cons o2 s => cases s with
          | nil => simp at hxs; exact ⟨o1, o2, rfl, hxs.1, hxs.2⟩
          | cons y s => simp at hxs
    obtain ⟨o1, o2, rfl, h1, h2⟩ := this
    split at h
    · rename_i hk
      obtain rfl := of_decide_eq_true hk
      cases h
      obtain ⟨e1, i1⟩ := hR.valEq h1
      obtain ⟨e2, i2⟩ := hR.valEq h2
      refine ⟨_, ⟨rfl, ?_⟩, fun w' => ?_⟩
      · simp only [OkV, cmpV] at i1 i2 ⊢
        split <;> assumption
      · simp [builtin, e1, e2, Builtin.min_, Builtin.min2, cmpV]
    · cases h
  · rename_i k x k' y hxs
    have : ∃ o1 o2, xs = [o1, o2] ∧ opnd E o1 = .a (.val (.int k x)) ∧ opnd E o2 = .a (.val (.int k' y)) := by
      cases xs with
      | nil => simp at hxs
      | cons o1 r => cases r with
        | nil => simp at hxs
        | cons o2 s => cases s with
          | nil => simp at hxs; exact ⟨o1, o2, rfl, hxs.1, hxs.2⟩
          | cons y s => simp at hxs
    obtain ⟨o1, o2, rfl, h1, h2⟩ := this
    split at h
    · rename_i hk
      obtain rfl := of_decide_eq_true hk
      cases h
      obtain ⟨e1, i1⟩ := hR.valEq h1
      obtain ⟨e2, i2⟩ := hR.valEq h2
      refine ⟨_, ⟨rfl, ?_⟩, fun w' => ?_⟩
      · simp only [OkV, cmpV] at i1 i2 ⊢
        split <;> assumption
      · simp [builtin, e1, e2, Builtin.max_, Builtin.max2, cmpV]
    · cases h
  · cases h

theorem repB_of_decB {A : Atom} {u : Value} {t : Ty} {x : t.den} (h : RepA w0 (Good w0 O) L V A u) (hd : decB t A = some x) : RepB w0 (Good w0 O) A u := by
  cases A with
  | osl r rg => cases t <;> cases hd
  | optr r i p => cases t <;> cases hd
  | _ => exact h

theorem partsRep (hR : RelV n w0 O w a E L V own) : ∀ (l : List (Nat × Operand)), PartsRep w0 (Good w0 O) (l.map fun p => (p.1, opnd E p.2)) (l.map fun p => (p.1, a.eval p.2))
  | [] => rfl
  | p :: r => ⟨a.eval p.2, _, rfl, fun A hA t x hd => repB_of_decB (hR.atom hA) hd, partsRep hR r⟩

/-- **The evaluator of the reading operations is sound.** -/
theorem absQ_spec {tab : List TI} (hT : TabOk P tab) (hR : RelV n w0 O w a E L V own) {wr : Bool} {o : Oper} {cs : List Prop} {pv : PV}
    (h : absQ tab wr E L o.op = some (cs, pv)) (hc : All cs) :
    ∃ v, RepP w0 (Good w0 O) L V pv v ∧ ∀ w', Kept [] w w' → (execOp a.eval o).run P w' = .ok (.value v) w' := by
  unfold absQ at h
  split at h
  · rename_i x ho
    cases h
    exact ⟨_, hR.opnd x, fun w' _ => by simp [execOp, ho]⟩
  · rename_i x ho
    cases h
    exact ⟨_, hR.opnd x, fun w' _ => by simp [execOp, ho]⟩
  · rename_i x ho
    have hx := hR.opnd x
    split at h
    · rename_i t y hp
      cases h
      rw [hp] at hx
      refine ⟨_, hx, fun w' _ => ?_⟩
      obtain ⟨b, off, cs, he, _⟩ := hx
      simp [execOp, ho, he]
    · rename_i r i p hp
      cases h
      rw [hp] at hx
      refine ⟨_, hx, fun w' _ => ?_⟩
      obtain ⟨_, _, _, b, off, m, cap, po, t', _, _, he⟩ := hx
      simp [execOp, ho, he]
    · rename_i f cs hp
      cases h
      rw [hp] at hx
      refine ⟨_, hx, fun w' _ => ?_⟩
      obtain ⟨vs, he, _⟩ := hx
      simp [execOp, ho, he]
    · cases h
  · rename_i op T x y yt ho
    obtain ⟨v, hv, hr⟩ := binA_spec hT hR h hc
    exact ⟨v, hv, fun w' _ => by simp only [execOp, ho]; exact run_value _ _ _ _ (hr w')⟩
  · rename_i op T x ho
    obtain ⟨v, hv, hr⟩ := unA_spec (P := P) hR h hc
    exact ⟨v, hv, fun w' _ => by simp only [execOp, ho]; exact run_value _ _ _ _ (hr w')⟩
  · rename_i s d x ho
    obtain ⟨v, hv, hr⟩ := convA_spec hT hR h hc
    exact ⟨v, hv, fun w' _ => by simp only [execOp, ho]; exact run_value _ _ _ _ (hr w')⟩
  · rename_i x i ho
    have hx := hR.opnd x
    split at h
    · rename_i xs hp
      rw [hp] at hx
      split at h
      · rename_i A hA
        cases h
        obtain ⟨vs, he, hr⟩ := hx
        obtain ⟨v, hv, hv'⟩ := nthA_spec hA hr
        exact ⟨v, hv', fun w' _ => by simp [execOp, ho, he, Instr.extract, hv]⟩
      · cases h
    · cases h
  · rename_i f first caps ho
    split at h
    · rename_i ats hf has
      cases h
      have hr := atomsOf_spec hR has
      refine ⟨_, ⟨_, rfl, hr⟩, fun w' _ => ?_⟩
      have hfe : first = #[] := by cases first; simp_all
      simp [execOp, ho, Instr.makeFunc, hfe, ← Array.toList_map]
    · cases h
  · rename_i T x ho
    split at h
    · rename_i A t hx ht
      split at h
      · rename_i B hB
        cases h
        obtain ⟨v, hv, hr⟩ := loadA_spec hR (TI.ty_ok (hT T) ht) (hR.atom hx) hB
        exact ⟨v, hv, fun w' k => by simp only [execOp, ho]; exact run_value _ _ _ _ (hr w' k)⟩
      · cases h
    · cases h
  · rename_i S x f ho
    split at h
    · rename_i A t hx ht
      split at h
      · rename_i B hB
        cases h
        have hS := hT S; rw [ht] at hS
        obtain ⟨v, hv, hr⟩ := fldAddrA_spec hS (hR.atom hx) hB
        exact ⟨v, hv, fun w' k => by simp only [execOp, ho]; exact run_value _ _ _ _ (hr w')⟩
      · cases h
    · cases h
  · rename_i S x f ho
    split at h
    · rename_i A t hx ht
      split at h
      · rename_i B hB
        cases h
        have hS := hT S; rw [ht] at hS
        obtain ⟨v, hv, hr⟩ := fieldA_spec hS (hR.atom hx) hB
        exact ⟨v, hv, fun w' k => by simp only [execOp, ho]; exact run_value _ _ _ _ (hr w')⟩
      · cases h
    · cases h
  · rename_i T x i ho
    split at h
    · rename_i A k m e t b hx hi ht
      split at h
      · rename_i cs' B hB
        cases h
        have hS := hT T; rw [ht] at hS
        obtain ⟨v, hv, hr⟩ := idxAddrA_spec (k := k) hS (hR.atom hx) hB hc
        exact ⟨v, hv, fun w' _ => by simp only [execOp, ho, (hR.valEq hi).1]; exact run_value _ _ _ _ (hr w')⟩
      · cases h
    · cases h
  · rename_i T x i ho
    split at h
    · rename_i s k m hx hi ht
      cases h
      simp only [All] at hc
      have hS := hT T; rw [ht] at hS
      have hb := fun w' => byteAt_run (P := P) hS s k m hc.1 hc.2.1 w'
      exact ⟨_, ⟨rfl, (hb w).2⟩, fun w' _ => by simp only [execOp, ho, (hR.valEq hi).1, (hR.valEq hx).1]; exact run_value _ _ _ _ (hb w').1⟩
    · cases h
  · rename_i T x lo hi ho
    split at h
    · rename_i A l h' hx hl hh
      split at h
      · rename_i cs' B hok hB
        cases h
        obtain ⟨ol, rfl, e1⟩ := intO_spec hR hl
        obtain ⟨oh, rfl, e2⟩ := intO_spec hR hh
        obtain ⟨h1, h2⟩ := slOk_spec hok
        obtain ⟨v, hv, hr⟩ := sliceA_spec (hT T) h1 (hR.atom hx) h2 hB hc
        exact ⟨v, hv, fun w' _ => by simp only [execOp, ho, e1, e2, Option.map_none]; exact run_value _ _ _ _ (hr w')⟩
      · cases h
    · cases h
  · rename_i T parts ho
    split at h
    · rename_i t ht
      split at h
      · rename_i x ha hb
        cases h
        have hS := hT T; rw [ht] at hS
        obtain ⟨cs, hr, hrun⟩ := build_run hS ha hb (partsRep hR parts.toList)
        refine ⟨_, ⟨cs, rfl, hr⟩, fun w' _ => ?_⟩
        simp only [execOp, ho]
        refine run_value _ _ _ _ ?_
        have := hrun w'
        have e : (parts.map fun p => (p.1, a.eval p.2)) = (parts.toList.map fun p => (p.1, a.eval p.2)).toArray := by
          rw [← Array.toList_map]
        have e' : (Array.map (fun x => match x with | (i, x) => (i, a.eval x)) parts) = (parts.map fun p => (p.1, a.eval p.2)) := rfl
        rw [e', e]
        exact this
      · cases h
    · cases h
  · rename_i b args ts ho
    obtain ⟨v, hv, hr⟩ := builtinA_spec hT hR h hc o.type (args.map fun | .const _ => true | _ => false)
    refine ⟨v, hv, fun w' _ => ?_⟩
    have := hr w'
    simp only [execOp, ho, resolve, Sem.run_bind, Sem.run_pure, Result.andThen_ok, invoke]
    have e : args.map a.eval = (args.toList.map a.eval).toArray := by rw [← Array.toList_map]
    rw [e]
    exact this
  · cases h
end
end Go.Am

/- The abstract machine, part 9: calls by contract: how arguments are read off the abstract state. -/
namespace Go.Am
set_option linter.unusedVariables false
set_option linter.unusedSimpArgs false

def Callable (P : Program) (f : FuncId) : Prop := ∃ fn, P.funcs[f]? = some fn ∧ (fn.name == "runtime.NumGoroutine") = false ∧ fn.body.isNone = false

abbrev Ext := List (FuncId × Spec)

def ExtOk (P : Program) : Ext → Prop
  | [] => True
  | (f, S) :: r => (Callable P f ∧ Contract P f S) ∧ ExtOk P r

/-! ### Reading arguments -/

def rgL {α : Type} (rg : Option (Nat × Nat)) (xs : List α) : List α :=
  match rg with
  | none => xs
  | some (lo, hi) => (xs.take hi).drop lo

def castL {t e : Ty} (h : t = e) (xs : List t.den) : List e.den := h ▸ xs
def castT {t e : Ty} (h : t = e) (x : t.den) : e.den := h ▸ x

def decV (L : Heap) : (t : Ty) → Atom → Option t.den
  | .sl e, .osl r rg => match hget L r with
    | some A => if h : A.t = e then some (rgL rg (castL h A.xs)) else none
    | none => none
  | t, A => decB t A

def decP (L : Heap) (t : Ty) : Atom → Option t.den
  | .ptr t' x => if h : t' = t then some (castT h x) else none
  | .optr r i p => match hget L r with
    | some A => match pathD p ⟨A.t, A.xs.getD i A.t.dflt⟩ with
      | some d => if h : d.t = t then some (castT h d.x) else none
      | none => none
    | none => none
  | _ => none

def refA : Atom → List Nat
  | .osl r _ => [r]
  | .optr r _ _ => [r]
  | _ => []

def decCaps (L : Heap) : (caps : List (Bool × Ty)) → List Atom → Option (capsDen caps × List Nat)
  | [], [] => some ((), [])
  | (true, t) :: r, A :: s => match decP L t A, decCaps L r s with
    | some x, some (y, us) => some ((x, y), refA A ++ us)
    | _, _ => none
  | (false, t) :: r, A :: s => match decB t A, decCaps L r s with
    | some x, some (y, us) => some ((x, y), us)
    | _, _ => none
  | _, _ => none

/-- An argument: what it reads as, the owned arrays that it hands over, and those that it lends. -/
def decA (L : Heap) : (a : AT) → PV → Option (a.den × List Nat × List Nat)
  | .v t, .a A => match decV L t A with | some x => some (x, [], refA A) | none => none
  | .p t, .a A => match decP L t A with | some x => some (x, [], refA A) | none => none
  | .own t, .a (.osl r none) => match hget L r with
    | some A => match A.bor with
      | true => none
      | false => if h : A.t = t then some (castL h A.xs, [r], []) else none
    | none => none
  | .fn f caps, .fn g ats => match Nat.beq f g, decCaps L caps ats with
    | true, some (x, us) => some (x, [], us)
    | _, _ => none
  | _, _ => none

def decArgs (L : Heap) : (sig : List AT) → List PV → Option (sigDen sig × List (List Nat) × List Nat)
  | [], [] => some ((), [], [])
  | a :: r, p :: s => match decA L a p, decArgs L r s with
    | some (x, o, u), some (y, os, us) => some ((x, y), o :: os, u ++ us)
    | _, _ => none
  | _, _ => none

def memB (n : Nat) : List Nat → Bool
  | [] => false
  | m :: r => Nat.beq n m || memB n r

def disjB : List Nat → List Nat → Bool
  | [], _ => true
  | n :: r, l => !(memB n l) && disjB r l

def nodupB : List Nat → Bool
  | [] => true
  | n :: r => !(memB n r) && nodupB r

theorem memB_iff {n : Nat} : ∀ {l : List Nat}, memB n l = true ↔ n ∈ l
  | [] => by simp [memB]
  | m :: r => by simp [memB, memB_iff (l := r)]

theorem disjB_spec : ∀ {l m : List Nat}, disjB l m = true → ∀ n ∈ l, n ∉ m
  | [], _, _, n, hn => by cases hn
  | k :: r, m, h, n, hn => by
    simp only [disjB, Bool.and_eq_true, Bool.not_eq_true'] at h
    rcases List.mem_cons.1 hn with rfl | hn
    · intro hm; rw [memB_iff.2 hm] at h; cases h.1
    · exact disjB_spec h.2 n hn

theorem nodupB_spec : ∀ {l : List Nat}, nodupB l = true → l.Nodup
  | [], _ => List.nodup_nil
  | k :: r, h => by
    simp only [nodupB, Bool.and_eq_true, Bool.not_eq_true'] at h
    refine List.nodup_cons.2 ⟨fun hm => ?_, nodupB_spec h.2⟩
    rw [memB_iff.2 hm] at h; cases h.1

section
variable {P : Program} {n : Nat} {w0 w : World} {O : List Nat} {a : Act} {E : Env} {L : Heap} {V : Nat → Value} {own : Nat → List Nat} {G : Nat → Prop}

/-- What is lent is good for the callee. 'H': the blocks that the callee takes over. -/
def Lent (w : World) (H : List Nat) (b : Nat) : Prop := b < w.heap.size ∧ b ∉ H

theorem good_eq (w : World) (H : List Nat) : Good w H = Lent w H := rfl

theorem RelV.lendG (hR : RelV n w0 O w a E L V own) {w' : World} (k : Kept [] w w') {H : List Nat} (hH : ∀ b ∈ H, ¬ Good w0 O b) : ∀ b, Good w0 O b → Good w' H b := fun b hb =>
  ⟨Nat.lt_of_lt_of_le hb.1 (Nat.le_trans hR.kept.size k.size), fun h => hH b h hb⟩

theorem SlAt.sub {w : World} {G : Nat → Prop} {α : Type} {R : α → List Value → Prop} {sz nn lo hi : Nat} {xs : List α} {V v : Value} (h : SlAt w G R sz xs V) (hs : SubSl sz xs.length V lo hi v) :
    SlAt w G R sz ((xs.take hi).drop lo) v := by
  obtain ⟨h1, h2, h3⟩ := hs
  have hlen : ((xs.take hi).drop lo).length = hi - lo := by simp; omega
  refine ⟨by rw [hlen]; have := h.1; omega, ?_⟩
  rcases h3 with ⟨_, _, hV, rfl, hz⟩ | ⟨b, off, m, cap, o, c, hV, rfl, hle, hcase⟩
  · exact .inl ⟨_, rfl, List.eq_nil_of_length_eq_zero (by rw [hlen]; omega)⟩
  · rcases h.2 with ⟨_, h5, hx0⟩ | ⟨b', off', cap', h5, h6, h7, h8, h9⟩
    · rw [h5] at hV; cases hV
      have hl0 : hi - lo = 0 := by rw [hx0] at h2; simp at h2; omega
      have hc0 : c = 0 := by rcases hcase with ⟨_, h⟩ | ⟨h, _⟩ <;> omega
      exact .inl ⟨_, by rw [hl0, hc0], List.eq_nil_of_length_eq_zero (by rw [hlen]; omega)⟩
    · rw [h5] at hV
      cases hV
      rw [← hlen] at hle ⊢
      by_cases hc0 : c = 0
      · subst hc0
        refine .inr ⟨_, o, 0, rfl, hle, Nat.zero_le _, h8, fun i x hx => ?_⟩
        have := (List.getElem?_eq_some_iff.1 hx).1
        omega
      · obtain ⟨ho, hcap⟩ := hcase.resolve_right (fun h => hc0 h.1)
        refine .inr ⟨_, o, c, rfl, hle, by omega, h8, fun i x hx => ?_⟩
        have hx' : xs[lo + i]? = some x := by
          rw [List.getElem?_drop, List.getElem?_take] at hx
          split at hx
          · exact hx
          · cases hx
        obtain ⟨cs, hl, hcs, hr⟩ := h9 _ x hx'
        refine ⟨cs, hl, fun j cc hj => ?_, hr⟩
        have := hcs j cc hj
        rwa [ho, Nat.add_assoc off, ← Nat.add_mul]

theorem SlAt.whole {w : World} {G : Nat → Prop} {α : Type} {R : α → List Value → Prop} {sz : Nat} {xs : List α} {V v : Value} (h : SlAt w G R sz xs V) (hs : SubSl sz xs.length V 0 xs.length v) : SlAt w G R sz xs v := by
  have := h.sub (nn := 0) hs
  rwa [List.take_length, List.drop_zero] at this

theorem RelV.own_lt (hR : RelV n w0 O w a E L V own) {r : Nat} {A : Arr} (h : hget L r = some A) : ∀ b ∈ own r, b < w.heap.size := (hR.heap r A h).lt

/-- An owned array, lent. -/
theorem RelV.lend (hR : RelV n w0 O w a E L V own) {w' : World} (k : Kept [] w w') {H : List Nat} (hH : ∀ b ∈ H, ¬ Good w0 O b) {r : Nat} {A : Arr} (h : hget L r = some A) (hd : ∀ b ∈ own r, b ∉ H) :
    SlAt w' (Good w' H) (RepC w' (Good w' H) A.t) A.t.size A.xs (V r) := by
  have h1 := (hR.heap r A h).keep (w' := w') fun b hb => k.block b (hR.own_lt h b hb) (by simp)
  have hG : ∀ b ∈ own r, Good w' H b := fun b hb => ⟨Nat.lt_of_lt_of_le (hR.own_lt h b hb) k.size, hd b hb⟩
  refine OwnSl.read (fun x cs bi hs hr => ?_) hG h1
  revert hr
  unfold entR
  cases A.bor with
  | true => exact fun hr => hr.1.keep (hR.lendG k hH) (hR.keepG k)
  | false => exact fun hr => OwnC.read (fun b hb => hG b (hs b hb)) hr

theorem repB_keep {w w' : World} {G G' : Nat → Prop} (hG : ∀ b, G b → G' b) (hw : ∀ b, G b → w'.heap[b]? = w.heap[b]?) {A : Atom} {v : Value} (h : RepB w G A v) : RepB w' G' A v := by
  cases A with
  | val u => exact h
  | sl t xs => exact SlAt.keep (fun _ _ => RepC.keep hG hw) hG hw h
  | ptr t x =>
    obtain ⟨b, off, cs, rfl, hb, hc, hr⟩ := h
    exact ⟨b, off, cs, rfl, hG b hb, hc.keep (hw b hb), hr.keep hG hw⟩
  | st t x =>
    obtain ⟨cs, rfl, hr⟩ := h
    exact ⟨cs, rfl, hr.keep hG hw⟩
  | junk => trivial
  | osl _ _ => exact h
  | optr _ _ _ => exact h

theorem decB_rep {w : World} {G : Nat → Prop} {t : Ty} {A : Atom} {x : t.den} {v : Value} (h : RepB w G A v) (hd : decB t A = some x) : RepB w G (toAtom t x) v := by
  obtain ⟨cs, hr, rfl⟩ := decB_spec h hd
  exact hr.repB

theorem decV_rep (hR : RelV n w0 O w a E L V own) {w' : World} (k : Kept [] w w') {H : List Nat} (hH : ∀ b ∈ H, ¬ Good w0 O b) {t : Ty} {A : Atom} {x : t.den} {v : Value} (hA : RepA w0 (Good w0 O) L V A v)
    (hd : decV L t A = some x) (hdis : ∀ r ∈ refA A, ∀ b ∈ own r, b ∉ H) : RepB w' (Good w' H) (toAtom t x) v := by
  have borrowed : decB t A = some x → RepB w' (Good w' H) (toAtom t x) v := fun h =>
    decB_rep (repB_keep (hR.lendG k hH) (hR.keepG k) (repB_of_decB hA h)) h
  unfold decV at hd
  split at hd
  · rename_i e r rg
    split at hd
    · rename_i B hB
      split at hd
      · rename_i hBe
        subst hBe
        obtain ⟨B', hB', _, hs⟩ := hA
        rw [hB] at hB'; cases hB'
        have hsl := hR.lend k hH hB (hdis r (by simp [refA]))
        cases rg with
        | none =>
          cases hd
          exact hsl.whole hs
        | some q =>
          obtain ⟨lo, hi⟩ := q
          cases hd
          exact hsl.sub (nn := 0) hs
      · cases hd
    · cases hd
  · exact borrowed hd

theorem castT_rep {w : World} {G : Nat → Prop} {t t' : Ty} (h : t' = t) {x : t'.den} {v : Value} (hp : PtrAt w G t' x v) : PtrAt w G t (castT h x) v := by
  subst h; exact hp

theorem decP_rep (hR : RelV n w0 O w a E L V own) {w' : World} (k : Kept [] w w') {H : List Nat} (hH : ∀ b ∈ H, ¬ Good w0 O b) {t : Ty} {A : Atom} {x : t.den} {v : Value} (hA : RepA w0 (Good w0 O) L V A v)
    (hd : decP L t A = some x) (hdis : ∀ r ∈ refA A, ∀ b ∈ own r, b ∉ H) : PtrAt w' (Good w' H) t x v := by
  unfold decP at hd
  split at hd
  · rename_i t' y
    split at hd
    · rename_i ht
      cases hd
      exact castT_rep ht (repB_keep (A := .ptr t' y) (hR.lendG k hH) (hR.keepG k) hA)
    · cases hd
  · rename_i r i p
    split at hd
    · rename_i B hB
      split at hd
      · rename_i d hpd
        split at hd
        · rename_i ht
          cases hd
          refine castT_rep ht ?_
          obtain ⟨B', hB', hi, b, off, m, cap, po, t', hv, hp, rfl⟩ := hA
          rw [hB] at hB'; cases hB'
          have hown := hR.heap r B hB
          obtain ⟨cs, bi, hc, ho, hsub, hb⟩ := own_elem hown hv (getD_of_lt B.xs i B.t.dflt hi)
          have hdis' := hdis r (by simp [refA])
          have hblt : ∀ c ∈ own r, c < w.heap.size := hR.own_lt hB
          have hG : ∀ c ∈ own r, Good w' H c := fun c hc => ⟨Nat.lt_of_lt_of_le (hblt c hc) k.size, hdis' c hc⟩
          have hrep : t' = d.t ∧ RepC w' (Good w' H) d.t d.x ((cs.drop po).take d.t.size) := by
            revert ho
            unfold entR
            cases hbor : B.bor with
            | true =>
              intro ho
              obtain ⟨o, ho1, ho2, ho3⟩ := pathD_rep hpd ho.1
              rw [hp] at ho1; cases ho1
              exact ⟨rfl, ho2.keep (hR.lendG k hH) (hR.keepG k)⟩
            | false =>
              intro ho
              obtain ⟨o, bs', ho1, ho2, ho3, ho4⟩ := pathD_own hpd ho
              rw [hp] at ho1; cases ho1
              exact ⟨rfl, (ho2.keep (w' := w') fun c hc => k.block c (hblt c (hsub c (ho4 c hc))) (by simp)).read fun c hc => hG c (hsub c (ho4 c hc))⟩
          obtain ⟨rfl, hrep⟩ := hrep
          exact ⟨b, _, (cs.drop po).take d.t.size, rfl, hG b hb, (hc.sub po _).keep (k.block b (hblt b hb) (by simp)), hrep⟩
        · cases hd
      · cases hd
    · cases hd
  · cases hd

theorem decCaps_rep (hR : RelV n w0 O w a E L V own) {w' : World} (k : Kept [] w w') {H : List Nat} (hH : ∀ b ∈ H, ¬ Good w0 O b) : ∀ {caps : List (Bool × Ty)} {ats : List Atom} {x : capsDen caps} {us : List Nat} {vs : List Value},
    decCaps L caps ats = some (x, us) → RepAs w0 (Good w0 O) L V ats vs → (∀ r ∈ us, ∀ b ∈ own r, b ∉ H) → CapsRep w' (Good w' H) caps x vs
  | [], [], x, us, vs, h, hr, _ => hr
  | (true, t) :: r, A :: s, x, us, vs, h, hr, hd => by
    obtain ⟨v, vs', rfl, h1, h2⟩ := hr
    simp only [decCaps] at h
    split at h
    · rename_i y z us' hy hz
      cases h
      exact ⟨v, vs', rfl, decP_rep hR k hH h1 hy (fun r hr => hd r (List.mem_append_left _ hr)), decCaps_rep hR k hH hz h2 (fun r hr => hd r (List.mem_append_right _ hr))⟩
    · cases h
  | (false, t) :: r, A :: s, x, us, vs, h, hr, hd => by
    obtain ⟨v, vs', rfl, h1, h2⟩ := hr
    simp only [decCaps] at h
    split at h
    · rename_i y z us' hy hz
      cases h
      exact ⟨v, vs', rfl, decB_rep (repB_keep (hR.lendG k hH) (hR.keepG k) (repB_of_decB h1 hy)) hy, decCaps_rep hR k hH hz h2 hd⟩
    · cases h
  | [], _ :: _, _, _, _, h, _, _ => by cases h
  | (true, _) :: _, [], _, _, _, h, _, _ => by cases h
  | (false, _) :: _, [], _, _, _, h, _, _ => by cases h

def RepPs (w0 : World) (G : Nat → Prop) (L : Heap) (V : Nat → Value) : List PV → List Value → Prop
  | [], vs => vs = []
  | p :: r, vs => ∃ v s, vs = v :: s ∧ RepP w0 G L V p v ∧ RepPs w0 G L V r s

theorem RelV.opnds (hR : RelV n w0 O w a E L V own) : ∀ xs : List Operand, RepPs w0 (Good w0 O) L V (xs.map (Am.opnd E)) (xs.map a.eval)
  | [] => rfl
  | x :: r => ⟨_, _, rfl, hR.opnd x, hR.opnds r⟩

theorem repPs_atoms : ∀ {ats : List Atom} {vs : List Value}, RepAs w0 G L V ats vs → RepPs w0 G L V (ats.map PV.a) vs
  | [], vs, h => h
  | A :: s, vs, ⟨v, r, h, h1, h2⟩ => ⟨v, r, h, h1, repPs_atoms h2⟩

theorem repPs_append : ∀ {ps qs : List PV} {vs us : List Value}, RepPs w0 G L V ps vs → RepPs w0 G L V qs us → RepPs w0 G L V (ps ++ qs) (vs ++ us)
  | [], qs, vs, us, h, h2 => by cases h; exact h2
  | p :: r, qs, vs, us, ⟨v, s, h, h1, h3⟩, h2 => by subst h; exact ⟨v, _, rfl, h1, repPs_append h3 h2⟩

def ownOf (own : Nat → List Nat) (os : List (List Nat)) : List (List Nat) := os.map fun l => (l.map own).flatten

theorem castL_own {w : World} {t t' : Ty} (h : t' = t) {xs : List t'.den} {cs : List Value} {bs : List Nat} (hp : OwnC w (.sl t') xs cs bs) : OwnC w (.sl t) (castL h xs) cs bs := by
  subst h; exact hp

theorem decArgs_rep (hR : RelV n w0 O w a E L V own) {w' : World} (k : Kept [] w w') {H : List Nat} (hH : ∀ b ∈ H, ¬ Good w0 O b) : ∀ {sig : List AT} {ps : List PV} {vs : List Value} {x : sigDen sig} {os : List (List Nat)} {us : List Nat},
    RepPs w0 (Good w0 O) L V ps vs → decArgs L sig ps = some (x, os, us) → (∀ r ∈ us, ∀ b ∈ own r, b ∉ H) → ArgsRep w' (Good w' H) sig x vs (ownOf own os)
  | [], [], vs, x, os, us, hp, h, _ => by cases h; cases hp; exact ⟨rfl, rfl⟩
  | t :: r, y :: s, vs, x, os, us, ⟨v, vs', hvs, hpy, hps⟩, h, hd => by
    subst hvs
    simp only [decArgs] at h
    split at h
    · rename_i z o u zs os' us' h1 h2
      cases h
      have ih := decArgs_rep hR k hH hps h2 (fun r hr => hd r (List.mem_append_right _ hr))
      have hd1 := fun r hr => hd r (List.mem_append_left us' hr)
      refine ⟨_, _, (o.map own).flatten, ownOf own os', rfl, rfl, ?_, ih⟩
      cases t with
      | v t =>
        cases y with
        | a A =>
          simp only [decA] at h1
          split at h1
          · rename_i q hq
            cases h1
            exact ⟨rfl, decV_rep hR k hH (hpy) hq hd1⟩
          · cases h1
        | tup _ => cases h1
        | fn _ _ => cases h1
      | p t =>
        cases y with
        | a A =>
          simp only [decA] at h1
          split at h1
          · rename_i q hq
            cases h1
            exact ⟨rfl, decP_rep hR k hH (hpy) hq hd1⟩
          · cases h1
        | tup _ => cases h1
        | fn _ _ => cases h1
      | own t =>
        cases y with
        | a A =>
          cases A with
          | osl r rg =>
            cases rg with
            | none =>
              simp only [decA] at h1
              split at h1
              · rename_i B hB
                split at h1
                · cases h1
                rename_i hbor
                split at h1
                · rename_i ht
                  cases h1
                  obtain ⟨B', hB', hve, hs⟩ := hpy
                  rw [hB] at hB'; cases hB'
                  obtain ⟨tB, xB, bB⟩ := B
                  simp only at hbor
                  subst hbor
                  have hown := (hR.heap r _ hB).keep (w' := w') fun b hb => k.block b (hR.own_lt hB b hb) (by simp)
                  have hv : v = V r := hve rfl
                  simp only [List.map_cons, List.map_nil, List.flatten_cons, List.flatten_nil, List.append_nil]
                  rw [hv]
                  exact castL_own ht (EntC.own.1 hown)
                · cases h1
              · cases h1
            | some q => cases h1
          | _ => cases h1
        | tup _ => cases h1
        | fn _ _ => cases h1
      | fn f caps =>
        cases y with
        | a A => cases h1
        | tup _ => cases h1
        | fn g ats =>
          simp only [decA] at h1
          split at h1
          · rename_i q us'' hfg hq
            cases h1
            obtain ⟨vs, hv, hr⟩ := hpy
            obtain rfl := Nat.eq_of_beq_eq_true hfg
            exact ⟨rfl, vs, hv, decCaps_rep hR k hH hq hr hd1⟩
          · cases h1
    · cases h
  | [], _ :: _, _, _, _, _, _, h, _ => by cases h
  | _ :: _, [], _, _, _, _, _, h, _ => by cases h
end
end Go.Am

/- The abstract machine, part 10: calls by contract are sound. -/
namespace Go.Am
set_option linter.unusedVariables false
set_option linter.unusedSimpArgs false

def refsP : PV → List Nat
  | .a A => refA A
  | .tup xs => xs.flatMap refA
  | .fn _ xs => xs.flatMap refA

def killP (r : Nat) (p : PV) : PV := match memB r (refsP p) with | true => .a .junk | false => p
def killE (r : Nat) (E : Env) : Env := E.map fun q => (q.1, killP r q.2)

theorem killP_junk (r : Nat) : killP r (.a .junk) = .a .junk := rfl

theorem get_killE (r : Nat) : ∀ (E : Env) (i : Nat), (killE r E).get i = killP r (E.get i)
  | [], i => rfl
  | (j, p) :: s, i => by
    simp only [killE, List.map_cons, Env.get]
    cases h : Nat.beq j i with
    | true => rfl
    | false => exact get_killE r s i

theorem killP_refs {r : Nat} {p : PV} : r ∉ refsP (killP r p) ∧ ∀ s ∈ refsP (killP r p), s ∈ refsP p := by
  unfold killP
  cases h : memB r (refsP p) with
  | true => simp [refsP, refA]
  | false =>
    refine ⟨fun hm => ?_, fun _ h => h⟩
    rw [memB_iff.2 hm] at h
    cases h

/-- For the abstract values that name r nothing has turned. -/
def Agree (L : Heap) (V : Nat → Value) (L' : Heap) (V' : Nat → Value) (r : Nat) : Prop :=
  V' r = V r ∧ ∀ A, hget L r = some A → ∃ A', hget L' r = some A' ∧ A'.t = A.t ∧ A'.xs.length = A.xs.length

theorem repA_agree {w0 : World} {G : Nat → Prop} {L L' : Heap} {V V' : Nat → Value} {A : Atom} {v : Value} (h : RepA w0 G L V A v) (ha : ∀ r ∈ refA A, Agree L V L' V' r) : RepA w0 G L' V' A v := by
  cases A with
  | osl r rg =>
    obtain ⟨B, hB, h1, h2⟩ := h
    obtain ⟨hV, hL⟩ := ha r (by simp [refA])
    obtain ⟨B', hB', ht, hl⟩ := hL B hB
    exact ⟨B', hB', by rw [hV]; exact h1, by rw [hV, hl, ht]; exact h2⟩
  | optr r i p =>
    obtain ⟨B, hB, h2⟩ := h
    obtain ⟨hV, hL⟩ := ha r (by simp [refA])
    obtain ⟨B', hB', ht, hl⟩ := hL B hB
    exact ⟨B', hB', by rw [hV, hl, ht]; exact h2⟩
  | _ => exact h

theorem repAs_agree {w0 : World} {G : Nat → Prop} {L L' : Heap} {V V' : Nat → Value} : ∀ {ats : List Atom} {vs : List Value}, RepAs w0 G L V ats vs → (∀ r ∈ ats.flatMap refA, Agree L V L' V' r) → RepAs w0 G L' V' ats vs
  | [], _, h, _ => h
  | A :: s, vs, ⟨v, r, h, h1, h2⟩, ha => ⟨v, r, h, repA_agree h1 (fun r hr => ha r (by simp [hr])), repAs_agree h2 (fun r hr => ha r (by simp only [List.flatMap_cons, List.mem_append]; exact .inr hr))⟩

theorem repP_agree {w0 : World} {G : Nat → Prop} {L L' : Heap} {V V' : Nat → Value} {p : PV} {v : Value} (h : RepP w0 G L V p v) (ha : ∀ r ∈ refsP p, Agree L V L' V' r) : RepP w0 G L' V' p v := by
  cases p with
  | a A => exact repA_agree h ha
  | tup xs => obtain ⟨vs, hv, hr⟩ := h; exact ⟨vs, hv, repAs_agree hr ha⟩
  | fn f xs => obtain ⟨vs, hv, hr⟩ := h; exact ⟨vs, hv, repAs_agree hr ha⟩

theorem repP_kill {w0 : World} {G : Nat → Prop} {L : Heap} {V : Nat → Value} {p : PV} {v : Value} (r : Nat) (h : RepP w0 G L V p v) : RepP w0 G L V (killP r p) v := by
  unfold killP
  cases memB r (refsP p) with
  | true => trivial
  | false => exact h

theorem repA_live {w0 : World} {G : Nat → Prop} {L : Heap} {V : Nat → Value} {A : Atom} {v : Value} (h : RepA w0 G L V A v) : ∀ r ∈ refA A, ∃ B, hget L r = some B := by
  cases A with
  | osl r rg => obtain ⟨B, hB, _⟩ := h; intro s hs; simp [refA] at hs; subst hs; exact ⟨B, hB⟩
  | optr r i p => obtain ⟨B, hB, _⟩ := h; intro s hs; simp [refA] at hs; subst hs; exact ⟨B, hB⟩
  | _ => intro s hs; simp [refA] at hs

theorem repAs_live {w0 : World} {G : Nat → Prop} {L : Heap} {V : Nat → Value} : ∀ {ats : List Atom} {vs : List Value}, RepAs w0 G L V ats vs → ∀ r ∈ ats.flatMap refA, ∃ B, hget L r = some B
  | [], _, _, r, hr => by simp at hr
  | A :: s, vs, ⟨v, q, h, h1, h2⟩, r, hr => by
    simp only [List.flatMap_cons, List.mem_append] at hr
    rcases hr with hr | hr
    · exact repA_live h1 r hr
    · exact repAs_live h2 r hr

theorem repP_live {w0 : World} {G : Nat → Prop} {L : Heap} {V : Nat → Value} {p : PV} {v : Value} (h : RepP w0 G L V p v) : ∀ r ∈ refsP p, ∃ B, hget L r = some B := by
  cases p with
  | a A => exact repA_live h
  | tup xs => obtain ⟨vs, hv, hr⟩ := h; exact repAs_live hr
  | fn f xs => obtain ⟨vs, hv, hr⟩ := h; exact repAs_live hr

def upd1 {β : Type} (f : Nat → β) (r : Nat) (x : β) : Nat → β := fun s => cond (Nat.beq s r) x (f s)

theorem upd1_same {β : Type} (f : Nat → β) (r : Nat) (x : β) : upd1 f r x r = x := by simp [upd1]
theorem upd1_other {β : Type} (f : Nat → β) {r s : Nat} (x : β) (h : s ≠ r) : upd1 f r x s = f s := by
  simp only [upd1, nbeq_false h, cond_false]

section
variable {P : Program} {n : Nat} {w0 w : World} {O : List Nat} {a : Act} {E : Env} {L : Heap} {V : Nat → Value} {own : Nat → List Nat}

/-- **A new owned array.** -/
theorem RelV.grow (hR : RelV n w0 O w a E L V own) {A0 : Arr} {v : Value} {bs : List Nat} (ho : EntC w0 (Good w0 O) w A0 v bs) (hn : bs.Nodup) (hg : ∀ b ∈ bs, ¬ Good w0 O b)
    (hd : ∀ r A, hget L r = some A → ∀ b ∈ own r, b ∉ bs) : RelV n w0 O w a E (L ++ [some A0]) (upd1 V L.length v) (upd1 own L.length bs) := by
  have hsplit : ∀ r A, hget (L ++ [some A0]) r = some A → (r ≠ L.length ∧ hget L r = some A) ∨ (r = L.length ∧ A = A0) := by
    intro r A h
    rw [hget_append] at h
    split at h
    · rename_i hlt; exact .inl ⟨by omega, h⟩
    · rename_i hge
      have : r - L.length = 0 := by
        cases hk : r - L.length with
        | zero => rfl
        | succ k => rw [hk] at h; simp [hget] at h
      rw [this] at h
      simp only [hget, Option.some.injEq] at h
      exact .inr ⟨by omega, h.symm⟩
  have hagree : ∀ r, (∃ B, hget L r = some B) → Agree L V (L ++ [some A0]) (upd1 V L.length v) r := by
    rintro r ⟨B, hB⟩
    have hlt := hget_lt hB
    refine ⟨upd1_other _ _ (by omega), fun A hA => ⟨A, ?_, rfl, rfl⟩⟩
    rw [hget_append, if_pos hlt]; exact hA
  refine ⟨hR.glob, hR.kept, hR.size, hR.defers, ?_, ?_, ?_, ?_, fun i => repP_agree (hR.env i) fun r hr => hagree r (repP_live (hR.env i) r hr)⟩
  · intro r A h
    rcases hsplit r A h with ⟨hne, h⟩ | ⟨rfl, rfl⟩
    · rw [upd1_other _ _ hne, upd1_other _ _ hne]; exact hR.heap r A h
    · rw [upd1_same, upd1_same]; exact ho
  · intro r A h
    rcases hsplit r A h with ⟨hne, h⟩ | ⟨rfl, rfl⟩
    · rw [upd1_other _ _ hne]; exact hR.good r A h
    · rw [upd1_same]; exact hg
  · intro r A h
    rcases hsplit r A h with ⟨hne, h⟩ | ⟨rfl, rfl⟩
    · rw [upd1_other _ _ hne]; exact hR.nodup r A h
    · rw [upd1_same]; exact hn
  · intro r s A B h1 h2 hrs
    rcases hsplit r A h1 with ⟨hne, g1⟩ | ⟨rfl, rfl⟩
    · rcases hsplit s B h2 with ⟨hne', g2⟩ | ⟨rfl, rfl⟩
      · rw [upd1_other _ _ hne, upd1_other _ _ hne']; exact hR.apart r s A B g1 g2 hrs
      · rw [upd1_same, upd1_other _ _ hne]; exact hd r A g1
    · rcases hsplit s B h2 with ⟨hne', g2⟩ | ⟨rfl, rfl⟩
      · rw [upd1_same, upd1_other _ _ hne']
        intro b hb hb'
        exact hd s B g2 b hb' hb
      · exact absurd rfl hrs

theorem repA_new {A0 : Arr} {v : Value} {bs : List Nat} {G G' : Nat → Prop} {u : World} (h : EntC u G' w A0 v bs) : RepA w0 G (L ++ [some A0]) (upd1 V L.length v) (.osl L.length none) v := by
  have hg : hget (L ++ [some A0]) L.length = some A0 := by
    rw [hget_append, if_neg (Nat.lt_irrefl _), Nat.sub_self]; rfl
  refine ⟨_, hg, fun _ => (upd1_same _ _ _).symm, ?_⟩
  rw [upd1_same]
  refine ⟨Nat.zero_le _, Nat.le_refl _, ?_⟩
  rcases h.2 with ⟨ad, h1, h2, _⟩ | ⟨b, off, cap, cur, ty, fz, bss, h1, h2, h3, h4, h5, h6, h7, h8, h9⟩
  · exact .inl ⟨ad, ad, h1, h1, by rw [h2]; exact ⟨rfl, rfl⟩⟩
  · exact .inr ⟨b, off, A0.xs.length, cap, off, cap, h1, by rw [h1]; rfl, by simpa [rgLo, rgHi] using h2, .inl ⟨by simp [rgLo], by simp [rgLo]⟩⟩

/-! ### Results -/

def resA (k : Nat) : List Dyn → Option (List Atom × Heap)
  | [] => some ([], [])
  | ⟨.sl e, xs⟩ :: r => match resA (k + 1) r with
    | some (ats, es) => some (.osl k none :: ats, some ⟨e, xs, false⟩ :: es)
    | none => none
  | ⟨t, x⟩ :: r => match t.flat, resA k r with
    | true, some (ats, es) => some (toAtom t x :: ats, es)
    | _, _ => none

theorem own_toAtom {t : Ty} {x : t.den} {cs : List Value} {bs : List Nat} (hf : t.flat = true) (h : OwnC w t x cs bs) {v : Value} (hv : IsVal t cs v) (G : Nat → Prop) :
    RepA w0 G L V (toAtom t x) v ∧ bs = [] := by
  obtain ⟨hr, hb⟩ := h.flat (w' := w0) (G := G) hf
  have : v = valOf t cs := by
    cases t <;> simp only [IsVal] at hv <;> subst hv <;> rfl
  subst this
  exact ⟨repA_toAtom hr.repB, hb⟩

theorem nodup_flatten_cons {b : List Nat} {bs : List (List Nat)} (h : (b :: bs).flatten.Nodup) : b.Nodup ∧ bs.flatten.Nodup ∧ ∀ x ∈ b, x ∉ bs.flatten := by
  rw [List.flatten_cons, List.nodup_append] at h
  exact ⟨h.1, h.2.1, fun x hx hm => h.2.2 x hx x hm rfl⟩

theorem res_spec : ∀ {ds : List Dyn} {L : Heap} {V : Nat → Value} {own : Nat → List Nat} {ats : List Atom} {es : Heap} {rs : List Value} {rbs : List (List Nat)},
    RelV n w0 O w a E L V own → resA L.length ds = some (ats, es) → ResRep w ds rs rbs → rbs.flatten.Nodup → (∀ b ∈ rbs.flatten, ¬ Good w0 O b) → (∀ r A, hget L r = some A → ∀ b ∈ own r, b ∉ rbs.flatten) →
    ∃ V' own', RelV n w0 O w a E (L ++ es) V' own' ∧ RepAs w0 (Good w0 O) (L ++ es) V' ats rs ∧ ats.length = rs.length ∧ (∀ r, (∃ B, hget L r = some B) → Agree L V (L ++ es) V' r) ∧ (∀ r, r < L.length → V' r = V r ∧ own' r = own r) ∧ (∀ r, L.length ≤ r → r < L.length + es.length → ∀ b ∈ own' r, b ∈ rbs.flatten)
  | [], L, V, own, ats, es, rs, rbs, hR, h, hr, _, _, _ => by
    cases h
    obtain ⟨rfl, _⟩ := hr
    refine ⟨V, own, by rw [List.append_nil]; exact hR, rfl, rfl, (fun r _ => ⟨rfl, fun A hA => ⟨A, by rw [List.append_nil]; exact hA, rfl, rfl⟩⟩), (fun r _ => ⟨rfl, rfl⟩), fun r h1 h2 => by simp at h2; omega⟩
  | ⟨t, x⟩ :: ds, L, V, own, ats, es, rs, rbs, hR, h, hr, hn, hg, hd => by
    obtain ⟨v, s, b, bs, cs, rfl, rfl, ho, hv, hr⟩ := hr
    obtain ⟨hn1, hn2, hn3⟩ := nodup_flatten_cons hn
    have hg1 : ∀ c ∈ b, ¬ Good w0 O c := fun c hc => hg c (by simp [hc])
    have hg2 : ∀ c ∈ bs.flatten, ¬ Good w0 O c := fun c hc => hg c (by rw [List.flatten_cons]; exact List.mem_append_right _ hc)
    by_cases hsl : ∃ e, t = .sl e
    · obtain ⟨e, rfl⟩ := hsl
      simp only [resA] at h
      split at h
      · rename_i ats' es' h'
        cases h
        simp only [IsVal] at hv
        subst hv
        have hR' := hR.grow (EntC.own.2 ho) hn1 hg1 (fun r A hA c hc hm => hd r A hA c hc (by simp [hm]))
        have hlen : (L ++ [some (⟨e, x, false⟩ : Arr)]).length = L.length + 1 := by simp
        have hnew : RepA w0 (Good w0 O) (L ++ [some ⟨e, x, false⟩]) (upd1 V L.length v) (.osl L.length none) v := repA_new (u := w0) (G' := Good w0 O) (EntC.own.2 ho)
        obtain ⟨V', own', h1, h2, h3, h4, h5, h6⟩ := res_spec hR' (by rw [hlen]; exact h') hr hn2 hg2 (by
          intro r A hA c hc hm
          rw [hget_append] at hA
          split at hA
          · rename_i hlt
            rw [upd1_other _ _ (by omega)] at hc
            exact hd r A hA c hc (by rw [List.flatten_cons]; exact List.mem_append_right _ hm)
          · rename_i hge
            have hlt := hget_lt (L := [some (⟨e, x, false⟩ : Arr)]) hA
            have : r = L.length := by simp at hlt; omega
            subst this
            rw [upd1_same] at hc
            exact hn3 c hc hm)
        rw [List.append_assoc] at h1 h2 h4
        refine ⟨V', own', h1, ⟨v, s, rfl, ?_, h2⟩, by simp [h3], fun r hr => ?_, fun r hr => ?_, fun r hr hr2 c hc => ?_⟩
        · refine repA_agree hnew fun r hr => ?_
          exact h4 r (repA_live hnew r hr)
        · have a1 : Agree L V (L ++ [some ⟨e, x, false⟩]) (upd1 V L.length v) r := by
            obtain ⟨B, hB⟩ := hr
            have hlt := hget_lt hB
            refine ⟨upd1_other _ _ (by omega), fun A hA => ⟨A, ?_, rfl, rfl⟩⟩
            rw [hget_append, if_pos hlt]; exact hA
          obtain ⟨B, hB⟩ := hr
          obtain ⟨B', hB', _⟩ := a1.2 B hB
          have a2 := h4 r ⟨B', hB'⟩
          refine ⟨a2.1.trans a1.1, fun A hA => ?_⟩
          obtain ⟨A', hA', ht, hl⟩ := a1.2 A hA
          obtain ⟨A'', hA'', ht', hl'⟩ := a2.2 A' hA'
          exact ⟨A'', hA'', ht'.trans ht, hl'.trans hl⟩
        · obtain ⟨e1, e2⟩ := h5 r (by rw [hlen]; omega)
          rw [e1, e2, upd1_other _ _ (by omega), upd1_other _ _ (by omega)]
          exact ⟨rfl, rfl⟩
        · by_cases hre : r = L.length
          · subst hre
            rw [(h5 _ (by rw [hlen]; omega)).2, upd1_same] at hc
            simp [hc]
          · have := h6 r (by rw [hlen]; omega) (by rw [hlen]; simp at hr2; omega) c hc
            rw [List.flatten_cons]
            exact List.mem_append_right _ this
      · cases h
    · have h' : ∃ ats', t.flat = true ∧ resA L.length ds = some (ats', es) ∧ ats = toAtom t x :: ats' := by
        cases t with
        | sl e => exact absurd ⟨e, rfl⟩ hsl
        | _ =>
          simp only [resA] at h
          split at h
          · rename_i ats' es' hf h'
            cases h
            exact ⟨ats', hf, h', rfl⟩
          · cases h
      obtain ⟨ats', hf, h', rfl⟩ := h'
      obtain ⟨V', own', h1, h2, h3, h4, h5, h6⟩ := res_spec hR h' hr hn2 hg2 (fun r A hA c hc hm => hd r A hA c hc (by rw [List.flatten_cons]; exact List.mem_append_right _ hm))
      exact ⟨V', own', h1, ⟨v, s, rfl, (own_toAtom hf ho hv _).1, h2⟩, by simp [h3], h4, h5, fun r hr hr2 c hc => by rw [List.flatten_cons]; exact List.mem_append_right _ (h6 r hr hr2 c hc)⟩
end
end Go.Am

/- The abstract machine, part 11: the call. -/
namespace Go.Am
set_option linter.unusedVariables false
set_option linter.unusedSimpArgs false

/-- The owned arguments behind the call. -/
def updA : List Nat → List (Option Lst) → Env → Heap → Option (List Prop × Env × Heap)
  | [], [], E, L => some ([], E, L)
  | r :: rs, none :: us, E, L => updA rs us (killE r E) (hset L r none)
  | r :: rs, some A' :: us, E, L => match hget L r with
    | some A => match decide (A'.t = A.t), updA rs us E (hset L r (some ⟨A'.t, A'.xs, false⟩)) with
      | true, some (cs, E', L') => some ((A'.xs.length = A.xs.length) :: cs, E', L')
      | _, _ => none
    | none => none
  | _, _, _, _ => none

def packA : List Atom → PV
  | [A] => .a A
  | ats => .tup ats

/-- **The call of a function with a contract.** -/
def callA (ext : Ext) (E : Env) (L : Heap) (f : FuncId) (ps : List PV) : Option (List Prop × PV × Env × Heap) :=
  match ext with
  | [] => none
  | (g, S) :: r => match Nat.beq f g with
    | true => match decArgs L S.sig ps with
      | some (x, os, us) => match disjB os.flatten us && nodupB os.flatten, updA os.flatten (S.upd x) E L with
        | true, some (cs, E', L') => match resA L'.length (S.res x) with
          | some (ats, es) => some (S.pre x :: cs, packA ats, E', L' ++ es)
          | none => callA r E L f ps
        | _, _ => callA r E L f ps
      | none => callA r E L f ps
    | false => callA r E L f ps

section
variable {P : Program} {n : Nat} {w0 w : World} {O : List Nat} {a : Act} {E : Env} {L : Heap} {V : Nat → Value} {own : Nat → List Nat}

theorem hget_hset_same {L : Heap} {r : Nat} {x : Option Arr} {A : Arr} (h : hget L r = some A) : hget (hset L r x) r = x := by
  rw [hget_hset, if_pos ⟨rfl, hget_lt h⟩]
theorem hget_hset_other {L : Heap} {r s : Nat} {x : Option Arr} (h : r ≠ s) : hget (hset L r x) s = hget L s := by
  rw [hget_hset, if_neg (fun hh => h hh.1)]

/-- What holds while the owned arguments 'pend' are still to be looked at. -/
structure Pend (n : Nat) (w0 : World) (O : List Nat) (w : World) (a : Act) (E : Env) (L : Heap) (V : Nat → Value) (own : Nat → List Nat) (pend : List Nat) (rest : List Nat) : Prop where
  glob : GOk w0 O
  kept : Kept O w0 w
  size : a.tmps.size = n
  defers : a.defers = []
  heap : ∀ r A, hget L r = some A → r ∉ pend → EntC w0 (Good w0 O) w A (V r) (own r)
  good : ∀ r A, hget L r = some A → r ∉ pend → ∀ b ∈ own r, ¬ Good w0 O b
  nodup : ∀ r A, hget L r = some A → r ∉ pend → (own r).Nodup
  apart : ∀ r s A B, hget L r = some A → hget L s = some B → r ∉ pend → s ∉ pend → r ≠ s → ∀ b ∈ own r, b ∉ own s
  env : ∀ i, RepP w0 (Good w0 O) L V (E.get i) (a.tmps.getD i undef)
  live : ∀ r ∈ pend, ∃ A, hget L r = some A
  rest : ∀ r A, hget L r = some A → r ∉ pend → ∀ b ∈ own r, b ∉ rest

theorem Pend.done {rest : List Nat} (h : Pend n w0 O w a E L V own [] rest) : RelV n w0 O w a E L V own :=
  ⟨h.glob, h.kept, h.size, h.defers, fun r A hA => h.heap r A hA (by simp), fun r A hA => h.good r A hA (by simp), fun r A hA => h.nodup r A hA (by simp), fun r s A B h1 h2 => h.apart r s A B h1 h2 (by simp) (by simp), h.env⟩

theorem upd_spec : ∀ {rs : List Nat} {us : List (Option Lst)} {E : Env} {L : Heap} {own : Nat → List Nat} {cs : List Prop} {E' : Env} {L' : Heap} {ubs : List (List Nat)} {rest : List Nat},
    Pend n w0 O w a E L V own rs (ubs.flatten ++ rest) → rs.Nodup → updA rs us E L = some (cs, E', L') → All cs → UpdRep w us (rs.map V) ubs → (ubs.flatten ++ rest).Nodup → (∀ b ∈ ubs.flatten, ¬ Good w0 O b) →
    ∃ own', RelV n w0 O w a E' L' V own' ∧ (∀ r A, hget L' r = some A → ∀ b ∈ own' r, b ∉ rest) ∧ (∀ r, r ∉ rs → own' r = own r ∧ hget L' r = hget L r)
  | [], [], E, L, own, cs, E', L', ubs, rest, hp, _, h, _, hu, _, _ => by
    cases h
    exact ⟨own, hp.done, fun r A hA b hb hm => hp.rest r A hA (by simp) b hb (List.mem_append_right _ hm), fun r _ => ⟨rfl, rfl⟩⟩
  | r :: rs, none :: us, E, L, own, cs, E', L', ubs, rest, hp, hnd, h, hc, hu, hn, hg => by
    simp only [updA] at h
    obtain ⟨v, s, bs, hv, rfl, hu⟩ := hu
    simp only [List.map_cons, List.cons.injEq] at hv
    obtain ⟨rfl, rfl⟩ := hv
    obtain ⟨hr, hnd'⟩ := List.nodup_cons.1 hnd
    obtain ⟨A0, hA0⟩ := hp.live r (List.mem_cons_self ..)
    simp only [List.flatten_cons, List.nil_append] at hn hg
    have hback : ∀ s A, hget (hset L r none) s = some A → s ≠ r ∧ hget L s = some A := by
      intro s A hs
      by_cases hsr : s = r
      · subst hsr; rw [hget_hset_same hA0] at hs; cases hs
      · exact ⟨hsr, by rwa [hget_hset_other (Ne.symm hsr)] at hs⟩
    have hpend : ∀ s, s ≠ r → s ∉ rs → s ∉ r :: rs := fun s h1 h2 hm => by
      rcases List.mem_cons.1 hm with h | h
      · exact h1 h
      · exact h2 h
    have hp' : Pend n w0 O w a (killE r E) (hset L r none) V own rs (bs.flatten ++ rest) := by
      refine ⟨hp.glob, hp.kept, hp.size, hp.defers, ?_, ?_, ?_, ?_, fun i => ?_, ?_, ?_⟩
      · intro s A hs hm; obtain ⟨h1, h2⟩ := hback s A hs; exact hp.heap s A h2 (hpend s h1 hm)
      · intro s A hs hm; obtain ⟨h1, h2⟩ := hback s A hs; exact hp.good s A h2 (hpend s h1 hm)
      · intro s A hs hm; obtain ⟨h1, h2⟩ := hback s A hs; exact hp.nodup s A h2 (hpend s h1 hm)
      · intro s t A B hs ht hm hm' hst
        obtain ⟨h1, h2⟩ := hback s A hs
        obtain ⟨h3, h4⟩ := hback t B ht
        exact hp.apart s t A B h2 h4 (hpend s h1 hm) (hpend t h3 hm') hst
      · rw [get_killE]
        refine repP_agree (repP_kill r (hp.env i)) fun s hs => ⟨rfl, fun A hA => ⟨A, ?_, rfl, rfl⟩⟩
        have : s ≠ r := fun e => killP_refs.1 (e ▸ hs)
        rw [hget_hset_other (Ne.symm this)]; exact hA
      · intro s hs
        obtain ⟨A, hA⟩ := hp.live s (List.mem_cons_of_mem _ hs)
        have : s ≠ r := fun e => hr (e ▸ hs)
        exact ⟨A, by rw [hget_hset_other (Ne.symm this)]; exact hA⟩
      · intro s A hs hm
        obtain ⟨h1, h2⟩ := hback s A hs
        have := hp.rest s A h2 (hpend s h1 hm)
        simpa using this
    obtain ⟨own', h1, h2, h3⟩ := upd_spec hp' hnd' h hc hu hn hg
    refine ⟨own', h1, h2, fun s hs => ?_⟩
    have hsr : s ≠ r := fun e => hs (e ▸ List.mem_cons_self ..)
    obtain ⟨e1, e2⟩ := h3 s (fun hm => hs (List.mem_cons_of_mem _ hm))
    exact ⟨e1, by rw [e2, hget_hset_other (Ne.symm hsr)]⟩
  | r :: rs, some A' :: us, E, L, own, cs, E', L', ubs, rest, hp, hnd, h, hc, hu, hn, hg => by
    simp only [updA] at h
    split at h
    · rename_i A hA
      split at h
      · rename_i cs' E'' L'' ht h'
        have ht := of_decide_eq_true ht
        cases h
        obtain ⟨hlen, hc⟩ := hc
        obtain ⟨v, s, b, bs, hv, rfl, ho, hu⟩ := hu
        simp only [List.map_cons, List.cons.injEq] at hv
        obtain ⟨rfl, rfl⟩ := hv
        obtain ⟨hr, hnd'⟩ := List.nodup_cons.1 hnd
        simp only [List.flatten_cons, List.append_assoc] at hn hg
        rw [List.nodup_append] at hn
        obtain ⟨hn1, hn2, hn3⟩ := hn
        have hsplit : ∀ s B, hget (hset L r (some ⟨A'.t, A'.xs, false⟩)) s = some B → (s ≠ r ∧ hget L s = some B) ∨ (s = r ∧ B = ⟨A'.t, A'.xs, false⟩) := by
          intro s B hs
          by_cases hsr : s = r
          · subst hsr; rw [hget_hset_same hA] at hs; cases hs; exact .inr ⟨rfl, rfl⟩
          · exact .inl ⟨hsr, by rwa [hget_hset_other (Ne.symm hsr)] at hs⟩
        have hpend : ∀ s, s ≠ r → s ∉ rs → s ∉ r :: rs := fun s h1 h2 hm => by
          rcases List.mem_cons.1 hm with h | h
          · exact h1 h
          · exact h2 h
        have hold : ∀ s B, hget L s = some B → s ≠ r → s ∉ rs → ∀ c ∈ own s, c ∉ b ∧ c ∉ bs.flatten ++ rest := by
          intro s B hs h1 h2 c hc'
          have := hp.rest s B hs (hpend s h1 h2) c hc'
          simp only [List.flatten_cons, List.append_assoc, List.mem_append, not_or] at this ⊢
          exact this
        have hp' : Pend n w0 O w a E (hset L r (some ⟨A'.t, A'.xs, false⟩)) V (upd1 own r b) rs (bs.flatten ++ rest) := by
          refine ⟨hp.glob, hp.kept, hp.size, hp.defers, ?_, ?_, ?_, ?_, fun i => ?_, ?_, ?_⟩
          · intro s B hs hm
            rcases hsplit s B hs with ⟨h1, h2⟩ | ⟨rfl, rfl⟩
            · rw [upd1_other _ _ h1]; exact hp.heap s B h2 (hpend s h1 hm)
            · rw [upd1_same]; exact EntC.own.2 ho
          · intro s B hs hm
            rcases hsplit s B hs with ⟨h1, h2⟩ | ⟨rfl, rfl⟩
            · rw [upd1_other _ _ h1]; exact hp.good s B h2 (hpend s h1 hm)
            · rw [upd1_same]; exact fun c hc' => hg c (List.mem_append_left _ hc')
          · intro s B hs hm
            rcases hsplit s B hs with ⟨h1, h2⟩ | ⟨rfl, rfl⟩
            · rw [upd1_other _ _ h1]; exact hp.nodup s B h2 (hpend s h1 hm)
            · rw [upd1_same]; exact hn1
          · intro s t B C hs ht' hm hm' hst
            rcases hsplit s B hs with ⟨h1, h2⟩ | ⟨rfl, rfl⟩
            · rcases hsplit t C ht' with ⟨h3, h4⟩ | ⟨rfl, rfl⟩
              · rw [upd1_other _ _ h1, upd1_other _ _ h3]; exact hp.apart s t B C h2 h4 (hpend s h1 hm) (hpend t h3 hm') hst
              · rw [upd1_other _ _ h1, upd1_same]; exact fun c hc' => (hold s B h2 h1 hm c hc').1
            · rcases hsplit t C ht' with ⟨h3, h4⟩ | ⟨rfl, rfl⟩
              · rw [upd1_other _ _ h3, upd1_same]; exact fun c hc' hc2 => (hold t C h4 h3 hm' c hc2).1 hc'
              · exact absurd rfl hst
          · refine repP_agree (hp.env i) fun s hs => ⟨rfl, fun B hB => ?_⟩
            by_cases hsr : s = r
            · subst hsr
              rw [hA] at hB; cases hB
              exact ⟨⟨A'.t, A'.xs, false⟩, hget_hset_same hA, ht, hlen⟩
            · exact ⟨B, by rw [hget_hset_other (Ne.symm hsr)]; exact hB, rfl, rfl⟩
          · intro s hs
            obtain ⟨B, hB⟩ := hp.live s (List.mem_cons_of_mem _ hs)
            have : s ≠ r := fun e => hr (e ▸ hs)
            exact ⟨B, by rw [hget_hset_other (Ne.symm this)]; exact hB⟩
          · intro s B hs hm
            rcases hsplit s B hs with ⟨h1, h2⟩ | ⟨rfl, rfl⟩
            · rw [upd1_other _ _ h1]; exact fun c hc' => (hold s B h2 h1 hm c hc').2
            · rw [upd1_same]; exact fun c hc' hm' => hn3 c hc' c hm' rfl
        obtain ⟨own', h1, h2, h3⟩ := upd_spec hp' hnd' h' hc hu hn2 (fun c hc' => hg c (List.mem_append_right _ hc'))
        refine ⟨own', h1, h2, fun s hs => ?_⟩
        have hsr : s ≠ r := fun e => hs (e ▸ List.mem_cons_self ..)
        obtain ⟨e1, e2⟩ := h3 s (fun hm => hs (List.mem_cons_of_mem _ hm))
        exact ⟨by rw [e1, upd1_other _ _ hsr], by rw [e2, hget_hset_other (Ne.symm hsr)]⟩
      · cases h
    · cases h
  | [], _ :: _, _, _, _, _, _, _, _, _, _, _, h, _, _, _, _ => by cases h
  | _ :: _, [], _, _, _, _, _, _, _, _, _, _, h, _, _, _, _ => by cases h

/-! ### The handed-over and the lent arrays are live -/

theorem decCaps_live (hR : RelV n w0 O w a E L V own) : ∀ {caps : List (Bool × Ty)} {ats : List Atom} {x : capsDen caps} {us : List Nat} {vs : List Value}, decCaps L caps ats = some (x, us) → RepAs w0 (Good w0 O) L V ats vs → ∀ r ∈ us, ∃ A, hget L r = some A
  | [], [], x, us, vs, h, _, r, hr => by cases h; cases hr
  | (true, t) :: c, A :: s, x, us, vs, h, ⟨v, q, _, h1, h2⟩, r, hr => by
    simp only [decCaps] at h
    split at h
    · rename_i y z us' hy hz
      cases h
      rcases List.mem_append.1 hr with hr | hr
      · exact repA_live h1 r hr
      · exact decCaps_live hR hz h2 r hr
    · cases h
  | (false, t) :: c, A :: s, x, us, vs, h, ⟨v, q, _, h1, h2⟩, r, hr => by
    simp only [decCaps] at h
    split at h
    · rename_i y z us' hy hz
      cases h
      exact decCaps_live hR hz h2 r hr
    · cases h
  | [], _ :: _, _, _, _, h, _, _, _ => by cases h
  | (true, _) :: _, [], _, _, _, h, _, _, _ => by cases h
  | (false, _) :: _, [], _, _, _, h, _, _, _ => by cases h

theorem decArgs_live (hR : RelV n w0 O w a E L V own) : ∀ {sig : List AT} {ps : List PV} {vs : List Value} {x : sigDen sig} {os : List (List Nat)} {us : List Nat}, RepPs w0 (Good w0 O) L V ps vs → decArgs L sig ps = some (x, os, us) →
    (∀ r ∈ us, ∃ A, hget L r = some A) ∧ (∀ r ∈ os.flatten, ∃ A, hget L r = some A) ∧ ownVals sig vs = os.flatten.map V
  | [], [], vs, x, os, us, hp, h => by cases h; cases hp; exact ⟨(fun r hr => by cases hr), (fun r hr => by cases hr), rfl⟩
  | t :: q, y :: s, vs, x, os, us, ⟨v, vs', hvs, hpy, hps⟩, h => by
    subst hvs
    simp only [decArgs] at h
    split at h
    · rename_i z o u zs os' us' h1 h2
      cases h
      obtain ⟨i1, i2, i3⟩ := decArgs_live hR hps h2
      have key : (∀ r ∈ u, ∃ A, hget L r = some A) ∧ (∀ r ∈ o, ∃ A, hget L r = some A) ∧ ownVals (t :: q) (v :: vs') = o.map V ++ ownVals q vs' := by
        cases t with
        | v t =>
          cases y with
          | a A =>
            simp only [decA] at h1
            split at h1
            · cases h1
              exact ⟨repA_live (hpy), (fun r hr => by cases hr), rfl⟩
            · cases h1
          | tup _ => cases h1
          | fn _ _ => cases h1
        | p t =>
          cases y with
          | a A =>
            simp only [decA] at h1
            split at h1
            · cases h1
              exact ⟨repA_live (hpy), (fun r hr => by cases hr), rfl⟩
            · cases h1
          | tup _ => cases h1
          | fn _ _ => cases h1
        | own t =>
          cases y with
          | a A =>
            cases A with
            | osl r rg =>
              cases rg with
              | none =>
                simp only [decA] at h1
                split at h1
                · rename_i B hB
                  split at h1
                  · cases h1
                  split at h1
                  · cases h1
                    obtain ⟨B', hB', hve, _⟩ := hpy
                    refine ⟨(fun r hr => by cases hr), (fun r hr => by simp at hr; subst hr; exact ⟨B, hB⟩), ?_⟩
                    simp only [ownVals, List.map_cons, List.map_nil, List.singleton_append, hve rfl]
                  · cases h1
                · cases h1
              | some _ => cases h1
            | _ => cases h1
          | tup _ => cases h1
          | fn _ _ => cases h1
        | fn f caps =>
          cases y with
          | a A => cases h1
          | tup _ => cases h1
          | fn g ats =>
            simp only [decA] at h1
            split at h1
            · rename_i q' us'' hfg hq
              cases h1
              obtain ⟨vs, hv, hr⟩ := hpy
              exact ⟨decCaps_live hR hq hr, (fun r hr => by cases hr), rfl⟩
            · cases h1
      obtain ⟨k1, k2, k3⟩ := key
      refine ⟨fun r hr => ?_, fun r hr => ?_, ?_⟩
      · rcases List.mem_append.1 hr with hr | hr
        · exact k1 r hr
        · exact i1 r hr
      · rw [List.flatten_cons] at hr
        rcases List.mem_append.1 hr with hr | hr
        · exact k2 r hr
        · exact i2 r hr
      · rw [k3, i3, List.flatten_cons, List.map_append]
    · cases h
  | [], _ :: _, _, _, _, _, _, h => by cases h
  | _ :: _, [], _, _, _, _, _, h => by cases h

theorem ownOf_flatten (own : Nat → List Nat) : ∀ os : List (List Nat), (ownOf own os).flatten = (os.flatten.map own).flatten
  | [] => rfl
  | o :: os => by
    have := ownOf_flatten own os
    simp only [ownOf, List.map_cons, List.flatten_cons, List.map_append, List.flatten_append] at this ⊢
    rw [this]

theorem own_nodup (hR : RelV n w0 O w a E L V own) : ∀ {rs : List Nat}, rs.Nodup → (∀ r ∈ rs, ∃ A, hget L r = some A) → (rs.map own).flatten.Nodup
  | [], _, _ => List.nodup_nil
  | r :: rs, hn, hl => by
    obtain ⟨h1, h2⟩ := List.nodup_cons.1 hn
    obtain ⟨A, hA⟩ := hl r (List.mem_cons_self ..)
    simp only [List.map_cons, List.flatten_cons]
    rw [List.nodup_append]
    refine ⟨hR.nodup r A hA, own_nodup hR h2 (fun s hs => hl s (List.mem_cons_of_mem _ hs)), fun b hb c hc e => ?_⟩
    subst e
    obtain ⟨l, hl', hbl⟩ := List.mem_flatten.1 hc
    obtain ⟨s, hs, rfl⟩ := List.mem_map.1 hl'
    obtain ⟨B, hB⟩ := hl s (List.mem_cons_of_mem _ hs)
    exact hR.apart r s A B hA hB (fun e => h1 (e ▸ hs)) b hb hbl

theorem packV_rep {G : Nat → Prop} : ∀ {ats : List Atom} {rs : List Value}, RepAs w0 G L V ats rs → RepP w0 G L V (packA ats) (packV rs)
  | [], rs, h => by subst h; exact ⟨[], rfl, rfl⟩
  | [A], rs, ⟨v, s, h, h1, h2⟩ => by subst h; cases h2; exact h1
  | A :: B :: ats, rs, h => by
    obtain ⟨v, s, hs, h1, h2⟩ := h
    obtain ⟨v', s', hs', h1', h2'⟩ := h2
    subst hs hs'
    exact ⟨_, rfl, _, _, rfl, h1, _, _, rfl, h1', h2'⟩

/-- **The call is sound.** -/
theorem callA_spec : ∀ {ext : Ext} (hX : ExtOk P ext) (hR : RelV n w0 O w a E L V own) {f : FuncId} {ps : List PV} {vs : List Value} {cs : List Prop} {pv : PV} {E' : Env} {L' : Heap}
    (hps : RepPs w0 (Good w0 O) L V ps vs) (h : callA ext E L f ps = some (cs, pv, E', L')) (hc : All cs),
    Callable P f ∧ Calls P f vs.toArray w fun e w' => ∃ v V' own', e = .returned v ∧ RelV n w0 O w' a E' L' V' own' ∧ RepP w0 (Good w0 O) L' V' pv v
  | [], _, _, _, _, _, _, _, _, _, _, h, _ => by cases h
  | (g, S) :: r, hX, hR, f, ps, vs, cs, pv, E', L', hps, h, hc => by
    obtain ⟨⟨hcall, hcon⟩, hX'⟩ := hX
    simp only [callA] at h
    split at h
    · rename_i hfg
      obtain rfl := Nat.eq_of_beq_eq_true hfg
      split at h
      · rename_i x os us hd
        split at h
        · rename_i cs' E1 L1 hdis hupd
          split at h
          · rename_i ats es hres
            cases h
            obtain ⟨hpre, hc⟩ := hc
            simp only [Bool.and_eq_true] at hdis
            have hnd := nodupB_spec hdis.2
            obtain ⟨l1, l2, l3⟩ := decArgs_live hR hps hd
            have hH : ∀ b ∈ (ownOf own os).flatten, ∃ r ∈ os.flatten, b ∈ own r := fun b hb => by
              rw [ownOf_flatten] at hb
              obtain ⟨l, hl, hbl⟩ := List.mem_flatten.1 hb
              obtain ⟨r, hr, rfl⟩ := List.mem_map.1 hl
              exact ⟨r, hr, hbl⟩
            have hg : ∀ b ∈ (ownOf own os).flatten, ¬ Good w0 O b := fun b hb => by
              obtain ⟨r, hr, hbr⟩ := hH b hb
              obtain ⟨A, hA⟩ := l2 r hr
              exact hR.good r A hA b hbr
            have hargs := decArgs_rep hR (Kept.refl [] w) hg hps hd (fun r hr b hb hm => by
              obtain ⟨s, hs, hbs⟩ := hH b hm
              obtain ⟨A, hA⟩ := l1 r hr
              obtain ⟨B, hB⟩ := l2 s hs
              have hrs : r ≠ s := fun e => disjB_spec hdis.1 s hs (e ▸ hr)
              exact hR.apart r s A B hA hB hrs b hb hbs)
            have hnd' : (ownOf own os).flatten.Nodup := by rw [ownOf_flatten]; exact own_nodup hR hnd l2
            refine ⟨hcall, (hcon w x _ _ (hR.gok (Kept.refl _ _) hg) hpre hargs hnd').mono ?_⟩
            rintro e w' ⟨rs, ubs, rbs, rfl, hk, hrr, hur, hnn, hgg⟩
            rw [l3] at hur
            rw [List.nodup_append] at hnn
            have hfresh : ∀ b ∈ ubs.flatten ++ rbs.flatten, ¬ Good w0 O b := fun b hb hgood => by
              have h1 := hgg b hb
              refine h1 ⟨Nat.lt_of_lt_of_le hgood.1 hR.kept.size, fun hm => hg b hm hgood⟩
            have hout : ∀ r A, hget L r = some A → r ∉ os.flatten → ∀ b ∈ own r, b < w.heap.size ∧ b ∉ (ownOf own os).flatten := fun r A hA hr b hb => by
              refine ⟨hR.own_lt hA b hb, fun hm => ?_⟩
              obtain ⟨s, hs, hbs⟩ := hH b hm
              obtain ⟨B, hB⟩ := l2 s hs
              exact hR.apart r s A B hA hB (fun e => hr (e ▸ hs)) b hb hbs
            have hp : Pend n w0 O w' a E L V own os.flatten (ubs.flatten ++ rbs.flatten) := by
              refine ⟨hR.glob, ?_, hR.size, hR.defers, fun r A hA hr => ?_, fun r A hA _ => hR.good r A hA, fun r A hA _ => hR.nodup r A hA, fun r s A B h1 h2 _ _ => hR.apart r s A B h1 h2, hR.env, l2, fun r A hA hr b hb hm => ?_⟩
              · refine ⟨hk.os.trans hR.kept.os, hk.tape.trans hR.kept.tape, hk.output.trans hR.kept.output, Nat.le_trans hR.kept.size hk.size, fun b hb ho => ?_⟩
                rw [hk.block b (Nat.lt_of_lt_of_le hb hR.kept.size) (fun hm => hg b hm ⟨hb, ho⟩)]
                exact hR.kept.block b hb ho
              · exact (hR.heap r A hA).keep fun b hb => hk.block b (hout r A hA hr b hb).1 (hout r A hA hr b hb).2
              · exact hgg b hm (hout r A hA hr b hb)
            obtain ⟨own1, h1, h2, h3⟩ := upd_spec hp hnd hupd hc hur (by rw [List.nodup_append]; exact hnn) (fun b hb => hfresh b (List.mem_append_left _ hb))
            obtain ⟨V', own', h4, h5, h6, h7, _⟩ := res_spec h1 hres hrr hnn.2.1 (fun b hb => hfresh b (List.mem_append_right _ hb)) h2
            exact ⟨_, V', own', rfl, h4, packV_rep h5⟩
          · exact callA_spec hX' hR hps h hc
        · exact callA_spec hX' hR hps h hc
      · exact callA_spec hX' hR hps h hc
    · exact callA_spec hX' hR hps h hc
end
end Go.Am

/- The abstract machine, part 12: memory of the call's own: what is written, made and appended. -/
namespace Go.Am
set_option linter.unusedVariables false
set_option linter.unusedSimpArgs false

/-! ### Cells -/

theorem RepC.one {w : World} {G : Nat → Prop} : ∀ {t : Ty} {x : t.den} {cs : List Value}, RepC w G t x cs → ∀ c ∈ cs, c.oneCell' = true
  | .int _, _, _, h, c, hc => by rw [h.1] at hc; simp at hc; subst hc; rfl
  | .bool, _, _, h, c, hc => by rw [h] at hc; simp at hc; subst hc; rfl
  | .str, _, _, h, c, hc => by rw [h.1] at hc; simp at hc; subst hc; rfl
  | .sl _, _, _, ⟨v, h, h2⟩, c, hc => by
    rw [h] at hc; simp at hc; subst hc
    rcases h2.2 with ⟨_, rfl, _⟩ | ⟨b, off, cap, rfl, _⟩ <;> rfl
  | .unit, _, _, h, c, hc => by rw [h] at hc; cases hc
  | .cons _ _, _, _, ⟨c1, c2, h, h1, h2⟩, c, hc => by
    rw [h] at hc
    rcases List.mem_append.1 hc with hc | hc
    · exact h1.one c hc
    · exact h2.one c hc

theorem OwnC.one {w : World} : ∀ {t : Ty} {x : t.den} {cs : List Value} {bs : List Nat}, OwnC w t x cs bs → ∀ c ∈ cs, c.oneCell' = true := fun {t x cs bs} h =>
  (h.read (G := fun _ => True) (fun _ _ => trivial)).one

theorem entR_one {w0 w : World} {G : Nat → Prop} {t : Ty} {bor : Bool} {x : t.den} {cs : List Value} {bi : List Nat} (h : entR w0 G w t bor x cs bi) : ∀ c ∈ cs, c.oneCell' = true := by
  revert h
  unfold entR
  cases bor with
  | true => exact fun h => h.1.one
  | false => exact fun h => h.one

theorem entR_len {w0 w : World} {G : Nat → Prop} {t : Ty} {bor : Bool} {x : t.den} {cs : List Value} {bi : List Nat} (h : entR w0 G w t bor x cs bi) : cs.length = t.size := by
  revert h
  unfold entR
  cases bor with
  | true => exact fun h => h.1.length
  | false => exact fun h => h.length

/-- Of a flat tree it does not matter. -/
theorem entR_flat {w0 w w' : World} {G G' : Nat → Prop} {t : Ty} {bor bor' : Bool} {x : t.den} {cs : List Value} {bi : List Nat} (hf : t.flat = true) (h : entR w0 G w t bor x cs bi) : entR w0 G' w' t bor' x cs [] := by
  have h1 : RepC w0 G t x cs := by
    revert h
    unfold entR
    cases bor with
    | true => exact fun h => h.1
    | false => exact fun h => (h.flat (w' := w0) (G := G) hf).1
  unfold entR
  cases bor' with
  | true => exact ⟨h1.flat hf, rfl⟩
  | false => exact h1.own hf

/-- What stands in a block behind a store. -/
theorem storeCells_run {P : Program} : ∀ (vs : List Value) (w : World) (b o i : Nat) (cur : Array Value) (ty : TypeId) (fz : Nat × Nat), w.heap[b]? = some (.cells cur ty fz) → Free fz cur.size → o + i + vs.length ≤ cur.size → (∀ v ∈ vs, v.oneCell' = true) →
    ∃ w' cur', (storeCells ⟨b, o, none⟩ vs i).run P w = .ok () w' ∧ w'.heap[b]? = some (.cells cur' ty fz) ∧ cur'.toList = splice cur.toList (o + i) vs ∧ Kept [b] w w' ∧ w'.heap.size = w.heap.size
  | [], w, b, o, i, cur, ty, fz, hb, _, _, _ => ⟨w, cur, rfl, hb, by simp [splice], Kept.refl _ _, rfl⟩
  | v :: vs, w, b, o, i, cur, ty, fz, hb, hf, hl, h1 => by
    simp only [List.length_cons] at hl
    have hcell : w.cell? ⟨b, o + i, none⟩ = some (cur[o + i]'(by omega)) := by
      simp only [World.cell?, hb]
      simp [Array.getElem?_eq_getElem (show o + i < cur.size by omega)]
    have hfr : w.frozen? ⟨b, o + i, none⟩ = false := by
      simp only [World.frozen?, hb]
      have := hf (o + i) (by omega)
      simp only [Bool.and_eq_false_iff, decide_eq_false_iff_not]
      by_cases h : fz.1 ≤ o + i
      · exact .inr fun h' => this ⟨h, h'⟩
      · exact .inl h
    have hblt : b < w.heap.size := by
      rcases Nat.lt_or_ge b w.heap.size with h | h
      · exact h
      · rw [Array.getElem?_eq_none h] at hb; cases hb
    have hset : (w.setCell ⟨b, o + i, none⟩ v).heap[b]? = some (.cells (cur.setIfInBounds (o + i) v) ty fz) := by
      have hbe : w.heap[b] = .cells cur ty fz := by
        rw [Array.getElem?_eq_getElem hblt] at hb; exact Option.some.inj hb
      simp only [World.setCell, Array.getElem?_modify, if_pos, hb]
      simp [hbe]
    obtain ⟨w', cur', h2, h3, h4, h5, h6⟩ := storeCells_run (P := P) vs (w.setCell ⟨b, o + i, none⟩ v) b o (i + 1) (cur.setIfInBounds (o + i) v) ty fz hset (by simpa using hf) (by simp; omega) (fun u hu => h1 u (List.mem_cons_of_mem _ hu))
    refine ⟨w', cur', ?_, h3, ?_, ?_, ?_⟩
    · unfold storeCells
      simp only [Sem.run_bind, Addr.add_lit, run_store P w _ v _ (h1 v (List.mem_cons_self ..)), hcell, hfr, Bool.false_eq_true, if_false, Result.andThen_ok]
      exact h2
    · rw [h4]
      have hlt : o + i < cur.toList.length := by rw [Array.length_toList]; omega
      simp only [splice, Array.toList_setIfInBounds, List.length_cons]
      rw [show o + (i + 1) = o + i + 1 from by omega, List.take_add_one]
      simp only [List.getElem?_set_self hlt, Option.toList_some, List.append_assoc, List.cons_append, List.nil_append]
      rw [List.take_set_of_le (Nat.le_refl _), List.drop_set_of_lt (by omega), show o + i + 1 + vs.length = o + i + (vs.length + 1) from by omega]
    · have hk1 : Kept [b] w (w.setCell ⟨b, o + i, none⟩ v) := ⟨rfl, rfl, rfl, by simp [World.setCell], fun k hk hkb => Go.RowKit.Below.heap_setCell w ⟨b, o + i, none⟩ v k (by simpa using hkb)⟩
      exact hk1.trans h5
    · rw [h6]; simp [World.setCell]

/-! ### Rows of elements -/

/-- The elements ys, the cells of each, and the blocks of each. -/
def Row {α : Type} (R : α → List Value → List Nat → Prop) (sz : Nat) : List α → List (List Value) → List (List Nat) → Prop
  | [], css, bss => css = [] ∧ bss = []
  | y :: ys, css, bss => ∃ c cs b bs, css = c :: cs ∧ bss = b :: bs ∧ c.length = sz ∧ R y c b ∧ Row R sz ys cs bs

theorem Row.len {α : Type} {R : α → List Value → List Nat → Prop} {sz : Nat} : ∀ {ys : List α} {css : List (List Value)} {bss : List (List Nat)}, Row R sz ys css bss → css.length = ys.length ∧ bss.length = ys.length ∧ css.flatten.length = ys.length * sz
  | [], _, _, ⟨h1, h2⟩ => by subst h1 h2; simp
  | y :: ys, _, _, ⟨c, cs, b, bs, h1, h2, h3, h4, h5⟩ => by
    subst h1 h2
    obtain ⟨e1, e2, e3⟩ := h5.len
    refine ⟨by simp [e1], by simp [e2], ?_⟩
    simp [h3, e3, Nat.add_mul, Nat.add_comm]

theorem Row.mono {α : Type} {R R' : α → List Value → List Nat → Prop} {sz : Nat} : ∀ {ys : List α} {css : List (List Value)} {bss : List (List Nat)}, (∀ y c b, b ∈ bss → R y c b → R' y c b) → Row R sz ys css bss → Row R' sz ys css bss
  | [], _, _, _, h => h
  | y :: ys, _, _, hm, ⟨c, cs, b, bs, h1, h2, h3, h4, h5⟩ => ⟨c, cs, b, bs, h1, h2, h3, hm _ _ _ (by rw [h2]; exact List.mem_cons_self ..) h4, h5.mono (fun y c b hb => hm y c b (by rw [h2]; exact List.mem_cons_of_mem _ hb))⟩

theorem Row.nil {α : Type} {R R' : α → List Value → List Nat → Prop} {sz : Nat} : ∀ {ys : List α} {css : List (List Value)} {bss : List (List Nat)}, (∀ y c b, R y c b → R' y c []) → Row R sz ys css bss → ∃ bss', Row R' sz ys css bss' ∧ bss'.flatten = []
  | [], css, _, _, h => ⟨[], ⟨h.1, rfl⟩, rfl⟩
  | y :: ys, _, _, hm, ⟨c, cs, b, bs, h1, h2, h3, h4, h5⟩ => by
    obtain ⟨bs', h6, h7⟩ := h5.nil hm
    exact ⟨[] :: bs', ⟨c, cs, [], bs', h1, rfl, h3, hm _ _ _ h4, h6⟩, by simp [h7]⟩

theorem Row.append {α : Type} {R : α → List Value → List Nat → Prop} {sz : Nat} : ∀ {ys zs : List α} {cs ds : List (List Value)} {bs es : List (List Nat)}, Row R sz ys cs bs → Row R sz zs ds es → Row R sz (ys ++ zs) (cs ++ ds) (bs ++ es)
  | [], _, _, _, _, _, ⟨h1, h2⟩, h => by subst h1 h2; exact h
  | y :: ys, _, _, _, _, _, ⟨c, cs, b, bs, h1, h2, h3, h4, h5⟩, h => by
    subst h1 h2
    exact ⟨c, _, b, _, rfl, rfl, h3, h4, h5.append h⟩

theorem Row.get {α : Type} {R : α → List Value → List Nat → Prop} {sz : Nat} : ∀ {ys : List α} {css : List (List Value)} {bss : List (List Nat)}, Row R sz ys css bss → ∀ i y bi, ys[i]? = some y → bss[i]? = some bi →
    ∃ c, c.length = sz ∧ R y c bi ∧ ∀ j v, c[j]? = some v → css.flatten[i * sz + j]? = some v
  | [], _, _, _, i, y, bi, h, _ => by simp at h
  | y :: ys, _, _, ⟨c, cs, b, bs, h1, h2, h3, h4, h5⟩, 0, z, bi, hy, hb => by
    subst h1 h2
    cases hy; cases hb
    refine ⟨c, h3, h4, fun j v hj => ?_⟩
    have : j < c.length := (List.getElem?_eq_some_iff.1 hj).1
    simp only [Nat.zero_mul, Nat.zero_add, List.flatten_cons]
    rw [List.getElem?_append_left this]; exact hj
  | y :: ys, _, _, ⟨c, cs, b, bs, h1, h2, h3, h4, h5⟩, i + 1, z, bi, hy, hb => by
    subst h1 h2
    obtain ⟨d, e1, e2, e3⟩ := h5.get i z bi (by simpa using hy) (by simpa using hb)
    refine ⟨d, e1, e2, fun j v hj => ?_⟩
    simp only [List.flatten_cons]
    rw [List.getElem?_append_right (by rw [h3, Nat.add_mul]; omega), h3, show (i + 1) * sz + j - sz = i * sz + j from by rw [Nat.add_mul]; omega]
    exact e3 j v hj

/-- The cells of a row that lies in memory. -/
theorem row_of {α : Type} {R : α → List Value → List Nat → Prop} {sz : Nat} {f : Nat → Option Value} : ∀ (ys : List α) (bss : List (List Nat)) (off : Nat), bss.length = ys.length →
    (∀ i y bi, ys[i]? = some y → bss[i]? = some bi → ∃ cs, cs.length = sz ∧ (∀ j c, cs[j]? = some c → f (off + i * sz + j) = some c) ∧ R y cs bi) →
    ∃ css, Row R sz ys css bss ∧ ∀ j c, css.flatten[j]? = some c → f (off + j) = some c
  | [], bss, off, hl, _ => ⟨[], ⟨rfl, List.eq_nil_of_length_eq_zero hl⟩, fun j c h => by simp at h⟩
  | y :: ys, [], _, hl, _ => by simp at hl
  | y :: ys, b :: bs, off, hl, h => by
    obtain ⟨c, hc1, hc2, hc3⟩ := h 0 y b rfl rfl
    obtain ⟨cs, hr, hcs⟩ := row_of ys bs (off + sz) (by simpa using hl) (fun i z bi hz hb => by
      obtain ⟨d, e1, e2, e3⟩ := h (i + 1) z bi (by simpa using hz) (by simpa using hb)
      refine ⟨d, e1, fun j v hj => ?_, e3⟩
      have := e2 j v hj
      rwa [show off + (i + 1) * sz + j = off + sz + i * sz + j from by rw [Nat.add_mul]; omega] at this)
    refine ⟨c :: cs, ⟨c, cs, b, bs, rfl, rfl, hc1, hc3, hr⟩, fun j v hj => ?_⟩
    simp only [List.flatten_cons] at hj
    by_cases hlt : j < c.length
    · rw [List.getElem?_append_left hlt] at hj
      have := hc2 j v hj
      simpa using this
    · rw [List.getElem?_append_right (by omega)] at hj
      have := hcs _ v hj
      rwa [hc1, show off + sz + (j - sz) = off + j from by omega] at this

theorem ownSl_of_row {w : World} {α : Type} {R : α → List Value → List Nat → Prop} {sz : Nat} {xs : List α} {css : List (List Value)} {bss : List (List Nat)} (h : Row R sz xs css bss) {b off cap : Nat} {cur : Array Value} {ty : TypeId} {fz : Nat × Nat}
    (hl : xs.length ≤ maxLen) (h1 : xs.length ≤ cap) (h2 : cap ≤ maxLen) (h3 : off + cap * sz ≤ cur.size) (h4 : w.heap[b]? = some (.cells cur ty fz)) (h5 : FreeS sz fz cur.size)
    (h6 : ∀ j c, css.flatten[j]? = some c → cur[off + j]? = some c) : OwnSl w R sz xs (.slice (some ⟨b, off, none⟩) xs.length cap) (b :: bss.flatten) := by
  refine ⟨hl, .inr ⟨b, off, cap, cur, ty, fz, bss, rfl, h1, h2, h3, h4, h5, h.len.2.1, rfl, fun i x bi hx hb => ?_⟩⟩
  obtain ⟨c, e1, e2, e3⟩ := h.get i x bi hx hb
  refine ⟨c, e1, fun j v hj => ?_, e2⟩
  rw [Nat.add_assoc]
  exact h6 _ _ (e3 j v hj)

theorem Row.one {α : Type} {R : α → List Value → List Nat → Prop} {sz : Nat} (hR : ∀ y c b, R y c b → ∀ v ∈ c, v.oneCell' = true) : ∀ {ys : List α} {css : List (List Value)} {bss : List (List Nat)}, Row R sz ys css bss → ∀ v ∈ css.flatten, v.oneCell' = true
  | [], _, _, ⟨h1, h2⟩, v, hv => by subst h1; cases hv
  | y :: ys, _, _, ⟨c, cs, b, bs, h1, h2, h3, h4, h5⟩, v, hv => by
    subst h1
    simp only [List.flatten_cons, List.mem_append] at hv
    rcases hv with hv | hv
    · exact hR _ _ _ h4 v hv
    · exact h5.one hR v hv

theorem Row.take {α : Type} {R : α → List Value → List Nat → Prop} {sz : Nat} : ∀ {ys : List α} {css : List (List Value)} {bss : List (List Nat)} (k : Nat), Row R sz ys css bss → Row R sz (ys.take k) (css.take k) (bss.take k)
  | _, _, _, 0, _ => ⟨by simp, by simp⟩
  | [], _, _, k + 1, ⟨h1, h2⟩ => by subst h1 h2; exact ⟨rfl, rfl⟩
  | y :: ys, _, _, k + 1, ⟨c, cs, b, bs, h1, h2, h3, h4, h5⟩ => by
    subst h1 h2
    exact ⟨c, _, b, _, rfl, rfl, h3, h4, h5.take k⟩

theorem Row.drop {α : Type} {R : α → List Value → List Nat → Prop} {sz : Nat} : ∀ {ys : List α} {css : List (List Value)} {bss : List (List Nat)} (k : Nat), Row R sz ys css bss → Row R sz (ys.drop k) (css.drop k) (bss.drop k)
  | _, _, _, 0, h => h
  | [], _, _, k + 1, ⟨h1, h2⟩ => by subst h1 h2; exact ⟨rfl, rfl⟩
  | y :: ys, _, _, k + 1, ⟨c, cs, b, bs, h1, h2, h3, h4, h5⟩ => by
    subst h1 h2
    exact h5.drop k
end Go.Am

/- The abstract machine, part 13: boxes, literals of slices, make, stores. -/
namespace Go.Am
set_option linter.unusedVariables false
set_option linter.unusedSimpArgs false

/-! ### Zero rows -/

theorem flatten_replicate_get {α : Type} (l : List α) : ∀ (n j : Nat), (List.replicate n l).flatten[j]? = if j < n * l.length then l[j % l.length]? else none
  | 0, j => by simp
  | n + 1, j => by
    rw [List.replicate_succ, List.flatten_cons]
    by_cases h : j < l.length
    · rw [List.getElem?_append_left h, Nat.mod_eq_of_lt h, if_pos]
      rw [Nat.add_mul]; omega
    · rw [List.getElem?_append_right (by omega), flatten_replicate_get l n]
      have e : (j - l.length) % l.length = j % l.length := by
        rw [← Nat.mod_eq_sub_mod (by omega)]
      rw [e]
      have : (j - l.length < n * l.length) ↔ (j < (n + 1) * l.length) := by rw [Nat.add_mul]; omega
      by_cases hh : j - l.length < n * l.length
      · rw [if_pos hh, if_pos (this.1 hh)]
      · rw [if_neg hh, if_neg (fun h' => hh (this.2 h'))]

theorem zeros_flat (z : Array Value) (n : Nat) : ((Array.range (n * z.size)).map (z[· % z.size]!)).toList = (List.replicate n z.toList).flatten := by
  apply List.ext_getElem?
  intro j
  rw [flatten_replicate_get, Array.getElem?_toList]
  simp only [Array.getElem?_map, Array.length_toList]
  by_cases h : j < n * z.size
  · rw [if_pos h]
    have hz : 0 < z.size := by
      rcases Nat.eq_zero_or_pos z.size with h0 | h0
      · rw [h0, Nat.mul_zero] at h; omega
      · exact h0
    have hm : j % z.size < z.size := Nat.mod_lt _ hz
    simp [Array.getElem?_range, h, hm, getElem!_pos, Array.getElem?_toList]
  · rw [if_neg h]
    simp [Array.getElem?_range, h]

theorem row_replicate {w0 w : World} {G : Nat → Prop} (t : Ty) (bor : Bool) : ∀ n : Nat, Row (entR w0 G w t bor) t.size (List.replicate n t.dflt) (List.replicate n (dcells t)) (List.replicate n [])
  | 0 => ⟨rfl, rfl⟩
  | n + 1 => by
    refine ⟨dcells t, _, [], _, rfl, rfl, (dcells_rep w G t).length, ?_, row_replicate t bor n⟩
    unfold entR
    cases bor with
    | true => exact ⟨dcells_rep w0 G t, rfl⟩
    | false => exact own_dcells t
where
  own_dcells {w : World} : ∀ t : Ty, OwnC w t t.dflt (dcells t) []
  | .int k => ⟨rfl, by cases k <;> simp [InR, IntKind.min, IntKind.max, IntKind.bits, IntKind.signed, Ty.dflt], rfl⟩
  | .bool => ⟨rfl, rfl⟩
  | .str => ⟨rfl, Nat.zero_le _, rfl⟩
  | .sl e => ⟨_, rfl, Nat.zero_le _, .inl ⟨_, rfl, rfl, rfl⟩⟩
  | .unit => ⟨rfl, rfl⟩
  | .cons a b => ⟨_, _, [], [], rfl, rfl, own_dcells a, own_dcells b⟩

theorem Row.set {α : Type} {R : α → List Value → List Nat → Prop} {sz : Nat} {y' : α} {c' : List Value} {b' : List Nat} (h1 : c'.length = sz) (h2 : R y' c' b') : ∀ {ys : List α} {css : List (List Value)} {bss : List (List Nat)} (i : Nat), Row R sz ys css bss →
    Row R sz (ys.set i y') (css.set i c') (bss.set i b')
  | [], _, _, i, ⟨e1, e2⟩ => by subst e1 e2; exact ⟨rfl, rfl⟩
  | y :: ys, _, _, 0, ⟨c, cs, b, bs, e1, e2, e3, e4, e5⟩ => by subst e1 e2; exact ⟨c', cs, b', bs, rfl, rfl, h1, h2, e5⟩
  | y :: ys, _, _, i + 1, ⟨c, cs, b, bs, e1, e2, e3, e4, e5⟩ => by subst e1 e2; exact ⟨c, _, b, _, rfl, rfl, e3, e4, e5.set h1 h2 i⟩

theorem splice_flat {sz : Nat} {c' : List Value} (h1 : c'.length = sz) : ∀ {css : List (List Value)} {i : Nat}, (∀ c ∈ css, c.length = sz) → i < css.length → splice css.flatten (i * sz) c' = (css.set i c').flatten
  | [], i, _, h => by simp at h
  | c :: cs, 0, h, _ => by
    have := h c (List.mem_cons_self ..)
    simp [splice, h1, ← this]
  | c :: cs, i + 1, h, hi => by
    have hc := h c (List.mem_cons_self ..)
    have ih := splice_flat h1 (css := cs) (i := i) (fun d hd => h d (List.mem_cons_of_mem _ hd)) (by simpa using hi)
    simp only [splice, List.flatten_cons, List.set_cons_succ] at ih ⊢
    rw [← ih, Nat.add_mul, Nat.one_mul, Nat.add_comm (i * sz) sz]
    rw [← hc, List.take_append, List.drop_append]
    simp [List.take_of_length_le, List.drop_of_length_le, Nat.add_assoc, show c.length + (i * c.length + c'.length) - c.length = i * c.length + c'.length from by omega]

theorem Row.lens {α : Type} {R : α → List Value → List Nat → Prop} {sz : Nat} : ∀ {ys : List α} {css : List (List Value)} {bss : List (List Nat)}, Row R sz ys css bss → ∀ c ∈ css, c.length = sz
  | [], _, _, ⟨e1, e2⟩, c, hc => by subst e1; cases hc
  | y :: ys, _, _, ⟨d, cs, b, bs, e1, e2, e3, e4, e5⟩, c, hc => by
    subst e1
    rcases List.mem_cons.1 hc with rfl | hc
    · exact e3
    · exact e5.lens c hc

/-! ### The evaluator -/

def boxA (tab : List TI) (T : TypeId) : PV → Option Arr
  | .a A => match (tabGet tab T).ty with
    | some t => match decB t A with
      | some x => some ⟨t, [x], true⟩
      | none => none
    | none => none
  | _ => none

def allocA (tab : List TI) (T : TypeId) : Option Arr :=
  match (tabGet tab T).ty with
  | some t => some ⟨t, [t.dflt], t.flat⟩
  | none => none

def litA (t : Ty) : List t.den → List (Nat × PV) → Option (List t.den)
  | xs, [] => some xs
  | xs, (i, .a A) :: r => match Nat.blt i xs.length, decB t A with
    | true, some y => litA t (xs.set i y) r
    | _, _ => none
  | _, _ => none

def sliceLitA (tab : List TI) (T : TypeId) (n : Nat) (parts : List (Nat × PV)) : Option Arr :=
  match tabGet tab T with
  | .slice _ t _ => match Nat.ble (n * t.size) 16777216 && Nat.ble 1 t.size, litA t (List.replicate n t.dflt) parts with
    | true, some xs => some ⟨t, xs, !t.flat && !(Nat.beq n 0)⟩
    | _, _ => none
  | _ => none

def makeA (tab : List TI) (T : TypeId) (l c : PV) : Option (List Prop × Arr) :=
  match tabGet tab T, l, c with
  | .slice _ t by', .a (.val (.int .i64 l)), .a (.val (.int .i64 c)) => some ([0 ≤ l, l ≤ c, (by' : Int) * c ≤ 281474976710656], ⟨t, List.replicate l.toNat t.dflt, false⟩)
  | _, _, _ => none

def storeA (tab : List TI) (L : Heap) (T : TypeId) : PV → PV → Option Heap
  | .a (.optr r i p), .a B => match (tabGet tab T).ty, hget L r with
    | some t, some A => match A.bor || t.flat, decB t B with
      | true, some y => match setD A.t (A.xs.getD i A.t.dflt) p ⟨t, y⟩ with
        | some x => some (hset L r (some ⟨A.t, A.xs.set i x, A.bor⟩))
        | none => none
      | _, _ => none
    | _, _ => none
  | _, _ => none

section
variable {P : Program} {n : Nat} {w0 w : World} {O : List Nat} {a : Act} {E : Env} {L : Heap} {V : Nat → Value} {own : Nat → List Nat}

/-- An array in new memory. -/
theorem RelV.fresh (hR : RelV n w0 O w a E L V own) {w' : World} (hk : Kept [] w w') {A0 : Arr} {v : Value} {bs : List Nat} (h : EntC w0 (Good w0 O) w' A0 v bs) (hn : bs.Nodup) (hb : ∀ b ∈ bs, w.heap.size ≤ b) :
    RelV n w0 O w' a E (L ++ [some A0]) (upd1 V L.length v) (upd1 own L.length bs) :=
  (hR.ext hk).grow h hn (fun b hb' hg => by have := hb b hb'; have := hg.1; have := hR.kept.size; omega) (fun r A hA b hb' hm => by have := hb b hm; have := hR.own_lt hA b hb'; omega)

/-- New arrays, in new memory; what was there stays. -/
structure New (L : Heap) (w w' : World) (V V' : Nat → Value) (own own' : Nat → List Nat) : Prop where
  kept : Kept [] w w'
  same : ∀ r, r < L.length → V' r = V r ∧ own' r = own r
  fresh : ∀ r, L.length ≤ r → ∀ A L', hget (L ++ L') r = some A → L'.length ≤ 1 → ∀ b ∈ own' r, w.heap.size ≤ b

def RelN (n : Nat) (w0 : World) (O : List Nat) (w w' : World) (a : Act) (E : Env) (L L' : Heap) (V V' : Nat → Value) (own own' : Nat → List Nat) : Prop :=
  RelV n w0 O w' a E L' V' own' ∧ New L w w' V V' own own'

theorem RelV.freshN (hR : RelV n w0 O w a E L V own) {w' : World} (hk : Kept [] w w') {A0 : Arr} {v : Value} {bs : List Nat} (h : EntC w0 (Good w0 O) w' A0 v bs) (hn : bs.Nodup) (hb : ∀ b ∈ bs, w.heap.size ≤ b) :
    RelN n w0 O w w' a E L (L ++ [some A0]) V (upd1 V L.length v) own (upd1 own L.length bs) :=
  ⟨hR.fresh hk h hn hb, hk, fun r hr => ⟨upd1_other _ _ (by omega), upd1_other _ _ (by omega)⟩, fun r hr A L' hg hl b hb' => by
    have hlt := hget_lt hg
    rw [List.length_append] at hlt
    have : r = L.length := by omega
    subst this
    rw [upd1_same] at hb'
    exact hb b hb'⟩

theorem entR_of_decB {A : Atom} {v : Value} (hb : RepB w0 (Good w0 O) A v) {t : Ty} {x : t.den} (h : decB t A = some x) (bor : Bool) (hf : bor = false → t.flat = true) : ∃ cs, v = valOf t cs ∧ cs.length = t.size ∧ RepC w0 (Good w0 O) t x cs ∧ ∀ w, entR w0 (Good w0 O) w t bor x cs [] := by
  obtain ⟨cs, hr, hv⟩ := decB_spec hb h
  refine ⟨cs, hv, hr.length, hr, fun w => ?_⟩
  unfold entR
  cases bor with
  | true => exact ⟨hr, rfl⟩
  | false => exact hr.own (hf rfl)

theorem heap_new (w : World) (o : Obj) : (w.alloc o).heap[w.heap.size]? = some o := heap_alloc_new w o

theorem free_zero (n : Nat) : Free (0, 0) n := fun j _ h => by omega
theorem freeS_zero (sz n : Nat) : FreeS sz (0, 0) n := ⟨free_zero _, .inr (free_zero _)⟩

/-- One cell-row made anew, that holds one element. -/
theorem ent_one {w : World} {t : Ty} {bor : Bool} {x : t.den} {cs : List Value} (h : ∀ w, entR w0 (Good w0 O) w t bor x cs []) (hl : cs.length = t.size) (ty : TypeId) :
    EntC w0 (Good w0 O) (w.alloc (.cells cs.toArray ty)) ⟨t, [x], bor⟩ (.slice (some ⟨w.heap.size, 0, none⟩) 1 1) [w.heap.size] := by
  have hrow : Row (entR w0 (Good w0 O) (w.alloc (.cells cs.toArray ty)) t bor) t.size [x] [cs] [[]] := ⟨cs, [], [], [], rfl, rfl, hl, h _, rfl, rfl⟩
  have := ownSl_of_row hrow (b := w.heap.size) (off := 0) (cap := 1) (cur := cs.toArray) (ty := ty) (fz := (0, 0)) (by simp [maxLen]) (by simp) (by simp [maxLen]) (by simp [hl]) (heap_new _ _) (freeS_zero _ _) (by simp)
  simpa [EntC] using this

theorem rep_ptr {r : Nat} {t : Ty} {x : t.den} {bor : Bool} {b m cap : Nat} {V : Nat → Value} {L : Heap} (h : hget L r = some ⟨t, [x], bor⟩) (hV : V r = .slice (some ⟨b, 0, none⟩) m cap) : RepA w0 (Good w0 O) L V (.optr r 0 []) (.pointer (some ⟨b, 0, none⟩)) :=
  ⟨_, h, by simp, b, 0, m, cap, 0, t, hV, rfl, by simp⟩

theorem hget_new (L : Heap) (A : Arr) : hget (L ++ [some A]) L.length = some A := by
  rw [hget_append, if_neg (Nat.lt_irrefl _), Nat.sub_self]; rfl

theorem valOf_cells' {t : Ty} {cs : List Value} {x : t.den} (h : RepC w0 (Good w0 O) t x cs) : (valOf t cs).cells = cs.toArray := by
  have := congrArg List.toArray (valOf_cells h)
  simpa using this

theorem box_spec {tab : List TI} (hT : TabOk P tab) (hR : RelV n w0 O w a E L V own) {T : TypeId} {x : Operand} {A : Arr} (h : boxA tab T (opnd E x) = some A) :
    ∃ v w' V' own', (Instr.box T (a.eval x)).run P w = .ok v w' ∧ RelN n w0 O w w' a E L (L ++ [some A]) V V' own own' ∧ RepP w0 (Good w0 O) (L ++ [some A]) V' (.a (.optr L.length 0 [])) v := by
  unfold boxA at h
  split at h
  · rename_i B hB
    split at h
    · rename_i t ht
      split at h
      · rename_i y hy
        cases h
        obtain ⟨cs, hv, hl, hrep, hcs⟩ := entR_of_decB (repB_of_decB (hR.atom hB) hy) hy true (fun h => by cases h)
        refine ⟨_, _, _, _, ?_, hR.freshN ((Kept.refl [] w).alloc _) (ent_one hcs hl T) (by simp) (by simp), rep_ptr (w0 := w0) (O := O) (hget_new _ _) (upd1_same _ _ _)⟩
        rw [hv]
        simp only [Instr.box, newVar, newRow, Sem.run_bind, run_newObj, Result.andThen_ok, Sem.run_pure, valOf_cells' hrep]
        rfl
      · cases h
    · cases h
  · cases h

theorem alloc_spec {tab : List TI} (hT : TabOk P tab) (hR : RelV n w0 O w a E L V own) {T : TypeId} {A : Arr} (h : allocA tab T = some A) :
    ∃ v w' V' own', (Instr.alloc T true (.tuple #[])).run P w = .ok v w' ∧ RelN n w0 O w w' a E L (L ++ [some A]) V V' own own' ∧ RepP w0 (Good w0 O) (L ++ [some A]) V' (.a (.optr L.length 0 [])) v := by
  unfold allocA at h
  split at h
  · rename_i t ht
    cases h
    have hrow := row_replicate (w0 := w0) (w := w) (G := Good w0 O) t t.flat 1
    have hcs : ∀ w, entR w0 (Good w0 O) w t t.flat t.dflt (dcells t) [] := fun w => by
      obtain ⟨c, cs, b, bs, h1, h2, h3, h4, h5⟩ := row_replicate (w0 := w0) (w := w) (G := Good w0 O) t t.flat 1
      simp only [List.replicate_one, List.cons.injEq] at h1 h2
      rw [← h1.1, ← h2.1] at h4
      exact h4
    refine ⟨_, _, _, _, ?_, hR.freshN ((Kept.refl [] w).alloc _) (ent_one hcs (dcells_rep w0 (Good w0 O) t).length T) (by simp) (by simp), rep_ptr (w0 := w0) (O := O) (hget_new _ _) (upd1_same _ _ _)⟩
    simp only [Instr.alloc, newVar, newRow, Sem.run_bind, run_newObj, Result.andThen_ok, Sem.run_pure, (TI.ty_ok (hT T) ht).zero_run, valOf_cells' (dcells_rep w0 (Good w0 O) t)]
    rfl
  · cases h

theorem lit_fill {t : Ty} {bor : Bool} (hbor : bor = false → t.flat = true) : ∀ {parts : List (Nat × PV)} {vs : List (Nat × Value)} {xs xs' : List t.den} {css : List (List Value)} {bss : List (List Nat)},
    litA t xs parts = some xs' → PartsRep w0 (Good w0 O) parts vs → (∀ w, Row (entR w0 (Good w0 O) w t bor) t.size xs css bss) → bss.flatten = [] →
    ∃ css' bss', Instr.fill (fun i => some (i * t.size, t.size)) css.flatten.toArray vs = some css'.flatten.toArray ∧ (∀ w, Row (entR w0 (Good w0 O) w t bor) t.size xs' css' bss') ∧ bss'.flatten = [] ∧ xs'.length = xs.length
  | [], vs, xs, xs', css, bss, h, hv, hr, hb => by
    cases hv; cases h
    exact ⟨css, bss, rfl, hr, hb, rfl⟩
  | (i, .a A) :: r, vs, xs, xs', css, bss, h, hv, hr, hb => by
    obtain ⟨v, s, rfl, h1, h2⟩ := hv
    simp only [litA] at h
    split at h
    · rename_i y hlt hy
      have hlt : i < xs.length := by simpa using hlt
      obtain ⟨cs, hv, hl, hrep, hcs⟩ := entR_of_decB (h1 A rfl _ _ hy) hy bor hbor
      obtain ⟨e1, e2, e3⟩ := (hr w0).len
      have hset : ∀ w, Row (entR w0 (Good w0 O) w t bor) t.size (xs.set i y) (css.set i cs) (bss.set i []) := fun w => (hr w).set hl (hcs w) i
      have hbn : (bss.set i []).flatten = [] := by
        rw [List.flatten_eq_nil_iff] at hb ⊢
        intro l hl'
        rcases List.mem_or_eq_of_mem_set hl' with h | h
        · exact hb l h
        · exact h
      obtain ⟨css', bss', e4, e5, e6, e7⟩ := lit_fill hbor h h2 hset hbn
      refine ⟨css', bss', ?_, e5, e6, by rw [e7]; simp⟩
      rw [fill_step _ css.flatten i (i * t.size) v cs t.size s rfl (by rw [hv]; exact valOf_cells hrep) hl (by rw [e3]; have := Nat.mul_le_mul_right t.size hlt; rw [Nat.succ_mul] at this; exact this),
        splice_flat hl (hr w0).lens (by rw [e1]; exact hlt)]
      exact e4
    · cases h
  | (_, .tup _) :: _, _, _, _, _, _, h, _, _, _ => by cases h
  | (_, .fn _ _) :: _, _, _, _, _, _, h, _, _, _ => by cases h

/-- A row made anew. -/
theorem ent_row {w : World} {t : Ty} {bor : Bool} {xs : List t.den} {css : List (List Value)} {bss : List (List Nat)} {rest : List Value} {cap : Nat} {ty : TypeId} (hr : Row (entR w0 (Good w0 O) (w.alloc (.cells (css.flatten ++ rest).toArray ty)) t bor) t.size xs css bss) (hb : bss.flatten = [])
    (hl : xs.length ≤ cap) (hm : cap ≤ maxLen) (hc : cap * t.size ≤ (css.flatten ++ rest).length) :
    EntC w0 (Good w0 O) (w.alloc (.cells (css.flatten ++ rest).toArray ty)) ⟨t, xs, bor⟩ (.slice (some ⟨w.heap.size, 0, none⟩) xs.length cap) [w.heap.size] := by
  have := ownSl_of_row hr (b := w.heap.size) (off := 0) (cap := cap) (cur := (css.flatten ++ rest).toArray) (ty := ty) (fz := (0, 0)) (by omega) hl hm (by rw [Nat.zero_add]; simpa using hc) (heap_new _ _) (freeS_zero _ _) (fun j c hj => by
    rw [Nat.zero_add, List.getElem?_toArray, List.getElem?_append_left (List.getElem?_eq_some_iff.1 hj).1]; exact hj)
  rw [hb] at this
  exact this

theorem dcells_cells (t : Ty) : (valOf t (dcells t)).cells = (dcells t).toArray := valOf_cells' (w0 := default) (O := []) (dcells_rep default (Good default []) t)

theorem zeros_list (t : Ty) (k : Nat) (z : Array Value) (hz : k * t.size ≠ 0 → z = (dcells t).toArray) : ((Array.range (k * t.size)).map (z[· % z.size]!)) = (List.replicate k (dcells t)).flatten.toArray := by
  have hl : (dcells t).length = t.size := (dcells_rep default (Good default []) t).length
  by_cases h : k * t.size = 0
  · rw [h]
    have : (List.replicate k (dcells t)).flatten = [] := by
      apply List.eq_nil_of_length_eq_zero
      simp [hl, h]
    rw [this]
    simp
  · have := hz h
    subst this
    have hs : (dcells t).toArray.size = t.size := by simp [hl]
    have e := zeros_flat (dcells t).toArray k
    rw [hs] at e ⊢
    exact Array.toList_inj.1 e

theorem sliceLit_spec {tab : List TI} (hT : TabOk P tab) (hR : RelV n w0 O w a E L V own) {T : TypeId} {k : Nat} {parts : Array (Nat × Operand)} {A : Arr} (h : sliceLitA tab T k (parts.toList.map fun p => (p.1, opnd E p.2)) = some A) :
    ∃ v w' V' own', (Instr.buildSlice T k (parts.map fun p => (p.1, a.eval p.2))).run P w = .ok v w' ∧ RelN n w0 O w w' a E L (L ++ [some A]) V V' own own' ∧ RepP w0 (Good w0 O) (L ++ [some A]) V' (.a (.osl L.length none)) v := by
  unfold sliceLitA at h
  split at h
  · rename_i e t by' ht
    split at h
    · rename_i xs hle hlit
      cases h
      have hS := hT T; rw [ht] at hS
      obtain ⟨_, hu, he, _⟩ := hS
      simp only [Bool.and_eq_true, Nat.ble_eq] at hle
      obtain ⟨hle, hsz⟩ := hle
      have hkm : k ≤ maxLen := by have := Nat.le_mul_of_pos_right k hsz; unfold maxLen; omega
      have hb0 : (List.replicate k ([] : List Nat)).flatten = [] := by simp
      have hbor : (!t.flat && !(Nat.beq k 0)) = false → t.flat = true ∨ k = 0 := by
        intro hh
        cases hf : t.flat with
        | true => exact .inl rfl
        | false => rw [hf] at hh; simp at hh; exact .inr hh
      have hfill : ∃ css' bss', Instr.fill (fun i => some (i * t.size, t.size)) (List.replicate k (dcells t)).flatten.toArray (parts.toList.map fun p => (p.1, a.eval p.2)) = some css'.flatten.toArray ∧ (∀ w, Row (entR w0 (Good w0 O) w t (!t.flat && !(Nat.beq k 0))) t.size xs css' bss') ∧ bss'.flatten = [] ∧ xs.length = k := by
        by_cases hk : k = 0
        · subst hk
          have : parts.toList = [] := by
            cases hp : parts.toList with
            | nil => rfl
            | cons q r =>
              exfalso
              rw [hp] at hlit
              simp only [List.map_cons, List.replicate_zero] at hlit
              cases hq : opnd E q.2 with
              | a A => rw [hq] at hlit; simp [litA, Nat.blt] at hlit
              | tup _ => rw [hq] at hlit; cases hlit
              | fn _ _ => rw [hq] at hlit; cases hlit
          rw [this] at hlit ⊢
          cases hlit
          exact ⟨[], [], rfl, fun w => ⟨rfl, rfl⟩, rfl, rfl⟩
        · obtain ⟨css', bss', e1, e2, e3, e4⟩ := lit_fill (bor := !t.flat && !(Nat.beq k 0)) (fun hh => (hbor hh).resolve_right hk) hlit (partsRep hR parts.toList) (fun w => row_replicate t _ k) hb0
          exact ⟨css', bss', e1, e2, e3, by rw [e4]; simp⟩
      obtain ⟨css, bss, hf, hrow, hbn, hlen⟩ := hfill
      obtain ⟨l1, l2, l3⟩ := (hrow w).len
      have hent := ent_row (w := w) (ty := e) (rest := []) (cap := k) (hrow _) hbn (by omega) hkm (by simp [l3, hlen])
      rw [List.append_nil] at hent
      refine ⟨_, _, _, _, ?_, hR.freshN ((Kept.refl [] w).alloc _) hent (by simp) (by simp), repA_new (w0 := w0) (G := Good w0 O) (u := w0) (G' := Good w0 O) hent⟩
      have e1 : (parts.map fun p => (p.1, a.eval p.2)).toList = parts.toList.map fun p => (p.1, a.eval p.2) := by simp
      unfold Instr.buildSlice
      simp only [Sem.run_bind, run_underlying hu, Result.andThen_ok, he.size_run]
      rw [if_neg (by omega)]
      by_cases h0 : k * t.size = 0
      · have hz := zeros_list t k #[] (fun h => absurd h0 h)
        rw [if_pos h0]
        simp only [Sem.run_bind, Sem.run_pure, Result.andThen_ok, hz, e1, hf, newRow, run_newObj, hlen]
        rfl
      · have hz := zeros_list t k (dcells t).toArray (fun _ => rfl)
        rw [if_neg h0]
        simp only [Sem.run_bind, Sem.run_pure, Result.andThen_ok, he.zero_run, dcells_cells, hz, e1, hf, newRow, run_newObj, hlen]
        rfl
    · cases h
  · cases h
end
end Go.Am

/- The abstract machine, part 14: make, stores, bytes and strings. -/
namespace Go.Am
set_option linter.unusedVariables false
set_option linter.unusedSimpArgs false

def bytesOf (s : ByteArray) : List Int := s.data.toList.map fun b => (b.toNat : Int)

/-- '[]byte(s)' -/
def s2bA (tab : List TI) (src dst : TypeId) : PV → Option Arr
  | .a (.val (.string s)) => match tabGet tab src, tabGet tab dst with
    | .scal .str, .slice _ (.int .u8) _ => some ⟨.int .u8, bytesOf s, false⟩
    | _, _ => none
  | _ => none

/-- 'string(b)' -/
def b2sA (tab : List TI) (L : Heap) (src dst : TypeId) : PV → Option ByteArray
  | .a A => match tabGet tab src, tabGet tab dst, decV L (.sl (.int .u8)) A with
    | .slice _ (.int .u8) _, .scal .str, some xs => some (bytesStr xs)
    | _, _, _ => none
  | _ => none

section
variable {P : Program} {n : Nat} {w0 w : World} {O : List Nat} {a : Act} {E : Env} {L : Heap} {V : Nat → Value} {own : Nat → List Nat}

theorem inR_i64 {n : Int} (h : InR .i64 n) : -9223372036854775808 ≤ n ∧ n ≤ 9223372036854775807 := by
  simpa [InR, IntKind.min, IntKind.max, IntKind.bits, IntKind.signed] using h

theorem make_spec {tab : List TI} (hT : TabOk P tab) (hR : RelV n w0 O w a E L V own) {T : TypeId} {l c : Operand} {cs : List Prop} {A : Arr} (h : makeA tab T (opnd E l) (opnd E c) = some (cs, A)) (hc : All cs) :
    ∃ v w' V' own', (Instr.makeSlice T (a.eval l) (a.eval c)).run P w = .ok v w' ∧ RelN n w0 O w w' a E L (L ++ [some A]) V V' own own' ∧ RepP w0 (Good w0 O) (L ++ [some A]) V' (.a (.osl L.length none)) v := by
  unfold makeA at h
  split at h
  · rename_i e t by' li ci ht hl hcc
    cases h
    simp only [All] at hc
    obtain ⟨h0, h1, h2, _⟩ := hc
    obtain ⟨e1, o1⟩ := hR.valEq hl
    obtain ⟨e2, o2⟩ := hR.valEq hcc
    have hS := hT T; rw [ht] at hS
    obtain ⟨_, hu, he, hby⟩ := hS
    obtain ⟨i, hi, hbi⟩ : ∃ i, P.info? e = some i ∧ i.bytes = by' := by
      cases hi : P.info? e with
      | none => rw [hi] at hby; cases hby
      | some i => rw [hi] at hby; simp at hby; exact ⟨i, rfl, hby⟩
    have hcm : ci.toNat ≤ maxLen := by have := (inR_i64 o2).2; unfold maxLen; omega
    have hdl : (dcells t).length = t.size := (dcells_rep default (Good default []) t).length
    have hsplit : (List.replicate ci.toNat (dcells t)).flatten = (List.replicate li.toNat (dcells t)).flatten ++ (List.replicate (ci.toNat - li.toNat) (dcells t)).flatten := by
      rw [← List.flatten_append, List.replicate_append_replicate]
      congr 2; omega
    have hent := ent_row (w := w) (ty := e) (rest := (List.replicate (ci.toNat - li.toNat) (dcells t)).flatten) (cap := ci.toNat) (row_replicate (w0 := w0) (G := Good w0 O) t false li.toNat) (by simp) (by simp; omega) hcm (by
      rw [← hsplit]; simp [hdl])
    rw [← hsplit, List.length_replicate] at hent
    refine ⟨_, _, _, _, ?_, hR.freshN ((Kept.refl [] w).alloc _) hent (by simp) (by simp), repA_new (w0 := w0) (G := Good w0 O) (u := w0) (G' := Good w0 O) hent⟩
    rw [e1, e2]
    unfold Instr.makeSlice
    have hnl : ¬ ((by' : Int) * ci > 281474976710656) := by omega
    simp only [Sem.run_bind, run_underlying hu, Result.andThen_ok, asInt, asIntOf, Sem.run_pure, typeInfo, run_program, hi, hbi, wrap_of_inR o1, wrap_of_inR o2]
    rw [if_neg (by simp; omega)]
    simp only [Sem.run_bind, run_askRoom, Result.andThen_ok, he.size_run]
    by_cases hz : ci.toNat * t.size = 0
    · have hzl := zeros_list t ci.toNat #[] (fun h => absurd hz h)
      rw [if_pos hz]
      simp only [Sem.run_bind, Sem.run_pure, Result.andThen_ok, hzl, newRow, run_newObj]
      rfl
    · have hzl := zeros_list t ci.toNat (dcells t).toArray (fun _ => rfl)
      rw [if_neg hz]
      simp only [Sem.run_bind, Sem.run_pure, Result.andThen_ok, he.zero_run, dcells_cells, hzl, newRow, run_newObj]
      rfl
  · cases h

/-! ### Stores -/

theorem castT_repC {w : World} {G : Nat → Prop} {t t' : Ty} (h : t' = t) {x : t'.den} {cs : List Value} (hp : RepC w G t' x cs) : RepC w G t (h ▸ x) cs := by
  subst h; exact hp
theorem castT_ownC {w : World} {t t' : Ty} (h : t' = t) {x : t'.den} {cs : List Value} {bs : List Nat} (hp : OwnC w t' x cs bs) : OwnC w t (h ▸ x) cs bs := by
  subst h; exact hp

theorem splice_whole {cs c : List Value} (h : cs.length = c.length) : splice cs 0 c = c := by
  simp [splice, ← h]

theorem splice_left {c1 c2 c : List Value} {o : Nat} (h : o + c.length ≤ c1.length) : splice (c1 ++ c2) o c = splice c1 o c ++ c2 := by
  unfold splice
  rw [List.take_append_of_le_length (by omega), List.drop_append_of_le_length (by omega)]
  simp [List.append_assoc]

theorem splice_right {c1 c2 c : List Value} {o : Nat} : splice (c1 ++ c2) (c1.length + o) c = c1 ++ splice c2 o c := by
  unfold splice
  rw [List.take_append, List.take_of_length_le (by omega), List.drop_append, List.drop_of_length_le (by omega)]
  simp [show c1.length + o - c1.length = o from by omega, show c1.length + o + c.length - c1.length = o + c.length from by omega]

theorem splice_length {cs c : List Value} {o : Nat} (h : o + c.length ≤ cs.length) : (splice cs o c).length = cs.length := by
  simp [splice]; omega

theorem setD_rep {w : World} {G : Nat → Prop} {d : Dyn} {c : List Value} (hd : RepC w G d.t d.x c) : ∀ {t : Ty} {x x' : t.den} {p : List Nat} {cs : List Value}, setD t x p d = some x' → RepC w G t x cs →
    ∃ o, pathOff p t = some (o, d.t) ∧ RepC w G t x' (splice cs o c) ∧ o + c.length ≤ cs.length
  | t, x, x', [], cs, h, hr => by
    have h' : (if h : d.t = t then some (h ▸ d.x) else none : Option t.den) = some x' := by
      cases t <;> exact h
    split at h'
    · rename_i ht
      cases h'
      have hl : cs.length = c.length := by rw [hr.length, hd.length, ht]
      refine ⟨0, by rw [ht]; rfl, ?_, by omega⟩
      rw [splice_whole hl]
      exact castT_repC ht hd
    · cases h'
  | .cons a b, x, x', 0 :: p, cs, h, hr => by
    obtain ⟨c1, c2, rfl, h1, h2⟩ := hr
    simp only [setD] at h
    split at h
    · rename_i y hy
      cases h
      obtain ⟨o, ho, hr', hl⟩ := setD_rep hd (t := a) hy h1
      refine ⟨o, by simp [pathOff, fldOff, ho], ?_, by rw [List.length_append]; omega⟩
      rw [splice_left hl]
      exact ⟨_, _, rfl, hr', h2⟩
    · cases h
  | .cons a b, x, x', (k + 1) :: p, cs, h, hr => by
    obtain ⟨c1, c2, rfl, h1, h2⟩ := hr
    simp only [setD] at h
    split at h
    · rename_i y hy
      cases h
      obtain ⟨o, ho, hr', hl⟩ := setD_rep hd (t := b) hy h2
      have hp : pathOff ((k + 1) :: p) (.cons a b) = some (a.size + o, d.t) := by
        simp only [pathOff] at ho ⊢
        simp only [fldOff]
        split at ho
        · rename_i o1 t1 h3
          split at ho
          · rename_i o2 t2 h4
            cases ho
            simp [h4, Nat.add_assoc]
          · cases ho
        · cases ho
      refine ⟨a.size + o, hp, ?_, by rw [List.length_append, h1.length]; omega⟩
      rw [← h1.length, splice_right]
      exact ⟨_, _, rfl, h1, hr'⟩
    · cases h
  | .int _, _, _, 0 :: _, _, h, _ => by cases h
  | .bool, _, _, 0 :: _, _, h, _ => by cases h
  | .str, _, _, 0 :: _, _, h, _ => by cases h
  | .sl _, _, _, 0 :: _, _, h, _ => by cases h
  | .unit, _, _, 0 :: _, _, h, _ => by cases h
  | .int _, _, _, (_ + 1) :: _, _, h, _ => by cases h
  | .bool, _, _, (_ + 1) :: _, _, h, _ => by cases h
  | .str, _, _, (_ + 1) :: _, _, h, _ => by cases h
  | .sl _, _, _, (_ + 1) :: _, _, h, _ => by cases h
  | .unit, _, _, (_ + 1) :: _, _, h, _ => by cases h

theorem setD_own {w : World} {d : Dyn} {c : List Value} (hf : d.t.flat = true) (hd : OwnC w d.t d.x c []) : ∀ {t : Ty} {x x' : t.den} {p : List Nat} {cs : List Value} {bs : List Nat}, setD t x p d = some x' → OwnC w t x cs bs →
    ∃ o, pathOff p t = some (o, d.t) ∧ OwnC w t x' (splice cs o c) bs ∧ o + c.length ≤ cs.length
  | t, x, x', [], cs, bs, h, hr => by
    have h' : (if h : d.t = t then some (h ▸ d.x) else none : Option t.den) = some x' := by
      cases t <;> exact h
    split at h'
    · rename_i ht
      cases h'
      have hl : cs.length = c.length := by rw [hr.length, hd.length, ht]
      have hb := (hr.flat (w' := w) (G := fun _ => True) (by rw [← ht]; exact hf)).2
      refine ⟨0, by rw [ht]; rfl, ?_, by omega⟩
      rw [splice_whole hl, hb]
      exact castT_ownC ht hd
    · cases h'
  | .cons a b, x, x', 0 :: p, cs, bs, h, hr => by
    obtain ⟨c1, c2, b1, b2, rfl, rfl, h1, h2⟩ := hr
    simp only [setD] at h
    split at h
    · rename_i y hy
      cases h
      obtain ⟨o, ho, hr', hl⟩ := setD_own hf hd (t := a) hy h1
      refine ⟨o, by simp [pathOff, fldOff, ho], ?_, by rw [List.length_append]; omega⟩
      rw [splice_left hl]
      exact ⟨_, _, _, _, rfl, rfl, hr', h2⟩
    · cases h
  | .cons a b, x, x', (k + 1) :: p, cs, bs, h, hr => by
    obtain ⟨c1, c2, b1, b2, rfl, rfl, h1, h2⟩ := hr
    simp only [setD] at h
    split at h
    · rename_i y hy
      cases h
      obtain ⟨o, ho, hr', hl⟩ := setD_own hf hd (t := b) hy h2
      have hp : pathOff ((k + 1) :: p) (.cons a b) = some (a.size + o, d.t) := by
        simp only [pathOff] at ho ⊢
        simp only [fldOff]
        split at ho
        · rename_i o1 t1 h3
          split at ho
          · rename_i o2 t2 h4
            cases ho
            simp [h4, Nat.add_assoc]
          · cases ho
        · cases ho
      refine ⟨a.size + o, hp, ?_, by rw [List.length_append, h1.length]; omega⟩
      rw [← h1.length, splice_right]
      exact ⟨_, _, _, _, rfl, rfl, h1, hr'⟩
    · cases h
  | .int _, _, _, 0 :: _, _, _, h, _ => by cases h
  | .bool, _, _, 0 :: _, _, _, h, _ => by cases h
  | .str, _, _, 0 :: _, _, _, h, _ => by cases h
  | .sl _, _, _, 0 :: _, _, _, h, _ => by cases h
  | .unit, _, _, 0 :: _, _, _, h, _ => by cases h
  | .int _, _, _, (_ + 1) :: _, _, _, h, _ => by cases h
  | .bool, _, _, (_ + 1) :: _, _, _, h, _ => by cases h
  | .str, _, _, (_ + 1) :: _, _, _, h, _ => by cases h
  | .sl _, _, _, (_ + 1) :: _, _, _, h, _ => by cases h
  | .unit, _, _, (_ + 1) :: _, _, _, h, _ => by cases h

/-- The blocks of an element that is met. -/
theorem flatten_set_same {bss : List (List Nat)} {i : Nat} {bi : List Nat} (h : bss[i]? = some bi) : bss.set i bi = bss := by
  apply List.ext_getElem?
  intro j
  rw [List.getElem?_set]
  split
  · rename_i hij; subst hij
    have := (List.getElem?_eq_some_iff.1 h).1
    rw [if_pos this, h]
  · rfl

theorem splice_splice {l c1 c : List Value} {o1 o : Nat} (h : o + c.length ≤ c1.length) (hl : o1 + c1.length ≤ l.length) (hc : ∀ j v, c1[j]? = some v → l[o1 + j]? = some v) : splice l (o1 + o) c = splice l o1 (splice c1 o c) := by
  have hc1 : c1 = (l.drop o1).take c1.length := by
    apply List.ext_getElem?
    intro j
    rw [List.getElem?_take]
    by_cases hj : j < c1.length
    · rw [if_pos hj, List.getElem?_drop, List.getElem?_eq_getElem hj]
      exact (hc j _ (List.getElem?_eq_getElem hj)).symm
    · rw [if_neg hj, List.getElem?_eq_none (by omega)]
  unfold splice
  have hlen : (c1.take o ++ c ++ c1.drop (o + c.length)).length = c1.length := by simp; omega
  rw [hlen]
  have e1 : l.take (o1 + o) = l.take o1 ++ c1.take o := by
    rw [List.take_add, hc1, List.take_take, Nat.min_eq_left (by omega)]
  have e2 : l.drop (o1 + o + c.length) = c1.drop (o + c.length) ++ l.drop (o1 + c1.length) := by
    have : l.drop o1 = c1 ++ l.drop (o1 + c1.length) := by
      conv => lhs; rw [← List.take_append_drop c1.length (l.drop o1)]
      rw [← hc1, List.drop_drop]
    rw [Nat.add_assoc, ← List.drop_drop, this, List.drop_append_of_le_length (by omega)]
  rw [e1, e2]
  simp [List.append_assoc]

/-- **The store.** -/
theorem store_spec {tab : List TI} (hT : TabOk P tab) (hR : RelV n w0 O w a E L V own) {T : TypeId} {x y : Operand} {L' : Heap} (h : storeA tab L T (opnd E x) (opnd E y) = some L') :
    ∃ w', (Instr.storeAt T (a.eval x) (a.eval y)).run P w = .ok () w' ∧ RelV n w0 O w' a E L' V own := by
  unfold storeA at h
  split at h
  · rename_i r i p B hx hy
    split at h
    · rename_i t A ht hA
      split at h
      · rename_i z hbf hz
        split at h
        · rename_i x' hst
          cases h
          obtain ⟨A', hA', hi, b, off, m, cap, po, t', hv, hp, he⟩ := hR.atom hx
          rw [hA] at hA'; cases hA'
          obtain ⟨c, hvc, hcl, hrc, hec⟩ := entR_of_decB (repB_of_decB (hR.atom hy) hz) hz A.bor (fun hb => by rw [hb] at hbf; simpa using hbf)
          have hent := hR.heap r A hA
          rcases hent.2 with ⟨_, _, h1, _⟩ | ⟨b', off', cap', cur, ty, fz, bss, h1, h2, h3, h4, h5, h6, h7, h8, h9⟩
          · rw [h1] at hi; simp at hi
          · rw [h1] at hv
            cases hv
            have hib : i < bss.length := by rw [h7]; exact hi
            obtain ⟨cs, hcs1, hcs2, hcs3⟩ := h9 i _ _ (getD_of_lt A.xs i A.t.dflt hi) (List.getElem?_eq_getElem hib)
            have hnew : ∃ o, pathOff p A.t = some (o, t) ∧ (∀ w, entR w0 (Good w0 O) w A.t A.bor (A.xs.getD i A.t.dflt) cs bss[i] → entR w0 (Good w0 O) w A.t A.bor x' (splice cs o c) bss[i]) ∧ o + c.length ≤ cs.length := by
              cases hbor : A.bor with
              | true =>
                rw [hbor] at hcs3
                obtain ⟨o, e1, e2, e3⟩ := setD_rep (d := ⟨t, z⟩) hrc hst hcs3.1
                exact ⟨o, e1, fun w hh => ⟨e2, hh.2⟩, e3⟩
              | false =>
                rw [hbor] at hcs3 hbf
                have hfl : t.flat = true := by simpa using hbf
                obtain ⟨o, e1, e2, e3⟩ := setD_own (d := ⟨t, z⟩) hfl (hrc.own hfl (w' := w)) hst hcs3
                refine ⟨o, e1, fun w' hh => ?_, e3⟩
                obtain ⟨o', e1', e2', _⟩ := setD_own (d := ⟨t, z⟩) hfl (hrc.own hfl (w' := w')) hst hh
                rw [e1] at e1'
                cases e1'
                exact e2'
            obtain ⟨o, ho, hnw, hol⟩ := hnew
            rw [hp] at ho
            cases ho
            have hblt : b < w.heap.size := hent.lt b (by rw [h8]; exact List.mem_cons_self ..)
            have hsz : i * A.t.size + A.t.size ≤ cap * A.t.size := by
              have : (i + 1) * A.t.size ≤ cap * A.t.size := Nat.mul_le_mul_right _ (by omega)
              rw [Nat.add_mul, Nat.one_mul] at this; exact this
            obtain ⟨w', cur', hs1, hs2, hs3, hs4, hs5⟩ := storeCells_run (P := P) c w b (off + i * A.t.size + po) 0 cur ty fz h5 h6.1 (by omega) hrc.one
            have hcurlen : cur'.size = cur.size := by
              have := congrArg List.length hs3
              rw [splice_length (by simp; omega)] at this
              simpa using this
            refine ⟨w', ?_, ?_⟩
            · unfold Instr.storeAt
              rw [he, hvc]
              have hvs : (valOf t c).cells.toList = c := valOf_cells hrc
              have hvz : (valOf t c).cells.size = t.size := by rw [← Array.length_toList, hvs, hcl]
              simp only [Instr.sureAddr, Sem.run_bind, Sem.run_pure, Result.andThen_ok, storeVar, (TI.ty_ok (hT T) ht).size_run, hvz, hvs]
              simp only [ne_eq, not_true_eq_false, if_false]
              exact hs1
            · have hbown : b ∈ own r := by rw [h8]; exact List.mem_cons_self ..
              have hnot : ∀ s C, hget L s = some C → s ≠ r → ∀ d ∈ own s, d ≠ b := fun s C hs hsr d hd e => by
                subst e
                exact hR.apart s r C A hs hA hsr d hd hbown
              have hnb : ∀ d ∈ bss.flatten, d ≠ b := fun d hd e => by
                have := hR.nodup r A hA
                rw [h8, List.nodup_cons] at this
                exact this.1 (e ▸ hd)
              have hsplit : ∀ s C, hget (hset L r (some ⟨A.t, A.xs.set i x', A.bor⟩)) s = some C → (s ≠ r ∧ hget L s = some C) ∨ (s = r ∧ C = ⟨A.t, A.xs.set i x', A.bor⟩) := by
                intro s C hs
                by_cases hsr : s = r
                · subst hsr; rw [hget_hset_same hA] at hs; cases hs; exact .inr ⟨rfl, rfl⟩
                · exact .inl ⟨hsr, by rwa [hget_hset_other (Ne.symm hsr)] at hs⟩
              have hentw : EntC w0 (Good w0 O) w' ⟨A.t, A.xs.set i x', A.bor⟩ (V r) (own r) := by
                refine ⟨by simpa using hent.1, .inr ⟨b, off, cap, cur', ty, fz, bss, by simpa using h1, by simpa using h2, h3, by rw [hcurlen]; exact h4, hs2, by rw [hcurlen]; exact h6, by simpa using h7, h8, fun j y bj hy hbj => ?_⟩⟩
                have hkeep : ∀ d ∈ bj, w'.heap[d]? = w.heap[d]? := fun d hd => by
                  have hm := mem_flatten_of_get hbj d hd
                  exact hs4.block d (hent.lt d (by rw [h8]; exact List.mem_cons_of_mem _ hm)) (by simp [hnb d hm])
                have hkeepR : ∀ {yy : A.t.den} {cc : List Value}, entR w0 (Good w0 O) w A.t A.bor yy cc bj → entR w0 (Good w0 O) w' A.t A.bor yy cc bj := by
                  intro yy cc hh
                  revert hh
                  unfold entR
                  cases A.bor with
                  | true => exact id
                  | false => exact fun hh => hh.keep hkeep
                have hb2 : off + i * A.t.size + cs.length ≤ cur.toList.length := by rw [hcs1, Array.length_toList]; omega
                have hcsg : ∀ j v, cs[j]? = some v → cur.toList[off + i * A.t.size + j]? = some v := fun j v hj => by rw [Array.getElem?_toList]; exact hcs2 j v hj
                have hs3' : cur'.toList = splice cur.toList (off + i * A.t.size) (splice cs po c) := by
                  rw [hs3, Nat.add_zero]
                  exact splice_splice hol hb2 hcsg
                have hspl : (splice cs po c).length = cs.length := splice_length hol
                simp only at hy
                rw [List.getElem?_set] at hy
                by_cases hij : i = j
                · subst hij
                  rw [if_pos rfl, if_pos hi] at hy
                  cases hy
                  rw [List.getElem?_eq_getElem hib] at hbj
                  cases hbj
                  refine ⟨splice cs po c, by rw [hspl, hcs1], fun k v hk => ?_, hkeepR (hnw w hcs3)⟩
                  have hk' : k < cs.length := by rw [← hspl]; exact (List.getElem?_eq_some_iff.1 hk).1
                  rw [← Array.getElem?_toList, hs3', splice, List.append_assoc, List.getElem?_append_right (by simp; omega)]
                  rw [List.getElem?_append_left (by simp only [List.length_take]; omega)]
                  have : off + i * A.t.size + k - (cur.toList.take (off + i * A.t.size)).length = k := by simp only [List.length_take]; omega
                  rw [this]
                  exact hk
                · rw [if_neg hij] at hy
                  obtain ⟨ds, e1, e2, e3⟩ := h9 j y bj hy hbj
                  refine ⟨ds, e1, fun k v hk => ?_, hkeepR e3⟩
                  have hk' : k < A.t.size := by rw [← e1]; exact (List.getElem?_eq_some_iff.1 hk).1
                  show cur'[off + j * A.t.size + k]? = some v
                  have := e2 k v hk
                  rw [← Array.getElem?_toList] at this
                  rw [← Array.getElem?_toList, hs3', splice, hspl, hcs1]
                  rcases Nat.lt_or_gt_of_ne hij with hlt | hgt
                  · have hle : (i + 1) * A.t.size ≤ j * A.t.size := Nat.mul_le_mul_right _ hlt
                    rw [Nat.add_mul, Nat.one_mul] at hle
                    rw [List.getElem?_append_right (by simp only [List.length_append, List.length_take, hspl, hcs1]; omega), List.getElem?_drop]
                    simp only [List.length_append, List.length_take, hspl, hcs1]
                    rw [show off + i * A.t.size + A.t.size + (off + j * A.t.size + k - (min (off + i * A.t.size) cur.toList.length + A.t.size)) = off + j * A.t.size + k from by rw [Array.length_toList]; omega]
                    exact this
                  · have hle : (j + 1) * A.t.size ≤ i * A.t.size := Nat.mul_le_mul_right _ hgt
                    rw [Nat.add_mul, Nat.one_mul] at hle
                    rw [List.append_assoc, List.getElem?_append_left (by simp only [List.length_take, Array.length_toList]; omega), List.getElem?_take, if_pos (by omega)]
                    exact this
              refine ⟨hR.glob, ?_, hR.size, hR.defers, ?_, ?_, ?_, ?_, fun i => ?_⟩
              · refine ⟨hs4.os.trans hR.kept.os, hs4.tape.trans hR.kept.tape, hs4.output.trans hR.kept.output, Nat.le_trans hR.kept.size hs4.size, fun k hk hkO => ?_⟩
                rw [hs4.block k (Nat.lt_of_lt_of_le hk hR.kept.size) (by simp; exact fun e => hR.good r A hA b hbown (e ▸ ⟨hk, hkO⟩))]
                exact hR.kept.block k hk hkO
              · intro s C hs
                rcases hsplit s C hs with ⟨e1, e2⟩ | ⟨rfl, rfl⟩
                · exact (hR.heap s C e2).keep fun d hd => hs4.block d (hR.own_lt e2 d hd) (by simp [hnot s C e2 e1 d hd])
                · exact hentw
              · intro s C hs
                rcases hsplit s C hs with ⟨e1, e2⟩ | ⟨rfl, rfl⟩
                · exact hR.good s C e2
                · exact hR.good s A hA
              · intro s C hs
                rcases hsplit s C hs with ⟨e1, e2⟩ | ⟨rfl, rfl⟩
                · exact hR.nodup s C e2
                · exact hR.nodup s A hA
              · intro s u C D hs hu' hsu
                rcases hsplit s C hs with ⟨e1, e2⟩ | ⟨rfl, rfl⟩
                · rcases hsplit u D hu' with ⟨e3, e4⟩ | ⟨rfl, rfl⟩
                  · exact hR.apart s u C D e2 e4 hsu
                  · exact hR.apart s u C A e2 hA hsu
                · rcases hsplit u D hu' with ⟨e3, e4⟩ | ⟨rfl, rfl⟩
                  · exact hR.apart s u A D hA e4 hsu
                  · exact absurd rfl hsu
              · refine repP_agree (hR.env i) fun s hs => ⟨rfl, fun C hC => ?_⟩
                by_cases hsr : s = r
                · subst hsr
                  rw [hA] at hC; cases hC
                  exact ⟨_, hget_hset_same hA, rfl, by simp⟩
                · exact ⟨C, by rw [hget_hset_other (Ne.symm hsr)]; exact hC, rfl, rfl⟩
        · cases h
      · cases h
    · cases h
  · cases h
end
end Go.Am

/- The abstract machine, part 15: append, bytes and strings. -/
namespace Go.Am
set_option linter.unusedVariables false
set_option linter.unusedSimpArgs false

section
variable {P : Program}

theorem free_of (n : Nat) : Free (n, n + 1) n := fun j hj h => by omega

/-- 'append' over what lies in memory. -/
theorem append_run {w : World} {T T2 ty e : TypeId} {i : TypeInfo} {d : TypeDesc} {t : Ty} (hT : P.underlying T = some (.slice e)) (hT2 : P.underlying T2 = some d) (hd : ∀ k, d ≠ .int k) (hi : P.info? e = some i) (he : TyOk P e t) (hsz : 0 < t.size)
    {adr : Option Addr} {len cap m : Nat} {x : Value} {olds news : List Value} (hx : ∀ w' : World, w'.heap = w.heap → (Builtin.firstCells t.size m x).run P w' = .ok news.toArray w') (hxl : ∀ w', (Builtin.lenOf x).run P w' = .ok m w')
    (ho : ∀ w' : World, w'.heap = w.heap → (Builtin.firstCells t.size len (.slice adr len cap)).run P w' = .ok olds.toArray w') (hol : olds.length = len * t.size) (hnl : news.length = m * t.size) (h1 : ∀ v ∈ news, v.oneCell' = true)
    (hbound : (len + m) * i.bytes ≤ 140737488355328) (hml : len + m ≤ maxLen)
    (hadr : cap = 0 ∨ ∃ b o cur ct fz, adr = some ⟨b, o, none⟩ ∧ w.heap[b]? = some (.cells cur ct fz) ∧ FreeS t.size fz cur.size ∧ o + cap * t.size ≤ cur.size) :
    ∃ v' w', (Builtin.append_ #[T, T2] ty #[.slice adr len cap, x]).run P w = .ok v' w' ∧
      ((len + m ≤ cap ∧ ((cap = 0 ∧ v' = .slice adr 0 0 ∧ w' = w ∧ m = 0 ∧ len = 0) ∨
          cap ≠ 0 ∧ ∃ b o cur ct fz cur', adr = some ⟨b, o, none⟩ ∧ w.heap[b]? = some (.cells cur ct fz) ∧ FreeS t.size fz cur.size ∧ o + cap * t.size ≤ cur.size ∧ v' = .slice (some ⟨b, o, none⟩) (len + m) cap ∧ w'.heap[b]? = some (.cells cur' ct fz) ∧ cur'.toList = splice cur.toList (o + len * t.size) news ∧ Kept [b] w w')) ∨
       (cap < len + m ∧ ∃ nc rest, v' = .slice (some ⟨w.heap.size, 0, none⟩) (len + m) nc ∧ len + m ≤ nc ∧ nc ≤ maxLen ∧ w' = w.drew.alloc (.cells (olds ++ news ++ rest).toArray e) ∧ (olds ++ news ++ rest).length = nc * t.size)) := by
  have hzero : (match d with | .int _ => true | _ => false) = false := by
    cases d <;> first | rfl | exact absurd rfl (hd _)
  have hset : ∀ w, (sizeOf e).run P w = .ok t.size w := he.size_run
  by_cases hroom : len + m ≤ cap
  · by_cases hcap : cap = 0
    · subst hcap
      have e0 : m = 0 := by omega
      have e1 : len = 0 := by omega
      subst e0 e1
      have en : news = [] := List.eq_nil_of_length_eq_zero (by rw [hnl, Nat.zero_mul])
      subst en
      refine ⟨.slice adr 0 0, w, ?_, .inl ⟨hroom, .inl ⟨rfl, rfl, rfl, rfl, rfl⟩⟩⟩
      unfold Builtin.append_
      simp only [run_underlying hT, run_underlying hT2, hset, hzero, hxl, hx w rfl, Sem.run_bind, Result.andThen_ok]
      cases adr <;> simp [run_underlying hT, run_underlying hT2, hset, hzero, hxl, hx w rfl, storeCells]
    · obtain ⟨b, o, cur, ct, fz, rfl, hb, hf, hfit⟩ := hadr.resolve_left hcap
      have hle : (len + m) * t.size ≤ cap * t.size := Nat.mul_le_mul_right _ hroom
      rw [Nat.add_mul] at hle
      obtain ⟨w', cur', s1, s2, s3, s4, s5⟩ := storeCells_run (P := P) news w b (o + len * t.size) 0 cur ct fz hb hf.1 (by omega) h1
      refine ⟨_, w', ?_, .inl ⟨hroom, .inr ⟨hcap, b, o, cur, ct, fz, cur', rfl, hb, hf, hfit, rfl, s2, by rw [s3, Nat.add_zero], s4⟩⟩⟩
      unfold Builtin.append_
      simp [run_underlying hT, run_underlying hT2, hset, hzero, hxl, hx w rfl, hroom, Addr.add_lit, s1]
  · have hlt : cap < len + m := by omega
    have hge := grownCap_ge w (len + m) cap e
    have hcm := grownCap_le_maxLen w (len + m) cap e hml
    have hdl : (dcells t).length = t.size := (dcells_rep default (Good default []) t).length
    have hzl := zeros_list t (grownCap w (len + m) cap e - (len + m)) (dcells t).toArray (fun _ => rfl)
    refine ⟨.slice (some ⟨w.heap.size, 0, none⟩) (len + m) (grownCap w (len + m) cap e), _, ?_, .inr ⟨hlt, grownCap w (len + m) cap e, (List.replicate (grownCap w (len + m) cap e - (len + m)) (dcells t)).flatten, rfl, hge, hcm, rfl, ?_⟩⟩
    · have hfit := growslice_fits hlt hbound
      have h2 : ¬ (((len + m : Nat) : Int) > 9223372036854775807) := by unfold maxLen at hml; omega
      have h2' : ¬ ((9223372036854775807 : Int) < (len : Int) + (m : Int)) := by unfold maxLen at hml; omega
      have hzc : Builtin.zeroCells (valOf t (dcells t)).cells (grownCap w (len + m) cap e - (len + m)) = (List.replicate (grownCap w (len + m) cap e - (len + m)) (dcells t)).flatten.toArray := by
        rw [dcells_cells, ← hzl]
        simp only [Builtin.zeroCells, List.size_toArray, hdl]
      have hforced : (Question.appendCap (len + m) cap e).forced = false := rfl
      have hfit' : ¬ (281474976710656 < Builtin.nextslicecap (len + m) cap * i.bytes) := by omega
      have ho' := ho w.drew rfl
      have hx' := hx w.drew rfl
      have hgc : (Question.appendCap (len + m) cap e).cut (w.tape w.drawn (.appendCap (len + m) cap e)) = grownCap w (len + m) cap e := rfl
      have hdr : ({ w with drawn := w.drawn + 1 } : World) = w.drew := rfl
      unfold Builtin.append_
      simp [run_underlying hT, run_underlying hT2, hset, hzero, hxl, hroom, typeInfo, hi, h2', hfit', hforced, hgc, hdr, ho', hx', he.zero_run, hzc, newRow]
    · simp only [List.length_append, hol, hnl, List.length_flatten]
      simp [hdl]
      rw [← Nat.add_mul, ← Nat.add_mul]
      congr 1
      omega

theorem run_firstCells_slice {w : World} {sz m b o len cap : Nat} {cs : List Value} (hl : cs.length = m * sz) (hc : CellsAt w b o cs) : (Builtin.firstCells sz m (.slice (some ⟨b, o, none⟩) len cap)).run P w = .ok cs.toArray w := by
  have := run_loadCells_list (P := P) w ⟨b, o, none⟩ cs (fun j v hj => by rw [Addr.add_lit]; exact hc j v hj)
  simp only [Builtin.firstCells, ← hl, this]

theorem run_firstCells_nil {w : World} {sz m len cap : Nat} : (Builtin.firstCells sz m (.slice none len cap)).run P w = .ok #[] w := rfl
end

/-- What stands in the cells of a slice, row by row. -/
theorem SlAt.row {w : World} {G : Nat → Prop} {α : Type} {R : α → List Value → Prop} {sz : Nat} {xs : List α} {v : Value} (h : SlAt w G R sz xs v) :
    ∃ css bss, Row (fun y c b => R y c ∧ b = []) sz xs css bss ∧ bss.flatten = [] ∧ ((∃ ad, v = .slice ad 0 0 ∧ xs = []) ∨ ∃ b off cap, v = .slice (some ⟨b, off, none⟩) xs.length cap ∧ G b ∧ CellsAt w b off css.flatten) := by
  rcases h.2 with ⟨ad, rfl, rfl⟩ | ⟨b, off, cap, rfl, h1, h2, h3, h4⟩
  · exact ⟨[], [], ⟨rfl, rfl⟩, rfl, .inl ⟨ad, rfl, rfl⟩⟩
  · obtain ⟨css, hr, hc⟩ := row_of (R := fun y c b => R y c ∧ b = []) (sz := sz) (f := fun j => w.cell? ⟨b, j, none⟩) xs (List.replicate xs.length []) off (by simp) (fun i y bi hy hb => by
      obtain ⟨cs, e1, e2, e3⟩ := h4 i y hy
      have : bi = [] := by
        have := List.mem_of_getElem? hb
        exact (List.mem_replicate.1 this).2
      exact ⟨cs, e1, e2, e3, this⟩)
    exact ⟨css, _, hr, by simp, .inr ⟨b, off, cap, rfl, h3, hc⟩⟩

/-- The same of an owned array whose elements own nothing. -/
theorem OwnSl.row {w : World} {α : Type} {R : α → List Value → List Nat → Prop} {sz : Nat} {xs : List α} {v : Value} {bs : List Nat} (h : OwnSl w R sz xs v bs) :
    ∃ css bss, Row R sz xs css bss ∧ ((∃ ad, v = .slice ad 0 0 ∧ xs = [] ∧ bs = []) ∨ ∃ b off cap cur ty fz, v = .slice (some ⟨b, off, none⟩) xs.length cap ∧ xs.length ≤ cap ∧ cap ≤ maxLen ∧ off + cap * sz ≤ cur.size ∧
      w.heap[b]? = some (.cells cur ty fz) ∧ FreeS sz fz cur.size ∧ bs = b :: bss.flatten ∧ ∀ j c, css.flatten[j]? = some c → cur[off + j]? = some c) := by
  rcases h.2 with ⟨ad, rfl, rfl, rfl⟩ | ⟨b, off, cap, cur, ty, fz, bss, rfl, h1, h2, h3, h4, h5, h6, h7, h8⟩
  · exact ⟨[], [], ⟨rfl, rfl⟩, .inl ⟨ad, rfl, rfl, rfl⟩⟩
  · obtain ⟨css, hr, hc⟩ := row_of (R := R) (sz := sz) (f := fun j => cur[j]?) xs bss off h6 (fun i y bi hy hb => h8 i y bi hy hb)
    exact ⟨css, bss, hr, .inr ⟨b, off, cap, cur, ty, fz, rfl, h1, h2, h3, h4, h5, h7, hc⟩⟩
end Go.Am
