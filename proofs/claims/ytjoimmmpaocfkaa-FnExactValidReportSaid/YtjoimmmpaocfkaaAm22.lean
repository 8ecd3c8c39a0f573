/- The abstract machine, part 22: a law's arguments, and its statement. -/
import Derived.Test.YtjoimmmpaocfkaaAm21
import Derived.ProofKit
import Derived.Carry
namespace Go.Am
open Go.ChangeShapes Go.WideShapes Go.ChangeAt Go.RowKit
set_option linter.unusedVariables false
set_option linter.unusedSimpArgs false

def wrapB (P : Program) (agg : Bool) (T : TypeId) (k : TypeId ⊕ (List Field × Nat) → Bool) : Bool :=
  match agg with
  | true => match P.underlying T with
    | some (.struct fs) => k (.inr (fs.toList, 0))
    | _ => false
  | false => k (.inl T)


/-- A type that holds no pointer reads as a tree. -/
def readsB (P : Program) : Ty → TypeId ⊕ (List Field × Nat) → Bool
  | .int k, .inl T => isIntB k (P.underlying T)
  | .bool, .inl T => isBoolB (P.underlying T)
  | .str, .inl T => isStrB (P.underlying T)
  | .unit, .inr ([], _) => true
  | .cons a b, .inr (f :: fs, o) => Nat.beq f.offset o && (Nat.beq (P.cellsOf f.type) a.size && (wrapB P a.agg f.type (readsB P a) && readsB P b (.inr (fs, o + a.size))))
  | _, _ => false

def readsT (P : Program) (t : Ty) (T : TypeId) : Bool := Nat.beq (P.cellsOf T) t.size && wrapB P t.agg T (readsB P t)

section
variable {H : Type} {enc : TypeId × Value → H} {P : Program} {w : World} {base : Nat} {spare : Nat → Bool} {held : Bool} {G : Nat → Prop}


def TrodOne (enc : TypeId × Value → H) (P : Program) (w : World) (base : Nat) (spare : Nat → Bool) (held : Bool) (cs : List Value) (f : Field) : Prop :=
  ∃ n x, DataW.trod enc P w base spare held n f.type ((cs.drop f.offset).take (P.cellsOf f.type)) = some x

theorem trod_fields {T : TypeId} {fs : Array Field} {fuel : Nat} {cs : List Value} {x : DataW H × List MemPlace} (ht : P.underlying T = some (.struct fs)) (h : DataW.trod enc P w base spare held fuel T cs = some x) :
    cs.length = P.cellsOf T ∧ ∀ f ∈ fs.toList, TrodOne enc P w base spare held cs f := by
  obtain ⟨xs, n, _, _, hl, hx, hf⟩ := DataW.trod_struct ht h
  refine ⟨hl, fun f hf' => ?_⟩
  obtain ⟨i, hi⟩ := List.getElem?_of_mem hf'
  rw [Array.getElem?_toList] at hi
  have hlt : i < fs.size := (Array.getElem?_eq_some_iff.1 hi).1
  have := hf i f hi
  exact ⟨n, xs[i]'(by omega), by rw [this]; exact List.getElem?_eq_getElem _⟩

theorem trod_rep : ∀ (t : Ty),
    (∀ T fuel cs x, wrapB P t.agg T (readsB P t) = true → P.cellsOf T = t.size → DataW.trod enc P w base spare held fuel T cs = some x → ∃ y, RepC w G t y cs) ∧
    (∀ fs o cs, readsB P t (.inr (fs, o)) = true → (∀ f ∈ fs, TrodOne enc P w base spare held cs f) → cs.length = o + t.size → ∃ y, RepC w G t y (cs.drop o))
  | .int k => by
    refine ⟨fun T fuel cs x h _ ht => ?_, fun fs o cs h => by simp [readsB] at h⟩
    have hu := isIntB_eq (by simpa [wrapB, Ty.agg, readsB] using h)
    obtain ⟨n, rfl, _, hw⟩ := DataW.trod_int hu ht
    exact ⟨n, rfl, by simpa [Lit.wf, InR] using hw⟩
  | .bool => by
    refine ⟨fun T fuel cs x h _ ht => ?_, fun fs o cs h => by simp [readsB] at h⟩
    have hu := isBoolB_eq (by simpa [wrapB, Ty.agg, readsB] using h)
    obtain ⟨b, rfl, _⟩ := DataW.trod_bool hu ht
    exact ⟨b, rfl⟩
  | .str => by
    refine ⟨fun T fuel cs x h _ ht => ?_, fun fs o cs h => by simp [readsB] at h⟩
    have hu := isStrB_eq (by simpa [wrapB, Ty.agg, readsB] using h)
    obtain ⟨s, rfl, _, hs⟩ := DataW.trod_string hu ht
    exact ⟨s, rfl, hs⟩
  | .sl e => by
    exact ⟨fun T fuel cs x h => by simp [wrapB, Ty.agg, readsB] at h, fun fs o cs h => by simp [readsB] at h⟩
  | .unit => by
    have hB : ∀ fs o cs, readsB P .unit (.inr (fs, o)) = true → (∀ f ∈ fs, TrodOne enc P w base spare held cs f) → cs.length = o + Ty.unit.size → ∃ y, RepC w G .unit y (cs.drop o) := by
      intro fs o cs h _ hl
      refine ⟨(), ?_⟩
      show cs.drop o = []
      rw [List.drop_eq_nil_iff]
      simp [Ty.size] at hl
      omega
    refine ⟨fun T fuel cs x h hc ht => ?_, hB⟩
    simp only [wrapB, Ty.agg] at h
    split at h
    · rename_i fs hu
      obtain ⟨h1, h2⟩ := trod_fields hu ht
      simpa using hB _ _ cs h h2 (by rw [h1, hc]; simp)
    · cases h
  | .cons a b => by
    obtain ⟨ha, _⟩ := trod_rep a
    obtain ⟨_, hb⟩ := trod_rep b
    have hB : ∀ fs o cs, readsB P (.cons a b) (.inr (fs, o)) = true → (∀ f ∈ fs, TrodOne enc P w base spare held cs f) → cs.length = o + (Ty.cons a b).size → ∃ y, RepC w G (.cons a b) y (cs.drop o) := by
      intro fs o cs h hf hl
      match fs, h with
      | [], h => simp [readsB] at h
      | f :: fs, h =>
        simp only [readsB, Bool.and_eq_true] at h
        obtain ⟨h1, h2, h3, h4⟩ := h
        have h1 := Nat.eq_of_beq_eq_true h1
        have h2 := Nat.eq_of_beq_eq_true h2
        simp only [Ty.size] at hl
        obtain ⟨n, x, hx⟩ := hf f (List.mem_cons_self ..)
        rw [h1, h2] at hx
        obtain ⟨y1, hy1⟩ := ha _ _ _ _ h3 h2 hx
        obtain ⟨y2, hy2⟩ := hb fs (o + a.size) cs h4 (fun g hg => hf g (List.mem_cons_of_mem _ hg)) (by omega)
        refine ⟨(y1, y2), _, _, ?_, hy1, hy2⟩
        rw [← List.drop_drop]
        exact (List.take_append_drop _ _).symm
    refine ⟨fun T fuel cs x h hc ht => ?_, hB⟩
    simp only [wrapB, Ty.agg] at h
    split at h
    · rename_i fs hu
      obtain ⟨h1, h2⟩ := trod_fields hu ht
      simpa using hB _ _ cs h h2 (by rw [h1, hc]; simp)
    · cases h

/-- An argument's type: one that holds no pointer, or a slice of such. -/
def argB (P : Program) : Ty → TypeId → Bool
  | .sl e, T => match P.underlying T with
    | some (.slice E) => readsT P e E && !Nat.beq e.size 0
    | _ => false
  | t, T => readsT P t T

theorem okWide_agg {r : Reach} {b0 : Nat} {T : TypeId} {v : Value} {fs : Array Field} (hu : P.underlying T = some (.struct fs)) (h : Value.okWide P w r b0 T v) : ∃ cs, v = .agg cs := by
  simp only [Value.okWide, hu] at h
  obtain ⟨cs, hv, _⟩ := h
  exact ⟨cs, hv⟩

theorem trod_flat_arg {r : Reach} {b0 : Nat} {t : Ty} {T : TypeId} {v : Value} {d : DataW H} {ps : List MemPlace} (hB : readsT P t T = true) (hv : Value.okWide P w r b0 T v) (h : DataW.Trod enc P w base spare held T v d ps) :
    ∃ x : t.den, RepB w G (toAtom t x) v := by
  simp only [readsT, Bool.and_eq_true] at hB
  obtain ⟨hc, hB⟩ := hB
  have hc := Nat.eq_of_beq_eq_true hc
  obtain ⟨fuel, hf⟩ := h
  obtain ⟨y, hy⟩ := (trod_rep (G := G) t).1 T fuel _ _ hB hc hf
  refine ⟨y, ?_⟩
  cases t with
  | int k =>
    have hu := isIntB_eq (by simpa [wrapB, Ty.agg, readsB] using hB)
    obtain ⟨n, rfl⟩ := okWide_int hu hv
    obtain ⟨h1, h2⟩ := hy
    simp [Value.cells] at h1
    subst h1
    exact ⟨rfl, h2⟩
  | bool =>
    have hu := isBoolB_eq (by simpa [wrapB, Ty.agg, readsB] using hB)
    obtain ⟨b, rfl⟩ := okWide_bool hu hv
    have h1 : ([.bool b] : List Value) = [.bool y] := hy
    cases h1
    exact ⟨rfl, trivial⟩
  | str =>
    have hu := isStrB_eq (by simpa [wrapB, Ty.agg, readsB] using hB)
    obtain ⟨s, rfl⟩ := okWide_string hu hv
    obtain ⟨h1, h2⟩ := hy
    simp [Value.cells] at h1
    subst h1
    exact ⟨rfl, h2⟩
  | sl e => simp [wrapB, Ty.agg, readsB] at hB
  | unit =>
    simp only [wrapB, Ty.agg] at hB
    split at hB
    · rename_i fs hu
      obtain ⟨cs, rfl⟩ := okWide_agg hu hv
      exact ⟨cs.toList, by simp, hy⟩
    · cases hB
  | cons a b =>
    simp only [wrapB, Ty.agg] at hB
    split at hB
    · rename_i fs hu
      obtain ⟨cs, rfl⟩ := okWide_agg hu hv
      exact ⟨cs.toList, by simp, hy⟩
    · cases hB

theorem cells_list {a : Addr} {n : Nat} {cs : List Value} (h : w.cells? base a n = some cs) : cs.length = n ∧ ∀ j c, cs[j]? = some c → w.cell? (a.add j) = some c := by
  unfold World.cells? at h
  split at h
  · have key : ∀ (l : List Nat) (cs : List Value), (l.mapM fun i => w.cell? (a.add i)) = some cs → cs.length = l.length ∧ ∀ (j : Nat) (c : Value) (i : Nat), cs[j]? = some c → l[j]? = some i → w.cell? (a.add i) = some c := by
      intro l
      induction l with
      | nil => intro cs h; simp at h; subst h; simp
      | cons i l ih =>
        intro cs h
        rw [List.mapM_cons] at h
        cases hc : w.cell? (a.add i) with
        | none => simp [hc] at h
        | some c =>
          cases hr : l.mapM fun i => w.cell? (a.add i) with
          | none => simp [hc, hr] at h
          | some r =>
            simp [hc, hr] at h
            subst h
            obtain ⟨h1, h2⟩ := ih r hr
            refine ⟨by simp [h1], fun j c' i' hj hi => ?_⟩
            cases j with
            | zero => simp at hj hi; subst hj hi; exact hc
            | succ j => exact h2 j c' i' (by simpa using hj) (by simpa using hi)
    obtain ⟨h1, h2⟩ := key _ _ h
    refine ⟨by simpa using h1, fun j c hj => h2 j c j hj ?_⟩
    have hlt := (List.getElem?_eq_some_iff.1 hj).1
    have h1' : cs.length = n := by simpa using h1
    rw [List.getElem?_range (by omega)]
  · cases h

theorem has_spot {r : Reach} {b0 : Nat} {T E : TypeId} {a : Addr} {len cap : Nat} (hu : P.underlying T = some (.slice E)) (hv : Value.okWide P w r b0 T (.slice (some a) len cap)) : a.spot = none ∧ a.block < w.heap.size := by
  simp only [Value.okWide, hu, Cell.okWide, Cell.ok] at hv
  obtain ⟨_, _, hh⟩ := hv
  obtain ⟨_, hs, row, cells, hsh, _⟩ := hh
  refine ⟨hs, ?_⟩
  rcases Nat.lt_or_ge a.block w.heap.size with hlt | hge
  · exact hlt
  · simp [World.shape?, Array.getElem?_eq_none hge] at hsh

theorem trod_arg {r : Reach} {b0 : Nat} {t : Ty} {T : TypeId} {v : Value} {d : DataW H} {ps : List MemPlace} (hB : argB P t T = true) (hv : Value.okWide P w r b0 T v) (h : DataW.Trod enc P w base spare held T v d ps) :
    ∃ x : t.den, RepB w (Good w []) (toAtom t x) v := by
  unfold argB at hB
  split at hB
  · rename_i e
    split at hB
    · rename_i E hu
      simp only [Bool.and_eq_true] at hB
      obtain ⟨hr, hz⟩ := hB
      simp only [readsT, Bool.and_eq_true] at hr
      obtain ⟨hc, hr⟩ := hr
      have hc := Nat.eq_of_beq_eq_true hc
      obtain ⟨a0, len, cap, rfl⟩ := okWide_slice hu hv
      obtain ⟨fuel, hf⟩ := h
      rcases DataW.trod_slice hu hf with ⟨h1, _⟩ | ⟨a, len', cap', elems, rest, n, _, h1, _, _, hl, hm, hlen, hel, _⟩
      · simp [Value.cells] at h1
        obtain ⟨rfl, rfl, rfl⟩ := h1
        exact ⟨[], by simp [maxLen], .inl ⟨rfl, rfl⟩⟩
      · simp [Value.cells] at h1
        obtain ⟨rfl, rfl, rfl⟩ := h1
        obtain ⟨hs, hb⟩ := has_spot hu hv
        obtain ⟨b, off, spot⟩ := a
        simp only at hs hb
        subst hs
        have each : ∀ i, i < len → ∃ y cs, cs.length = e.size ∧ (∀ j c, cs[j]? = some c → w.cell? ⟨b, off + i * e.size + j, none⟩ = some c) ∧ RepC w (Good w []) e y cs := by
          intro i hi
          have hx := hel i hi
          rw [List.getElem?_eq_getElem (by omega)] at hx
          simp only [Option.bind_eq_some_iff] at hx
          obtain ⟨cs, g1, g2⟩ := hx
          obtain ⟨k1, k2⟩ := cells_list g1
          obtain ⟨y, hy⟩ := (trod_rep (G := Good w []) e).1 E _ _ _ hr hc g2
          refine ⟨y, cs, by rw [k1, hc], fun j c hj => ?_, hy⟩
          have := k2 j c hj
          rw [hc] at this
          rw [Addr.add_lit, Addr.add_lit] at this
          exact this
        have build : ∀ k, k ≤ len → ∃ ys : List e.den, ys.length = k ∧ ∀ i y, ys[i]? = some y → ∃ cs, cs.length = e.size ∧ (∀ j c, cs[j]? = some c → w.cell? ⟨b, off + i * e.size + j, none⟩ = some c) ∧ RepC w (Good w []) e y cs := by
          intro k
          induction k with
          | zero => intro _; exact ⟨[], rfl, fun i y h => by simp at h⟩
          | succ k ih =>
            intro hk
            obtain ⟨ys, h1, h2⟩ := ih (by omega)
            obtain ⟨y, cs, g1, g2, g3⟩ := each k (by omega)
            refine ⟨ys ++ [y], by simp [h1], fun i z hz => ?_⟩
            by_cases hi : i < ys.length
            · rw [List.getElem?_append_left hi] at hz
              exact h2 i z hz
            · have hlt := (List.getElem?_eq_some_iff.1 hz).1
              simp at hlt
              have : i = k := by omega
              subst this
              rw [List.getElem?_append_right (by omega)] at hz
              simp [h1] at hz
              subst hz
              exact ⟨cs, g1, g2, g3⟩
        obtain ⟨ys, h1, h2⟩ := build len (Nat.le_refl _)
        refine ⟨ys, by omega, .inr ⟨b, off, cap, by rw [h1], by omega, by omega, ⟨hb, by simp⟩, h2⟩⟩
    · cases hB
  · exact trod_flat_arg hB hv h

/-- The arguments of a law. -/
theorem trod_args {r : Reach} {b0 : Nat} : ∀ {ts : List Ty} {Ts : List TypeId} {vs : List Value} {ds : List (DataW H)} {ps : List MemPlace}, ts.length = Ts.length → (∀ (i : Nat) (t : Ty) (T : TypeId), ts[i]? = some t → Ts[i]? = some T → argB P t T = true) →
    (∀ (j : Nat) T v, Ts[j]? = some T → vs[j]? = some v → Value.okWide P w r b0 T v) → DataW.TrodAll enc P w base spare held Ts vs ds ps →
    ∃ (x : sigDen (ts.map AT.v)) (bss : List (List Nat)), bss.flatten = [] ∧ ArgsRep w (Good w []) (ts.map AT.v) x vs bss
  | [], [], [], [], _, _, _, _, _ => ⟨(), [], rfl, rfl, rfl⟩
  | t :: ts, T :: Ts, v :: vs, d :: ds, ps, hl, hB, hv, h => by
    obtain ⟨p, q, h1, h2, _⟩ := h
    obtain ⟨x, hx⟩ := trod_arg (hB 0 t T rfl rfl) (hv 0 T v rfl rfl) h1
    obtain ⟨y, bss, hb, hy⟩ := trod_args (by simpa using hl) (fun i t T h1 h2 => hB (i + 1) t T (by simpa using h1) (by simpa using h2)) (fun j T v h1 h2 => hv (j + 1) T v (by simpa using h1) (by simpa using h2)) h2
    exact ⟨(x, y), [] :: bss, by simpa using hb, v, vs, [], bss, rfl, rfl, ⟨rfl, hx⟩, hy⟩
  | [], _ :: _, _, _, _, hl, _, _, _ => by simp at hl
  | _ :: _, [], _, _, _, hl, _, _, _ => by simp at hl
end
end Go.Am
