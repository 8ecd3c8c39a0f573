/- The abstract machine, part 24: cut points, runs between them with nil slices taken as owned ones. -/
import Derived.Test.YtjoimmmpaocfkaaAm23
namespace Go.Am
set_option linter.unusedVariables false
set_option linter.unusedSimpArgs false

def bodyOf (f : Func) : Code := match f.body with | some c => c | none => .skip

def firstRegion : Code → Nat
  | .region id _ _ => id
  | .seq x _ => firstRegion x
  | .block _ c => firstRegion c
  | .loop c => firstRegion c
  | .scope c => firstRegion c
  | _ => 999999

def orL : Option (List Item) → Option (List Item) → Option (List Item)
  | some k, _ => some k
  | none, x => x

/-- The things to do at a cut point: a loop whose first region is this one, or this region. -/
def findC (id : Nat) : Code → List Item → Option (List Item)
  | .seq x y, k => orL (findC id x (.code y :: k)) (findC id y k)
  | .block b c, k => findC id c (.inBlock b :: k)
  | .loop c, k => match Nat.beq (firstRegion c) id with
    | true => some (.code c :: .inLoop c :: k)
    | false => findC id c (.inLoop c :: k)
  | .cond _ x y, k => orL (findC id x k) (findC id y k)
  | .region r ops d, k => match Nat.beq r id with
    | true => some (.code (.region r ops d) :: k)
    | false => none
  | _, _ => none

def cutAt (c : Code) (id : Nat) : List Item := match findC id c [] with | some k => k | none => []

def nilA (t : Nat) (ty : Ty) (EL : Env × Heap) : Env × Heap :=
  match EL.1.get t with
  | .a (.val (.slice none _ _)) => (EL.1.set t (.a (.osl EL.2.length none)), EL.2 ++ [some ⟨ty, [], false⟩])
  | _ => EL

def nilsA : List (Nat × Ty) → Env × Heap → Env × Heap
  | [], EL => EL
  | (t, ty) :: r, EL => nilsA r (nilA t ty EL)

section
variable {P : Program} {n : Nat} {w0 w : World} {O : List Nat} {a : Act} {V : Nat → Value} {own : Nat → List Nat} {f : FuncId} {R : Ending → World → Prop} {E : Env} {L : Heap}

theorem RelV.reset (hR : RelV n w0 O w a E L V own) {t : Nat} {p : PV} (hp : RepP w0 (Good w0 O) L V p (a.tmps.getD t undef)) : RelV n w0 O w a (E.set t p) L V own :=
  ⟨hR.kept, hR.size, hR.defers, hR.heap, hR.good, hR.nodup, hR.apart, fun i => by
    rw [Env.get_set]
    split
    · rename_i h; subst h; exact hp
    · exact hR.env i⟩

theorem nilA_spec (hR : RelV n w0 O w a E L V own) (t : Nat) (ty : Ty) : ∃ V' own', RelV n w0 O w a (nilA t ty (E, L)).1 (nilA t ty (E, L)).2 V' own' := by
  unfold nilA
  split
  · rename_i m c hg
    have hv := hR.env t
    simp only at hg
    rw [hg] at hv
    obtain ⟨hv, h0, h1⟩ := hv
    subst h0 h1
    have hE : EntC w0 (Good w0 O) w ⟨ty, [], false⟩ (.slice none 0 0) [] := ⟨by simp [maxLen], .inl ⟨rfl, rfl, rfl⟩⟩
    have hR' := hR.grow hE List.nodup_nil (fun b hb => by cases hb) (fun r A hA b hb hm => by cases hm)
    refine ⟨_, _, hR'.reset ?_⟩
    rw [hv]
    exact repA_new (w0 := w0) (G := Good w0 O) (u := w0) (G' := Good w0 O) (w := w) hE
  · exact ⟨V, own, hR⟩

theorem nilsA_spec : ∀ {l : List (Nat × Ty)} {E : Env} {L : Heap} {V : Nat → Value} {own : Nat → List Nat}, RelV n w0 O w a E L V own → ∃ V' own', RelV n w0 O w a (nilsA l (E, L)).1 (nilsA l (E, L)).2 V' own'
  | [], E, L, V, own, hR => ⟨V, own, hR⟩
  | (t, ty) :: r, E, L, V, own, hR => by
    obtain ⟨V', own', h⟩ := nilA_spec hR t ty
    show ∃ V' own', RelV n w0 O w a (nilsA r (nilA t ty (E, L))).1 (nilsA r (nilA t ty (E, L))).2 V' own'
    generalize nilA t ty (E, L) = EL at h
    obtain ⟨E1, L1⟩ := EL
    exact nilsA_spec h

/-- A run to the next cut point. -/
def runN (tab : List TI) (ext : Ext) (wr : Bool) (n : Nat) (stops : List Nat) (m : Nat) (pins : List Nat) (nils : List (Nat × Ty)) (ks : List Nat) (bs : List Bool) (path : List Bool) (k : List Item) (E : Env) (L : Heap) : Option (List Item × Env × Heap × List Prop) :=
  match runA tab ext wr n stops m true k ⟨path, [], E, L, [], pins⟩ with
  | some (.stop k' S) => match nilsA nils (S.E, S.L) with
    | (E1, L1) => match envOk bs (Am.keepE E1 ks) && decide (S.pins = pins) with
      | true => some (k', Am.keepE E1 ks, Am.keepL bs L1, S.cs)
      | false => none
  | _ => none

theorem AtV.runN {tab : List TI} {ext : Ext} (hT : TabOk P tab) (hX : ExtOk P ext) (hm : P.follows .mixedOrders = true) {wr : Bool} {stops : List Nat} {m : Nat} {q : Nat → Value} {pins : List Nat} {nils : List (Nat × Ty)} {ks : List Nat} {bs : List Bool} {path : List Bool} {k k' : List Item} {E' : Env} {L' : Heap} {cs : List Prop}
    (h : Am.runN tab ext wr n stops m pins nils ks bs path k E L = some (k', E', L', cs)) (hc : All cs) (hk : AtV P f R n w0 O q pins k' E' L') : AtV P f R n w0 O q pins k E L := by
  intro a w V own hR hq
  unfold Am.runN at h
  split at h
  · rename_i k1 S hr
    split at h
    rename_i E1 L1 hnil
    split at h
    · rename_i hb
      simp only [Bool.and_eq_true, decide_eq_true_eq] at hb
      obtain ⟨hb, hp⟩ := hb
      cases h
      refine runA_run hT hX hm hr hc hR ⟨fun t d ht => by simp [lookB] at ht, hq⟩ ?_
      intro a' w' V' own' hR' hq'
      rw [hp] at hq'
      obtain ⟨V2, own2, hR2⟩ := nilsA_spec (l := nils) hR'
      rw [hnil] at hR2
      exact hk _ _ _ _ ((hR2.keepE ks).keepL hb) hq'
    · cases h
  · cases h
end
end Go.Am
